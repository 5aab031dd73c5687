/- Joined: UpB, CpA, CpB, CpC, CpD, CoG, CoH, CoI, CoJ, ShaA. -/
import Derived.Test.YtpgedmighmolnaaGreatGw11
import Derived.Test.YtpgedmighmolnaaGreatRows
/- The bound of the rows' second form as a measure of data. -/
namespace Go.Proofs.YtpgedmighmolnaaGreat.upb
open Go Go.Cn

theorem one_le {H : Type} (d : DataW H) : 1 ≤ Rows.uptoBulk d := by
  cases d with
  | lit l => cases l <;> simp [Rows.uptoBulk]
  | nil => simp [Rows.uptoBulk]
  | ptr d => simp [Rows.uptoBulk]
  | slice elems spare => simp [Rows.uptoBulk]
  | agg parts => simp [Rows.uptoBulk]
  | iface t d => simp [Rows.uptoBulk]
  | map entries => simp [Rows.uptoBulk]
  | held h => simp [Rows.uptoBulk]

theorem part_le {H : Type} {d : DataW H} {l : List (DataW H)} (h : d ∈ l) : Rows.uptoBulk d ≤ Rows.uptoBulkAll l := by
  induction l with
  | nil => cases h
  | cons x r ih =>
    simp only [Rows.uptoBulkAll]
    cases List.mem_cons.1 h with
    | inl e => subst e; omega
    | inr e => have := ih e; omega

theorem length_le {H : Type} (l : List (DataW H)) : l.length ≤ Rows.uptoBulkAll l := by
  induction l with
  | nil => simp [Rows.uptoBulkAll]
  | cons x r ih => have := one_le x; simp only [Rows.uptoBulkAll, List.length_cons]; omega

theorem meas {H : Type} : Meas (H := H) Rows.uptoBulk := by
  refine ⟨fun elems spare => ⟨?_, fun d hd => ?_⟩, fun parts d hd => ?_, fun bytes => ?_⟩
  · have h1 := length_le elems
    have h2 := length_le spare
    simp only [Rows.uptoBulk]; omega
  · have := part_le hd
    simp only [Rows.uptoBulk]; omega
  · have := part_le hd
    simp only [Rows.uptoBulk]; omega
  · simp [Rows.uptoBulk]

theorem bound {H : Type} {l : List (DataW H)} (hk : Rows.uptoSmall H l = true) : ∀ d ∈ l, Rows.uptoBulk d ≤ 1048576 := by
  intro d hd
  have h1 := part_le hd
  have h2 : Rows.uptoBulkAll l ≤ 1048576 := of_decide_eq_true hk
  omega
end Go.Proofs.YtpgedmighmolnaaGreat.upb

/- A run that leaves the heap as it was, but for new blocks that nothing names: its contract without these blocks. Evaluation in which some functions answer by a law. -/
set_option linter.unusedVariables false
set_option linter.unusedSimpArgs false
namespace Go.Cn

theorem VRel.pull {σ σ1 : Sg} (hle : σ.le σ1) {v u : Value} (h : VRel σ v u) : ∀ {v' : Value}, VRel σ1 v v' → VRel σ v v' := by
  induction h with
  | unk v => intro v' _; exact .unk _
  | bool b => intro v' h1; rw [h1.bool_inv]; exact .bool b
  | int k n => intro v' h1; rw [h1.int_inv]; exact .int k n
  | float k n => intro v' h1; cases h1; exact .float k n
  | complex k n m => intro v' h1; cases h1; exact .complex k n m
  | string s => intro v' h1; rw [h1.string_inv]; exact .string s
  | nilFunc => intro v' h1; rw [h1.nilFunc_inv]; exact .nilFunc
  | nilIface => intro v' h1; rw [h1.nilIface_inv]; exact .nilIface
  | pnil => intro v' h1; rw [h1.pnil_inv]; exact .pnil
  | ptr b o e hb =>
    intro v' h1
    obtain ⟨_, e', he, rfl⟩ := h1.ptr_inv
    have := hle _ _ hb
    rw [this] at he; cases he
    exact .ptr b o e hb
  | snil => intro v' h1; obtain ⟨_, _, rfl⟩ := h1.snil_inv; exact .snil
  | sexact b o l c e a hb hl ha =>
    intro v' h1
    cases h1 with
    | sexact b o l c e' a' hb' hl' ha' =>
      have := hle _ _ hb
      rw [this] at hb'; cases hb'
      exact .sexact b o l c e a' hb hl' ha'
  | sopen b o n l c c' e a hb hl hc ha =>
    intro v' h1
    cases h1 with
    | sopen b o n l c c2 e' a' hb' hl' hc' ha' =>
      have := hle _ _ hb
      rw [this] at hb'; cases hb'
      exact .sopen b o n l c c2 e a' hb hl' hc' ha'
  | mnil => intro v' h1; rw [h1.mnil_inv]; exact .mnil
  | map b e hb =>
    intro v' h1
    obtain ⟨e', he, rfl⟩ := h1.map_inv
    have := hle _ _ hb
    rw [this] at he; cases he
    exact .map b e hb
  | yield l e hl =>
    intro v' h1
    obtain ⟨e', he, rfl⟩ := h1.yield_inv
    have := hle _ _ hl
    rw [this] at he; cases he
    exact .yield l e hl
  | one b => intro v' h1; rw [h1.one_inv]; exact .one b
  | func fn a b a' b' hf ha hb h1 h2 ih1 ih2 =>
    intro v' h3
    obtain ⟨p, q, rfl, hp, hq⟩ := h3.func_inv hf
    refine .func fn a b p q hf hp.1 hq.1 (fun i x y hx hy => ?_) (fun i x y hx hy => ?_)
    · have hi : i < a'.size := by rw [← ha]; exact (Array.getElem?_eq_some_iff.1 hx).1
      exact ih1 i x _ hx (Array.getElem?_eq_getElem hi) (hp.2 i x y hx hy)
    · have hi : i < b'.size := by rw [← hb]; exact (Array.getElem?_eq_some_iff.1 hx).1
      exact ih2 i x _ hx (Array.getElem?_eq_getElem hi) (hq.2 i x y hx hy)
  | iface t v v' hv ih => intro w h1; obtain ⟨w', rfl, hw⟩ := h1.iface_inv; exact .iface t v w' (ih hw)
  | agg a a' ha h1 ih =>
    intro v' h3
    obtain ⟨p, rfl, hp⟩ := h3.agg_inv
    refine .agg a p hp.1 fun i x y hx hy => ?_
    have hi : i < a'.size := by rw [← ha]; exact (Array.getElem?_eq_some_iff.1 hx).1
    exact ih i x _ hx (Array.getElem?_eq_getElem hi) (hp.2 i x y hx hy)
  | tuple a a' ha hn h1 ih =>
    intro v' h3
    obtain ⟨p, rfl, hp⟩ := h3.tuple_inv hn
    refine .tuple a p hp.1 hn fun i x y hx hy => ?_
    have hi : i < a'.size := by rw [← ha]; exact (Array.getElem?_eq_some_iff.1 hx).1
    exact ih i x _ hx (Array.getElem?_eq_getElem hi) (hp.2 i x y hx hy)

theorem ERel.pull {σ σ1 : Sg} (hle : σ.le σ1) {es fs : List MapEntry} (h : ERel σ es fs) : ∀ {gs : List MapEntry}, ERel σ1 es gs → ERel σ es gs := by
  induction h with
  | nil => intro gs h1; cases h1; exact .nil
  | cons x y l l' k1 k2 k3 _ ih =>
    intro gs h1
    cases h1 with
    | cons _ y' _ l2 m1 m2 m3 m4 => exact .cons x y' l l2 m1 (k2.pull hle m2) (k3.pull hle m3) (ih m4)

theorem TRel.pull {σ σ1 : Sg} (hle : σ.le σ1) {tm : List Value} {t1 t2 : Array Value} (h : TRel σ tm t1) (h1 : TRel σ1 tm t2) : TRel σ tm t2 := ⟨h1.1, fun i => (h.2 i).pull hle (h1.2 i)⟩

theorem OthRel.pull {σ σ1 : Sg} (hle : σ.le σ1) {o : Ob} {r0 r : Obj} (h : OthRel σ o r0) (h1 : OthRel σ1 o r) : OthRel σ o r := by
  cases o with
  | cells cs t g => cases r0 <;> exact h.elim
  | map es c =>
    cases r0 <;> first | exact h.elim | skip
    cases r <;> first | exact h1.elim | skip
    exact ⟨h1.1, h.2.pull hle h1.2⟩
  | iter m since seen st =>
    cases r0 <;> first | exact h.elim | skip
    cases r <;> first | exact h1.elim | skip
    refine ⟨h1.1, h1.2.1, h1.2.2.1, ?_⟩
    have a := h.2.2.2
    have b := h1.2.2.2
    cases m with
    | none => exact b
    | some m =>
      obtain ⟨e, h2, _⟩ := a
      obtain ⟨e', h3, h4⟩ := b
      have := hle _ _ h2
      rw [this] at h3; cases h3
      exact ⟨e, h2, h4⟩
  | loop l =>
    cases r0 <;> first | exact h.elim | skip
    cases r <;> first | exact h1.elim | skip
    exact ⟨h1.1, h1.2.1, h.2.2.1.pull hle h1.2.2.1, h1.2.2.2⟩

/-- What stays of a heap: all that can be read. -/
structure Stay (h h' : Hp) : Prop where
  cell : ∀ b cs t g, h.ob b = some (.cells cs t g) → h.live b g = true → h'.ob b = some (.cells cs t g) ∧ h'.live b g = true
  oth : ∀ b o, h.ob b = some o → o.isOth = true → h'.ob b = some o

theorem Stay.refl (h : Hp) : Stay h h := ⟨fun _ _ _ _ a b => ⟨a, b⟩, fun _ _ a _ => a⟩
theorem Stay.trans {h h1 h2 : Hp} (a : Stay h h1) (b : Stay h1 h2) : Stay h h2 :=
  ⟨fun x cs t g k1 k2 => by obtain ⟨q1, q2⟩ := a.cell x cs t g k1 k2; exact b.cell x cs t g q1 q2, fun x o k1 k2 => b.oth x o (a.oth x o k1 k2) k2⟩

section
variable {P : Program}
/-- New blocks that nothing names are forgotten. -/
theorem SCalls.trim {f : FuncId} {args : List Value} {h : Hp} {K : Value → Hp → Prop} {K' : Value → Prop} (hf : f < P.funcs.size) (hc : SCalls P f args h K) (hk : ∀ v h', K v h' → Stay h h' ∧ plainV 100 v = true ∧ K' v) :
    SCalls P f args h fun v h' => K' v ∧ h' = h := by
  have hc := hc.func hf
  refine .inl ⟨hc.1, fun base σ w rargs hr hl => (hc.2 base σ w rargs hr hl).mono ?_⟩
  rintro e w' ⟨v, v', h1, σ1, rfl, hkv, hv, hr1, he⟩
  obtain ⟨hst, hp, hk'⟩ := hk _ _ hkv
  have hv' : VRel σ v v' := (plainV_rel σ 100 v hp).pull he.le hv
  refine ⟨v, v', h, σ, rfl, ⟨hk', rfl⟩, hv', ?_, ?_⟩
  · refine ⟨Nat.le_trans hr.base_le he.size, fun b e hb => ⟨(hr.dom b e hb).1, Nat.lt_of_lt_of_le (hr.dom b e hb).2 he.size⟩, hr.fresh, ?_, hr.grp, hr.gdom, hr.stack, hr.nest, hr.apart, ?_⟩
    · intro b e cs t g hb hob hlv
      obtain ⟨q1, q2⟩ := hst.cell b cs t g hob hlv
      obtain ⟨⟨c, el, fr, k1, k2, k3, k4, k5⟩, k6⟩ := hr1.cell b e cs t g (he.le _ _ hb) q1 q2
      obtain ⟨⟨c0, el0, fr0, m1, m2, m3, m4, m5⟩, m6⟩ := hr.cell b e cs t g hb hob hlv
      refine ⟨⟨c, el, fr, k1, k2, k3, fun i x hx => ?_, k5⟩, k6⟩
      obtain ⟨x', n1, n2⟩ := k4 i x hx
      obtain ⟨x0, n3, n4⟩ := m4 i x hx
      exact ⟨x', n1, n4.pull he.le n2⟩
    · intro b e o hb hob hoth
      obtain ⟨p1, p2, ⟨r0, p3, p4⟩, p5⟩ := hr.oth b e o hb hob hoth
      obtain ⟨_, _, ⟨r1, q3, q4⟩, _⟩ := hr1.oth b e o (he.le _ _ hb) (hst.oth b o hob hoth) hoth
      exact ⟨p1, p2, ⟨r1, q3, p4.pull he.le q4⟩, p5⟩
  · exact ⟨Sg.le_refl σ, he.os, he.tape, he.output, he.size, he.below, he.other, fun b e h1 h2 => by rw [h1] at h2; simp at h2, Nat.le_refl _, fun b _ hb => ⟨rfl, rfl, hb⟩⟩

/-! ### Evaluation by laws -/
/-- Laws of some functions: they answer and leave the heap. -/
def NatOk (P : Program) (nat : FuncId → List Value → Hp → Option (Option Value)) : Prop :=
  ∀ f args h v, nat f args h = some (some v) → SCalls P f args h fun v' h' => v' = v ∧ h' = h

variable (P)
/-- xF, where some functions answer by a law (some none: the law does not know). -/
def xG {R : Type} (A : Al R) (nat : FuncId → List Value → Hp → Option (Option Value)) (ann : FuncId → Nat → List Tmp) : Nat → FuncId → List Value → Hp → (Value → Hp → R) → R
  | 0, _, _, _, _ => A.bot
  | n + 1, f, args, h, k =>
    match nat f args h with
    | some (some v) => k v h
    | some none => A.bot
    | none =>
      match P.funcs[f]? with
      | some fn =>
        match fn.body with
        | some c => if mayCall fn then bodyX P A (xG A nat ann n) f (ann f) fn c args h k else A.bot
        | none => A.bot
      | none => roundX P A (xG A nat ann n) ann (f - P.funcs.size) args h k
variable {P}

theorem xG_ok (hm : P.follows .mixedOrders = true) {m : Nat} {nat : FuncId → List Value → Hp → Option (Option Value)} (hn : NatOk P nat) {ann : FuncId → Nat → List Tmp} : ∀ (n : Nat), CallOk P (xG P (alB m) nat ann n)
  | 0 => fun f args h k hx => by simp [xG, alB] at hx
  | n + 1 => fun f args h k hx => by
    unfold xG at hx
    split at hx
    · rename_i v hv
      exact (hn f args h v hv).mono fun v' h' hh => by obtain ⟨rfl, rfl⟩ := hh; exact hx
    · simp [alB] at hx
    · split at hx
      · rename_i fn hf
        split at hx
        · rename_i c hb
          split at hx
          · rename_i hmc
            exact SCalls_of hm hf hb hmc (bodyX_ok (xG_ok hm hn n) (fun v h hv => hv) hx)
          · simp [alB] at hx
        · simp [alB] at hx
      · rename_i hf
        have hge : P.funcs.size ≤ f := Array.getElem?_eq_none_iff.1 hf
        have := SCalls_of_round hm (roundX_ok (xG_ok hm hn n) (fun v h hv => hv) hx)
        rwa [show P.funcs.size + (f - P.funcs.size) = f by omega] at this
end
end Go.Cn

/- Evaluation that the kernel does fast (1): slots in a tree, operations as closures (what is closed is worked out once). -/
set_option linter.unusedVariables false
set_option linter.unusedSimpArgs false
namespace Go.Cn

/-! ### Slots in a tree -/
inductive Tv where
  | leaf
  | node (v : Value) (l r : Tv)
structure TG where
  run : Tv → Value
structure TS where
  run : Value → Tv → Tv

def tg : List Bool → TG
  | [] => ⟨fun t => match t with
    | .leaf => undef
    | .node v _ _ => v⟩
  | true :: p => let g := tg p; ⟨fun t => match t with
    | .leaf => undef
    | .node _ l _ => g.run l⟩
  | false :: p => let g := tg p; ⟨fun t => match t with
    | .leaf => undef
    | .node _ _ r => g.run r⟩
def ts : List Bool → TS
  | [] => ⟨fun x t => match t with
    | .leaf => .node x .leaf .leaf
    | .node _ l r => .node x l r⟩
  | true :: p => let s := ts p; ⟨fun x t => match t with
    | .leaf => .node undef (s.run x .leaf) .leaf
    | .node v l r => .node v (s.run x l) r⟩
  | false :: p => let s := ts p; ⟨fun x t => match t with
    | .leaf => .node undef .leaf (s.run x .leaf)
    | .node v l r => .node v l (s.run x r)⟩

theorem tg_leaf : ∀ p, (tg p).run .leaf = undef
  | [] => rfl
  | true :: p => rfl
  | false :: p => rfl

theorem tg_ts : ∀ (p q : List Bool) (x : Value) (t : Tv), (tg p).run ((ts q).run x t) = if p = q then x else (tg p).run t
  | [], [], x, t => by cases t <;> rfl
  | [], true :: q, x, t => by cases t <;> simp [tg, ts]
  | [], false :: q, x, t => by cases t <;> simp [tg, ts]
  | true :: p, [], x, t => by cases t <;> simp [tg, ts, tg_leaf]
  | false :: p, [], x, t => by cases t <;> simp [tg, ts, tg_leaf]
  | true :: p, true :: q, x, t => by cases t <;> simp [tg, ts, tg_ts p q, tg_leaf]
  | true :: p, false :: q, x, t => by cases t <;> simp [tg, ts, tg_leaf]
  | false :: p, true :: q, x, t => by cases t <;> simp [tg, ts, tg_leaf]
  | false :: p, false :: q, x, t => by cases t <;> simp [tg, ts, tg_ts p q, tg_leaf]

def path : (fuel : Nat) → Nat → List Bool
  | 0, _ => []
  | f + 1, n => if n = 0 then [] else if n % 2 = 1 then true :: path f (n / 2) else false :: path f (n / 2 - 1)

theorem path_inj : ∀ (f g n m : Nat), n < f → m < g → path f n = path g m → n = m
  | 0, g, n, m, h1, h2, h => by omega
  | f + 1, 0, n, m, h1, h2, h => by omega
  | f + 1, g + 1, n, m, h1, h2, h => by
    unfold path at h
    by_cases hn : n = 0
    · by_cases hm : m = 0
      · omega
      · simp only [hn, hm, if_true, if_false] at h
        split at h <;> simp at h
    · by_cases hm : m = 0
      · simp only [hn, hm, if_true, if_false] at h
        split at h <;> simp at h
      · simp only [hn, hm, if_false] at h
        by_cases h3 : n % 2 = 1 <;> by_cases h4 : m % 2 = 1
        · simp only [h3, h4, if_true, List.cons.injEq, true_and] at h
          have := path_inj f g _ _ (by omega) (by omega) h
          omega
        · simp only [h3, h4, if_true, if_false, List.cons.injEq, Bool.true_eq_false, false_and] at h
        · simp only [h3, h4, if_true, if_false, List.cons.injEq, Bool.false_eq_true, false_and] at h
        · simp only [h3, h4, if_false, List.cons.injEq, true_and] at h
          have := path_inj f g _ _ (by omega) (by omega) h
          omega

def gt (i : Nat) : TG := tg (path (i + 1) i)
def st (i : Nat) : TS := ts (path (i + 1) i)

theorem gt_st (i j : Nat) (x : Value) (t : Tv) : (gt i).run ((st j).run x t) = if i = j then x else (gt i).run t := by
  unfold gt st
  rw [tg_ts]
  by_cases h : i = j
  · rw [h]; simp
  · rw [if_neg h, if_neg (fun q => h (path_inj _ _ _ _ (by omega) (by omega) q))]

/-- A tree for a row of slots. -/
structure RT (n : Nat) (t : Tv) (tm : List Value) : Prop where
  len : tm.length = n
  get : ∀ i, (gt i).run t = tm.getD i undef

/-- The row. -/
def toL (t : Tv) : (k i : Nat) → List Value
  | 0, _ => []
  | k + 1, i => (gt i).run t :: toL t k (i + 1)

theorem toL_length (t : Tv) : ∀ k i, (toL t k i).length = k
  | 0, _ => rfl
  | k + 1, i => by simp [toL, toL_length t k]
theorem toL_get (t : Tv) : ∀ k i j, j < k → (toL t k i)[j]? = some ((gt (i + j)).run t)
  | 0, _, _, h => by omega
  | k + 1, i, 0, _ => by simp [toL]
  | k + 1, i, j + 1, h => by
    simp only [toL, List.getElem?_cons_succ]
    rw [toL_get t k (i + 1) j (by omega)]
    rw [show i + 1 + j = i + (j + 1) by omega]

theorem RT.toL {n : Nat} {t : Tv} {tm : List Value} (h : RT n t tm) : toL t n 0 = tm := by
  apply List.ext_getElem?
  intro i
  by_cases hi : i < n
  · rw [toL_get t n 0 i hi, h.get, Nat.zero_add, List.getD_eq_getElem?_getD, List.getElem?_eq_getElem (by rw [h.len]; exact hi)]
    rfl
  · rw [List.getElem?_eq_none (by rw [toL_length]; omega), List.getElem?_eq_none (by rw [h.len]; omega)]

/-- A slot is written (a slot that is none: nothing happens). -/
def kset (n : Nat) (d : Option Tmp) : TS :=
  match d with
  | some d => match decide (d < n) with
    | true => st d
    | false => ⟨fun _ t => t⟩
  | none => ⟨fun _ t => t⟩

theorem RT.set {n : Nat} {t : Tv} {tm : List Value} (h : RT n t tm) (d : Option Tmp) (v : Value) : RT n ((kset n d).run v t) (put tm d v) := by
  unfold kset put
  cases d with
  | none => exact h
  | some d =>
    simp only
    by_cases hd : d < n
    · simp only [hd, decide_true]
      refine ⟨by simp [h.len], fun i => ?_⟩
      rw [gt_st, List.getD_eq_getElem?_getD, List.getElem?_set]
      by_cases hi : i = d
      · subst hi; simp [h.len, hd]
      · rw [if_neg hi, if_neg (fun q => hi q.symm), h.get, List.getD_eq_getElem?_getD]
    · simp only [hd, decide_false]
      rw [List.set_eq_of_length_le (by rw [h.len]; exact Nat.le_of_not_lt hd)]
      exact h

def ofL : List Value → Nat → Tv → Tv
  | [], _, t => t
  | v :: vs, i, t => ofL vs (i + 1) ((st i).run v t)

theorem ofL_get : ∀ (l : List Value) (i : Nat) (t : Tv) (j : Nat), (gt j).run (ofL l i t) = if i ≤ j ∧ j < i + l.length then l.getD (j - i) undef else (gt j).run t
  | [], i, t, j => by rw [if_neg (by simp only [List.length_nil]; omega)]; rfl
  | v :: vs, i, t, j => by
    simp only [ofL, ofL_get vs, gt_st, List.length_cons]
    by_cases h1 : j = i
    · subst h1
      rw [if_neg (by omega), if_pos rfl, if_pos (by omega)]
      simp
    · by_cases h2 : i + 1 ≤ j ∧ j < i + 1 + vs.length
      · rw [if_pos h2, if_pos (by omega)]
        rw [show j - i = (j - (i + 1)) + 1 by omega]
        simp
      · rw [if_neg h2, if_neg h1, if_neg (by omega)]

theorem gt_leaf (i : Nat) : (gt i).run .leaf = undef := tg_leaf _

theorem RT.of (l : List Value) : RT l.length (ofL l 0 .leaf) l := by
  refine ⟨rfl, fun i => ?_⟩
  rw [ofL_get, gt_leaf]
  by_cases h : i < l.length
  · rw [if_pos (by omega)]; rfl
  · rw [if_neg (by omega), List.getD_eq_getElem?_getD, List.getElem?_eq_none (by omega)]; rfl

theorem RT.args {n : Nat} {l : List Value} (hl : l.length ≤ n) : RT n (ofL l 0 .leaf) (l ++ List.replicate (n - l.length) undef) := by
  refine ⟨by simp; omega, fun i => ?_⟩
  rw [(RT.of l).get, List.getD_eq_getElem?_getD, List.getD_eq_getElem?_getD]
  by_cases h : i < l.length
  · rw [List.getElem?_append_left h]
  · rw [List.getElem?_eq_none (by omega), List.getElem?_append_right (by omega), List.getElem?_replicate]
    split <;> rfl

/-! ### Operations -/
structure KV where
  run : Tv → Value
structure KP where
  run : Tv → Option Value
structure KR where
  run : Tv → Hp → Option Value
structure KE where
  run : Tv → Hp → Option (Value × Hp)
structure KI where
  run : IntKind → Int → Int → Option Value

def kev (x : Operand) : KV :=
  match x with
  | .tmp i => let g := gt i; ⟨fun t => g.run t⟩
  | .const v => match plainV 100 v with
    | true => ⟨fun _ => v⟩
    | false => ⟨fun _ => unk⟩
  | .global _ => ⟨fun _ => unk⟩
  | .func f => ⟨fun _ => .func (.func f) #[] #[]⟩

theorem kev_eq {n : Nat} {t : Tv} {tm : List Value} (h : RT n t tm) (x : Operand) : (kev x).run t = ev tm x := by
  cases x with
  | tmp i => exact h.get i
  | const v => simp only [kev, ev]; cases plainV 100 v <;> rfl
  | global g => rfl
  | func f => rfl

def kevs : List Operand → List KV
  | [] => []
  | x :: xs => kev x :: kevs xs
def runs : List KV → Tv → List Value
  | [], _ => []
  | v :: vs, t => v.run t :: runs vs t
theorem kevs_eq {n : Nat} {t : Tv} {tm : List Value} (h : RT n t tm) : ∀ xs, runs (kevs xs) t = xs.map (ev tm)
  | [] => rfl
  | x :: xs => by simp [kevs, runs, kev_eq h, kevs_eq h xs]

def kevp : List (Nat × Operand) → List (Nat × KV)
  | [] => []
  | x :: xs => (x.1, kev x.2) :: kevp xs
def runp : List (Nat × KV) → Tv → List (Nat × Value)
  | [], _ => []
  | v :: vs, t => (v.1, v.2.run t) :: runp vs t
theorem kevp_eq {n : Nat} {t : Tv} {tm : List Value} (h : RT n t tm) : ∀ xs, runp (kevp xs) t = xs.map fun (i, x) => (i, ev tm x)
  | [] => rfl
  | x :: xs => by simp [kevp, runp, kev_eq h, kevp_eq h xs]

structure KO' where
  run : Tv → Option Value
def kevo (x : Option Operand) : KO' :=
  match x with
  | some x => let v := kev x; ⟨fun t => some (v.run t)⟩
  | none => ⟨fun _ => none⟩
theorem kevo_eq {n : Nat} {t : Tv} {tm : List Value} (h : RT n t tm) (x : Option Operand) : (kevo x).run t = x.map (ev tm) := by
  cases x with
  | none => rfl
  | some x => simp [kevo, kev_eq h]

section
variable (P : Program)

def kint (o : BinOp) : KI :=
  match o with
  | .add => ⟨fun k a b => some (.int k (k.wrap (a + b)))⟩
  | .sub => ⟨fun k a b => some (.int k (k.wrap (a - b)))⟩
  | .mul => ⟨fun k a b => some (.int k (k.wrap (a * b)))⟩
  | .eql => ⟨fun _ a b => some (.bool (a == b))⟩
  | .neq => ⟨fun _ a b => some (.bool (a != b))⟩
  | .lss => ⟨fun _ a b => some (.bool (a < b))⟩
  | .leq => ⟨fun _ a b => some (.bool (a ≤ b))⟩
  | .gtr => ⟨fun _ a b => some (.bool (a > b))⟩
  | .geq => ⟨fun _ a b => some (.bool (a ≥ b))⟩
  | o => ⟨fun k a b => intOp o k a b⟩

theorem kint_eq (o : BinOp) (k : IntKind) (a b : Int) : (kint o).run k a b = intOp o k a b := by cases o <;> rfl

def isShift : BinOp → Bool
  | .shl | .shr => true
  | _ => false

def nilC (v : Value) : Option Value :=
  match v with
  | .pointer (some a) => some (.pointer (some a))
  | .iface t v => some (.iface t v)
  | .func (.func f) a b => some (.func (.func f) a b)
  | _ => none

def kbin (o : BinOp) (ty : TypeId) (x y : Operand) : KP :=
  let a := kev x
  let b := kev y
  match isShift o with
  | true => ⟨fun t => match a.run t, b.run t with
      | .int k m, .int k' n => shift o k m n
      | u, v => cbin P o ty x y u v⟩
  | false =>
    let i := kint o
    ⟨fun t => match a.run t, b.run t with
      | .int k m, .int k' n => if k = k' then i.run k m n else none
      | .string s, .string u => strOp o s u
      | u, v => cbin P o ty x y u v⟩

theorem kbin_eq {n : Nat} {t : Tv} {tm : List Value} (h : RT n t tm) (o : BinOp) (ty : TypeId) (x y : Operand) : (kbin P o ty x y).run t = cbin P o ty x y (ev tm x) (ev tm y) := by
  unfold kbin
  simp only
  cases hs : isShift o with
  | true =>
    simp only [kev_eq h]
    split
    · rename_i k m k' n e1 e2
      rw [e1, e2]
      unfold cbin
      cases o <;> simp [isShift] at hs <;> rfl
    · rfl
  | false =>
    simp only [kev_eq h]
    split
    · rename_i k m k' n e1 e2
      rw [e1, e2]
      unfold cbin
      cases o <;> simp [isShift] at hs <;> simp [kint_eq]
    · rename_i s u e1 e2; rw [e1, e2]; rfl
    · rfl

def kfieldAddr (s : TypeId) (x : Operand) (f : Nat) : KP :=
  let v := kev x
  match P.underlying s with
  | some (.struct fs) =>
    match fs[f]? with
    | some fd => match size? P fd.type with
      | some n => match n == 0 with
        | true => ⟨fun _ => none⟩
        | false =>
          let off := fd.offset
          ⟨fun t => match v.run t with
            | .pointer (some ⟨b, o, none⟩) => some (ptr b (o + off))
            | _ => none⟩
      | none => ⟨fun _ => none⟩
    | none => ⟨fun _ => none⟩
  | _ => ⟨fun _ => none⟩

theorem kfieldAddr_eq {n : Nat} {t : Tv} {tm : List Value} (h : RT n t tm) (s : TypeId) (x : Operand) (f : Nat) : (kfieldAddr P s x f).run t = cfieldAddr P s (ev tm x) f := by
  unfold kfieldAddr cfieldAddr
  simp only
  split
  · rename_i fs hu
    split
    · rename_i fd hf
      split
      · rename_i n hn
        split
        · rename_i h0
          have : n = 0 := by simpa using h0
          simp only
          split
          · rename_i e1 e2
            rw [hu] at e1; cases e1
            simp [hf, hn, this]
          · rfl
        · rename_i h0
          have : ¬ n = 0 := by simpa using h0
          simp only [kev_eq h]
          split
          · rename_i b o e
            simp [hu, e, hf, hn, this]
          · rename_i hne
            split
            · rename_i b o e1 e2
              exact absurd e2 (hne b o)
            · rfl
      · rename_i hn
        simp only
        split
        · rename_i e1 e2; rw [hu] at e1; cases e1; simp [hf, hn]
        · rfl
    · rename_i hf
      simp only
      split
      · rename_i e1 e2; rw [hu] at e1; cases e1; simp [hf]
      · rfl
  · rename_i hne
    simp only
    split
    · rename_i fs b o e1 e2; exact absurd e1 (hne fs)
    · rfl

def klen (args : List Operand) (argTypes : List TypeId) : KP :=
  match argTypes, args with
  | ty :: _, x :: _ => let v := kev x; ⟨fun t => clen P ty (v.run t)⟩
  | _, _ => ⟨fun _ => none⟩

theorem klen_eq {n : Nat} {t : Tv} {tm : List Value} (h : RT n t tm) (args : List Operand) (argTypes : List TypeId) : (klen P args argTypes).run t = (match argTypes, args with
    | ty :: _, x :: _ => clen P ty (ev tm x)
    | _, _ => none) := by
  unfold klen
  cases argTypes with
  | nil => rfl
  | cons ty l => cases args with
    | nil => rfl
    | cons x l' => simp only [kev_eq h]

def kpop (n : Nat) (op : Op) : KP :=
  match op with
  | .move x | .assign x => let v := kev x; ⟨fun t => some (v.run t)⟩
  | .pick c a b =>
    let c := kev c
    let a := kev a
    let b := kev b
    ⟨fun t => match c.run t with
      | .bool true => some (a.run t)
      | .bool false => some (b.run t)
      | _ => none⟩
  | .nilCheck x => let v := kev x; ⟨fun t => nilC (v.run t)⟩
  | .binOp o ty x y _ => kbin P o ty x y
  | .unOp o _ x => let v := kev x; ⟨fun t => cun o (v.run t)⟩
  | .convert s d x => let v := kev x; ⟨fun t => cconv P s d (v.run t)⟩
  | .slice ty x lo hi mx =>
    let v := kev x
    let lo := kevo lo
    let hi := kevo hi
    let mx := kevo mx
    ⟨fun t => cslice P ty (v.run t) (lo.run t) (hi.run t) (mx.run t)⟩
  | .fieldAddr s x f => kfieldAddr P s x f
  | .field ty x f => let v := kev x; ⟨fun t => cfield P ty (v.run t) f⟩
  | .indexAddr ty x ix => let v := kev x; let i := kev ix; ⟨fun t => cindexAddr P ty (v.run t) (i.run t)⟩
  | .index ty x ix => let v := kev x; let i := kev ix; ⟨fun t => cindex P ty (v.run t) (i.run t)⟩
  | .build ty parts => let ps := kevp parts.toList; ⟨fun t => cbuild P ty (runp ps t)⟩
  | .extract x i => let v := kev x; ⟨fun t => match v.run t with
    | .tuple vs => if vs.size = 1 then (match vs[0]? with
      | some (Value.bool b) => if i = 0 then some (.bool b) else none
      | _ => none) else vs[i]?
    | _ => none⟩
  | .call { callee := .builtin .len, args, argTypes } => klen P args.toList argTypes.toList
  | op => ⟨fun t => pop P (toL t n 0) op⟩

theorem kpop_eq {n : Nat} {t : Tv} {tm : List Value} (h : RT n t tm) (op : Op) : (kpop P n op).run t = pop P tm op := by
  unfold kpop
  split
  · simp only [kev_eq h]; rfl
  · simp only [kev_eq h]; rfl
  · simp only [kev_eq h]; rfl
  · simp only [kev_eq h]; rfl
  · exact kbin_eq P h _ _ _ _
  · simp only [kev_eq h]; rfl
  · simp only [kev_eq h]; rfl
  · simp only [kev_eq h, kevo_eq h]; rfl
  · exact kfieldAddr_eq P h _ _ _
  · simp only [kev_eq h]; rfl
  · simp only [kev_eq h]; rfl
  · simp only [kev_eq h]; rfl
  · simp only [kevp_eq h]; rfl
  · simp only [kev_eq h]; rfl
  · rw [klen_eq P h]; rfl
  · simp only [h.toL]

/-- A cell, and what lies in it. -/
def cellAt1 (h : Hp) (b o : Nat) : Option Value :=
  match h.ob b with
  | some (.cells cs _ g) => if h.live b g then cs[o]? else none
  | _ => none

theorem cellAt1_eq (h : Hp) (b o : Nat) : cellAt1 h b o = (match h.cellsAt b o 1 with | some [v] => some v | _ => none) := by
  unfold Hp.cellsAt cellAt1
  cases hob : h.ob b with
  | none => rfl
  | some ob =>
    cases ob with
    | cells cs t g =>
      simp only
      by_cases hl : h.live b g = true
      · by_cases hlt : o < cs.length
        · have e1 : (h.live b g && decide (o + 1 ≤ cs.length)) = true := by simp only [hl, Bool.true_and, decide_eq_true_eq]; omega
          have e2 : List.take 1 (List.drop o cs) = [cs[o]] := by rw [List.drop_eq_getElem_cons hlt]; rfl
          rw [if_pos e1, if_pos hl, e2, List.getElem?_eq_getElem hlt]
        · have e1 : ¬ (h.live b g && decide (o + 1 ≤ cs.length)) = true := by simp only [hl, Bool.true_and, decide_eq_true_eq]; omega
          rw [if_neg e1, if_pos hl, List.getElem?_eq_none (by omega)]
      · have e1 : ¬ (h.live b g && decide (o + 1 ≤ cs.length)) = true := by simp only [Bool.and_eq_true]; exact fun q => hl q.1
        rw [if_neg e1, if_neg hl]
    | map es c => rfl
    | iter m since seen st => rfl
    | loop l => rfl

def krop (n : Nat) (op : Op) : KR :=
  match op with
  | .load ty a =>
    let v := kev a
    match agg? P ty, size? P ty with
    | some true, some k => ⟨fun t h => match v.run t with
        | .pointer (some ⟨b, o, none⟩) => (h.cellsAt b o k).map fun cs => .agg cs.toArray
        | _ => none⟩
    | some false, some _ => ⟨fun t h => match v.run t with
        | .pointer (some ⟨b, o, none⟩) => cellAt1 h b o
        | _ => none⟩
    | _, _ => ⟨fun _ _ => none⟩
  | .lookup ty x ix ok => let v := kev x; let i := kev ix; ⟨fun t h => clookup P ty (v.run t) (i.run t) ok h⟩
  | .entry it => let v := kev it; ⟨fun t h => centry (v.run t) h⟩
  | op => ⟨fun t h => rop P (toL t n 0) op h⟩

theorem krop_eq {n : Nat} {t : Tv} {tm : List Value} (hR : RT n t tm) (op : Op) (h : Hp) : (krop P n op).run t h = rop P tm op h := by
  unfold krop
  split
  · rename_i ty a
    show _ = cload P ty (ev tm a) h
    unfold cload
    simp only
    split
    · rename_i n h1 h2
      simp only [kev_eq hR, h1, h2]
      generalize ev tm a = x
      cases x with
      | pointer p =>
        cases p with
        | none => rfl
        | some q => obtain ⟨b, o, s⟩ := q; cases s <;> rfl
      | _ => rfl
    · rename_i n h1 h2
      simp only [kev_eq hR, h1, h2]
      generalize ev tm a = x
      cases x with
      | pointer p =>
        cases p with
        | none => rfl
        | some q =>
          obtain ⟨b, o, s⟩ := q
          cases s with
          | none =>
            simp only [cellAt1_eq]
            generalize h.cellsAt b o 1 = z
            cases z with
            | none => rfl
            | some l => cases l with
              | nil => rfl
              | cons a t => cases t <;> rfl
          | some s => rfl
      | _ => rfl
    · rename_i hn1 hn2
      simp only
      generalize ev tm a = x
      cases x with
      | pointer p =>
        cases p with
        | none => rfl
        | some q =>
          obtain ⟨b, o, s⟩ := q
          cases s with
          | none =>
            cases h1 : agg? P ty with
            | none => rfl
            | some z =>
              cases h2 : size? P ty with
              | none => cases z <;> rfl
              | some n =>
                cases z with
                | true => exact (hn1 n h1 h2).elim
                | false => exact (hn2 n h1 h2).elim
          | some s => rfl
      | _ => rfl
  · simp only [kev_eq hR]; rfl
  · simp only [kev_eq hR]; rfl
  · simp only [hR.toL]

def kmk (n : Nat) (op : Op) : KE :=
  match op with
  | .box e x => let v := kev x; ⟨fun t h => if isUnk (v.run t) then none else some (ptr h.next 0, h.alloc (v.run t).cells.toList e)⟩
  | .buildSlice ty len parts =>
    let ps := kevp parts.toList
    match P.underlying ty with
    | some (.slice e) =>
      match P.info? e with
      | some i => match i.zero with
        | some z =>
          match len * i.size > 2 ^ 24 || z.cells.size ≠ i.size || i.size = 0 || !plainV 100 z with
          | true => ⟨fun _ _ => none⟩
          | false =>
            let zs := zeroCells z.cells.toList len
            let w := i.size
            ⟨fun t h => match fillL (fun j => some (j * w, w)) zs (runp ps t) with
              | some cs => some (.slice (some ⟨h.next, 0, none⟩) len len, h.alloc cs e)
              | none => none⟩
        | none => ⟨fun _ _ => none⟩
      | none => ⟨fun _ _ => none⟩
    | _ => ⟨fun _ _ => none⟩
  | op => ⟨fun t h => mkop P (toL t n 0) op h⟩

theorem kmk_eq {n : Nat} {t : Tv} {tm : List Value} (hR : RT n t tm) (op : Op) (h : Hp) : (kmk P n op).run t h = mkop P tm op h := by
  unfold kmk
  split
  · simp only [kev_eq hR]
    unfold mkop mkOf
    simp only
    split <;> rfl
  · rename_i ty len parts
    unfold mkop mkOf
    simp only
    cases hu : P.underlying ty with
    | none => rfl
    | some d =>
      cases d with
      | slice e =>
        simp only
        cases hi : P.info? e with
        | none => rfl
        | some i =>
          simp only
          cases hz : i.zero with
          | none => rfl
          | some z =>
            simp only
            cases hc : (decide (len * i.size > 2 ^ 24) || decide (z.cells.size ≠ i.size) || decide (i.size = 0) || !plainV 100 z) with
            | true => rfl
            | false =>
              simp only [kevp_eq hR, Bool.false_eq_true, if_false]
              cases fillL (fun j => some (j * i.size, i.size)) (zeroCells z.cells.toList len) (parts.toList.map fun (j, x) => (j, ev tm x)) <;> rfl
      | _ => rfl
  · simp only [hR.toL]

def kapp (args : List Operand) (argTypes : List TypeId) : KE :=
  match argTypes, args with
  | [ty, xt], [s, x] => let s := kev s; let x := kev x; ⟨fun t h => cappend P ty xt (s.run t) (x.run t) h⟩
  | _, _ => ⟨fun _ _ => none⟩

def keop (n : Nat) (op : Op) : KE :=
  match op with
  | .alloc e =>
    match zero? P e with
    | some z => match plainV 100 z with
      | true => let cs := z.cells.toList; ⟨fun _ h => some (ptr h.next 0, h.alloc cs e)⟩
      | false => ⟨fun _ _ => none⟩
    | none => ⟨fun _ _ => none⟩
  | .store ty a x =>
    let a := kev a
    let v := kev x
    match size? P ty with
    | some k => ⟨fun t h => match a.run t with
        | .pointer (some ⟨b, o, none⟩) => if (v.run t).cells.size = k then (h.store b o (v.run t).cells.toList).map fun h' => (undef, h') else none
        | _ => none⟩
    | none => ⟨fun _ _ => none⟩
  | .call { callee := .builtin .append, args, argTypes } => kapp P args.toList argTypes.toList
  | op => ⟨fun t h => eop P (toL t n 0) op h⟩

theorem kapp_eq {n : Nat} {t : Tv} {tm : List Value} (hR : RT n t tm) (args : List Operand) (argTypes : List TypeId) (h : Hp) : (kapp P args argTypes).run t h = (match argTypes, args with
    | [ty, xt], [s, x] => cappend P ty xt (ev tm s) (ev tm x) h
    | _, _ => none) := by
  unfold kapp
  split
  · simp only [kev_eq hR]
  · rfl

theorem keop_eq {n : Nat} {t : Tv} {tm : List Value} (hR : RT n t tm) (op : Op) (h : Hp) : (keop P n op).run t h = eop P tm op h := by
  unfold keop
  split
  · rename_i e
    unfold eop
    simp only
    split
    · rename_i z hz
      split
      · rename_i hp; simp only [hz, hp, if_true]
      · rename_i hp; simp only [hz, hp]; rfl
    · rename_i hz; simp only [hz]
  · rename_i ty a x
    unfold eop
    simp only
    split
    · rename_i n hn
      simp only [kev_eq hR]
      split
      · rename_i b o e; simp only [hn, e]
      · rename_i hne
        split
        · rename_i b o m e1 e2; exact absurd e1 (hne b o)
        · rfl
    · rename_i hn
      simp only
      split
      · rename_i e1 e2; rw [hn] at e2; simp at e2
      · rfl
  · rename_i args ats
    rw [kapp_eq P hR]
    rfl
  · simp only [hR.toL]
end
end Go.Cn

/- Evaluation that the kernel does fast (2): regions, code and functions. -/
set_option linter.unusedVariables false
set_option linter.unusedSimpArgs false
namespace Go.Cn

abbrev CF := FuncId → List Value → Hp → (Value → Hp → Bool) → Bool
structure KO where
  run : CF → Tv → Hp → (Value → Hp → Bool) → Bool
structure KL where
  run : CF → Tv → Hp → (Tv → Hp → Bool) → Bool
structure KC where
  run : CF → (Exit → Tv → Hp → Bool) → Tv → Hp → Bool
structure KA where
  run : Tv → Option (FuncId × List Value)
structure KW where
  run : Tv → Option Bool

section
variable (P : Program)

def kcall (n : Nat) (op : Op) : KA :=
  match op with
  | .call { callee := .value (.func g), args, .. } =>
    let vs := kevs args.toList
    match decide (g < P.funcs.size) with
    | true => ⟨fun t => some (g, runs vs t)⟩
    | false => ⟨fun _ => none⟩
  | .call { callee := .value f, args, .. } =>
    let vs := kevs args.toList
    let f := kev f
    ⟨fun t => match f.run t with
    | .func (.func g) first captured => if g < P.funcs.size then some (g, first.toList ++ runs vs t ++ captured.toList) else none
    | .func (.yield l) first captured => if first.size = 0 ∧ captured.size = 0 then some (P.funcs.size + l, runs vs t) else none
    | _ => none⟩
  | op => ⟨fun t => callee P (toL t n 0) op⟩

theorem kcall_eq {n : Nat} {t : Tv} {tm : List Value} (hR : RT n t tm) (op : Op) : (kcall P n op).run t = callee P tm op := by
  unfold kcall
  split
  · rename_i g args ats
    unfold callee
    simp only [ev]
    by_cases hg : g < P.funcs.size
    · simp [hg, kevs_eq hR]
    · simp [hg]
  · rename_i f args ats hne
    unfold callee
    simp only [kev_eq hR, kevs_eq hR]
    split
    · rename_i e; simp only [e]
    · rename_i e; simp only [e]
    · rename_i h1 h2
      split
      · rename_i e; exact absurd e (h1 _ _ _)
      · rename_i e; exact absurd e (h2 _ _ _)
      · rfl
  · simp only [hR.toL]

/-- A guard. -/
def kwants (ops : List Oper) (o : Oper) : KW :=
  match o.guard with
  | none => ⟨fun _ => some true⟩
  | some (j, want) =>
    match (ops[j]?).bind (·.dst) with
    | some d => let g := gt d; ⟨fun t => wantsV (g.run t) want⟩
    | none => ⟨fun _ => some false⟩

theorem kwants_eq {n : Nat} {t : Tv} {tm : List Value} (hR : RT n t tm) (ops : List Oper) (o : Oper) : (kwants ops o).run t = wants ops tm o := by
  unfold kwants wants
  cases o.guard with
  | none => rfl
  | some g =>
    obtain ⟨j, want⟩ := g
    simp only
    cases (ops[j]?).bind (·.dst) with
    | none => rfl
    | some d => simp only [hR.get]

/-- An operation that is done. -/
def kdo (n : Nat) (op : Op) : KO :=
  match kind P op with
  | .pure => let q := kpop P n op; ⟨fun _ t h k => opt false (q.run t) fun v => k v h⟩
  | .read => let q := krop P n op; ⟨fun _ t h k => opt false (q.run t h) fun v => k v h⟩
  | .eff => let q := keop P n op; ⟨fun _ t h k => opt false (q.run t h) fun r => k r.1 r.2⟩
  | .call => let q := kcall P n op; ⟨fun cF t h k => opt false (q.run t) fun fa => cF fa.1 fa.2 h k⟩
  | .alt => ⟨fun _ t h k => opt false (aop (toL t n 0) op h) fun l => (l.map fun r => k r.1 r.2).all id⟩
  | .mk => let q := kmk P n op; ⟨fun _ t h k => opt false (q.run t h) fun r => k r.1 r.2⟩

theorem kdo_eq {n : Nat} {t : Tv} {tm : List Value} (hR : RT n t tm) (m : Nat) (cF : CF) (op : Op) (h : Hp) (k : Value → Hp → Bool) : (kdo P n op).run cF t h k = (match kind P op with
    | .pure => opt false (pop P tm op) fun v => k v h
    | .read => opt false (rop P tm op h) fun v => k v h
    | .eff => opt false (eop P tm op h) fun r => k r.1 r.2
    | .call => opt false (callee P tm op) fun fa => cF fa.1 fa.2 h k
    | .alt => opt false (aop tm op h) fun l => (alB m).all (l.map fun r => k r.1 r.2)
    | .mk => opt false (mkop P tm op h) fun r => k r.1 r.2) := by
  unfold kdo
  split <;> simp only [kpop_eq P hR, krop_eq P hR, keop_eq P hR, kcall_eq P hR, kmk_eq P hR, hR.toL] <;> rfl

/-- One operation, with its guard. -/
def kstep (n : Nat) (ops : List Oper) (o : Oper) : KO :=
  let q := kdo P n o.op
  match o.guard with
  | none => q
  | some _ =>
    let g := kwants ops o
    ⟨fun cF t h k => match g.run t with
      | none => false
      | some true => q.run cF t h k
      | some false => k undef h⟩

theorem kstep_eq {n : Nat} {t : Tv} {tm : List Value} (hR : RT n t tm) (m : Nat) (cF : CF) (ops : List Oper) (o : Oper) (h : Hp) (k : Value → Hp → Bool) : (kstep P n ops o).run cF t h k = stepX P (alB m) cF ops o tm h k := by
  unfold kstep stepX
  simp only
  split
  · rename_i hg
    have hw : wants ops tm o = some true := by unfold wants; rw [hg]
    simp only [hw, if_true]
    rw [kdo_eq P hR m]
    rfl
  · simp only [kwants_eq hR]
    cases hw : wants ops tm o with
    | none => rfl
    | some b =>
      cases b with
      | true =>
        simp only [if_true]
        rw [kdo_eq P hR m]
        rfl
      | false =>
        simp only [Bool.false_eq_true, if_false]
        cases kind P o.op <;> rfl

def kops (n : Nat) (ops : List Oper) : List Oper → KL
  | [] => ⟨fun _ t h k => k t h⟩
  | o :: rest =>
    let s := kstep P n ops o
    let r := kops n ops rest
    match o.dst with
    | none => ⟨fun cF t h k => s.run cF t h fun _ h' => r.run cF t h' k⟩
    | some _ =>
      let w := kset n o.dst
      ⟨fun cF t h k => s.run cF t h fun v h' => r.run cF (w.run v t) h' k⟩

theorem kops_eq {n : Nat} (m : Nat) (cF : CF) (ops : List Oper) {k' : Tv → Hp → Bool} {k : List Value → Hp → Bool} (hk : ∀ t tm h, RT n t tm → k' t h = k tm h) : ∀ (rest : List Oper) {t : Tv} {tm : List Value} (hR : RT n t tm) (h : Hp), (kops P n ops rest).run cF t h k' = xOps P (alB m) cF ops rest tm h k
  | [], t, tm, hR, h => hk t tm h hR
  | o :: rest, t, tm, hR, h => by
    simp only [kops, xOps]
    have ih := @kops_eq n m cF ops k' k hk rest
    cases hd : o.dst with
    | none =>
      simp only
      rw [kstep_eq P hR m]
      congr 1
      funext v h'
      exact ih hR h'
    | some d =>
      simp only
      rw [kstep_eq P hR m]
      congr 1
      funext v h'
      exact ih (hR.set (some d) v) h'

/-! ### The order of a region that draws -/
def pairs : List Inf → Nat → List (Nat × Inf)
  | [], _ => []
  | f :: fs, i => (i, f) :: pairs fs (i + 1)

theorem pairs_fst : ∀ (fs : List Inf) (i : Nat), (pairs fs i).map (·.1) = List.range' i fs.length
  | [], i => rfl
  | f :: fs, i => by simp [pairs, pairs_fst fs, List.range']
theorem pairs_mem (gs : List Inf) : ∀ (fs : List Inf) (i : Nat), fs = gs.drop i → ∀ p ∈ pairs fs i, gs[p.1]? = some p.2
  | [], i, _, p, hp => by simp [pairs] at hp
  | f :: fs, i, he, p, hp => by
    have h0 : gs[i]? = some f := by
      have : (gs.drop i)[0]? = some f := by rw [← he]; rfl
      simpa using this
    have h1 : fs = gs.drop (i + 1) := by
      have : (gs.drop i).drop 1 = fs := by rw [← he]; rfl
      rw [← this, List.drop_drop]
    simp only [pairs, List.mem_cons] at hp
    rcases hp with rfl | hp
    · exact h0
    · exact pairs_mem gs fs (i + 1) h1 p hp

def greedyK : (fuel : Nat) → (rem : List (Nat × Inf)) → (done : Nat) → List (Nat × Inf)
  | 0, _, _ => []
  | n + 1, rem, done =>
    match rem.find? fun p => !p.2.eff && (p.2.em &&& done) == p.2.em with
    | some p => p :: greedyK n (rem.eraseP fun q => q.1 == p.1) (done ||| 2 ^ p.1)
    | none => match rem.find? fun p => (p.2.em &&& done) == p.2.em with
      | some p => p :: greedyK n (rem.eraseP fun q => q.1 == p.1) (done ||| 2 ^ p.1)
      | none => []

theorem erase_map (i : Nat) : ∀ (rem : List (Nat × Inf)), (rem.map (·.1)).erase i = (rem.eraseP fun q => q.1 == i).map (·.1)
  | [] => rfl
  | p :: rem => by
    by_cases h : p.1 = i
    · subst h; simp
    · have : (p.1 == i) = false := by simpa using h
      simp only [List.map_cons, List.erase_cons, this, List.eraseP_cons, Bool.false_eq_true, if_false, List.map_cons, erase_map i rem]
      rfl

theorem find_map {fs : List Inf} (g : Inf → Bool) : ∀ (rem : List (Nat × Inf)), (∀ p ∈ rem, fs[p.1]? = some p.2) → (rem.map (·.1)).find? (fun i => (fs[i]?).any g) = (rem.find? fun p => g p.2).map (·.1)
  | [], _ => rfl
  | p :: rem, h => by
    have h0 := h p (by simp)
    have ih := find_map g rem fun q hq => h q (by simp [hq])
    simp only [List.map_cons, List.find?_cons, h0, Option.any_some]
    cases g p.2 with
    | true => rfl
    | false => exact ih

theorem greedyK_eq {fs : List Inf} : ∀ (n : Nat) (rem : List (Nat × Inf)) (done : Nat), (∀ p ∈ rem, fs[p.1]? = some p.2) → (greedyK n rem done).map (·.1) = greedy fs n (rem.map (·.1)) done ∧ ∀ p ∈ greedyK n rem done, fs[p.1]? = some p.2
  | 0, rem, done, h => ⟨rfl, fun p hp => by simp [greedyK] at hp⟩
  | n + 1, rem, done, h => by
    have h1 := find_map (fs := fs) (fun f => !f.eff && (f.em &&& done) == f.em) rem h
    have h2 := find_map (fs := fs) (fun f => (f.em &&& done) == f.em) rem h
    unfold greedyK greedy
    rw [h1, h2]
    cases e1 : rem.find? (fun p => !p.2.eff && (p.2.em &&& done) == p.2.em) with
    | some p =>
      have ih := greedyK_eq (fs := fs) n (rem.eraseP fun q => q.1 == p.1) (done ||| 2 ^ p.1) fun q hq => h q (List.mem_of_mem_eraseP hq)
      simp only [Option.map_some, List.map_cons, erase_map]
      refine ⟨by rw [ih.1], fun q hq => ?_⟩
      rcases List.mem_cons.1 hq with rfl | hq
      · exact h _ (List.mem_of_find?_eq_some e1)
      · exact ih.2 q hq
    | none =>
      simp only [Option.map_none]
      cases e2 : rem.find? (fun p => (p.2.em &&& done) == p.2.em) with
      | some p =>
        have ih := greedyK_eq (fs := fs) n (rem.eraseP fun q => q.1 == p.1) (done ||| 2 ^ p.1) fun q hq => h q (List.mem_of_mem_eraseP hq)
        simp only [Option.map_some, List.map_cons, erase_map]
        refine ⟨by rw [ih.1], fun q hq => ?_⟩
        rcases List.mem_cons.1 hq with rfl | hq
        · exact h _ (List.mem_of_find?_eq_some e2)
        · exact ih.2 q hq
      | none => exact ⟨rfl, fun p hp => by simp at hp⟩

def orderK (size : Nat) : List (Nat × Inf) → (done : List (Nat × Inf)) → (doneM effs : Nat) → Bool
  | [], _, doneM, _ => doneM == 2 ^ size - 1
  | (i, f) :: rest, done, doneM, effs =>
    !doneM.testBit i && (f.em &&& doneM) == f.em && (effs &&& f.am) == effs &&
    ((doneM &&& f.am) == doneM || done.all fun p => f.am.testBit p.1 || !clash p.2 f) &&
    orderK size rest ((i, f) :: done) (doneM ||| 2 ^ i) (if f.eff then effs ||| 2 ^ i else effs)

theorem orderK_eq {fs : List Inf} : ∀ (order done : List (Nat × Inf)) (doneM effs : Nat), (∀ p ∈ order, fs[p.1]? = some p.2) → (∀ p ∈ done, fs[p.1]? = some p.2 ∧ doneM.testBit p.1 = true) →
    orderK fs.length order done doneM effs = orderOk fs (order.map (·.1)) (done.map (·.1)) doneM effs
  | [], done, doneM, effs, _, _ => rfl
  | (i, f) :: rest, done, doneM, effs, h, hd => by
    have h0 := h (i, f) (by simp)
    simp only at h0
    have ih := orderK_eq (fs := fs) rest ((i, f) :: done) (doneM ||| 2 ^ i) (if f.eff then effs ||| 2 ^ i else effs) (fun q hq => h q (by simp [hq])) (fun q hq => by
      rcases List.mem_cons.1 hq with rfl | hq
      · refine ⟨h0, ?_⟩
        simp [Nat.testBit_or, Nat.testBit_two_pow_self]
      · refine ⟨(hd q hq).1, ?_⟩
        simp [Nat.testBit_or, (hd q hq).2])
    simp only [orderK, orderOk, List.map_cons, h0]
    rw [ih]
    congr 1
    congr 1
    rw [List.all_map]
    rw [show (done.all (_ ∘ fun x => x.1)) = done.all (fun p => f.am.testBit p.1 || !clash p.2 f) from by
      apply Bool.eq_iff_iff.2
      simp only [List.all_eq_true, Function.comp]
      constructor
      · intro q p hp
        have := q p hp
        rw [(hd p hp).1] at this
        simp only at this
        rw [Bool.or_comm]; exact this
      · intro q p hp
        have := q p hp
        rw [(hd p hp).1]
        simp only
        rw [Bool.or_comm]; exact this]
    cases hq : ((doneM &&& f.am) == doneM) with
    | false => rfl
    | true =>
      symm
      simp only [Bool.true_or]
      rw [List.all_eq_true]
      intro p hp
      have e : doneM &&& f.am = doneM := by simpa using hq
      have b := (hd p hp).2
      rw [← e, Nat.testBit_and] at b
      simp only [Bool.and_eq_true] at b
      simp [b.2]

/-! ### Regions that draw -/
structure OwedK where
  idx : Nat
  q : KR
  t : Tv
  v : Value

def payK : (am : Nat) → Hp → List OwedK → Bool → Bool
  | _, _, [], r => r
  | am, h, d :: owed, r => match am.testBit d.idx with
    | true => payK am h owed r
    | false => (d.q.run d.t h).any (sameV 100 d.v) && payK am h owed r

inductive OwR (n : Nat) : List OwedK → List Owed → Prop where
  | nil : OwR n [] []
  | cons {i : Nat} {op : Op} {t : Tv} {tm : List Value} {v : Value} {a : List OwedK} {b : List Owed} : RT n t tm → OwR n a b → OwR n (⟨i, krop P n op, t, v⟩ :: a) (⟨i, op, tm, v⟩ :: b)

theorem payK_eq {n : Nat} (m am : Nat) (h : Hp) {a : List OwedK} {b : List Owed} (ho : OwR P n a b) (r : Bool) : payK am h a r = payAll P (alB m) am h b r := by
  induction ho with
  | nil => rfl
  | cons hR _ ih =>
    simp only [payK, payAll, List.foldr_cons] at ih ⊢
    rw [← ih]
    cases hb : am.testBit _ with
    | true => simp
    | false => simp only [krop_eq P hR]; rfl

structure KD where
  run : CF → List (Option Value) → Tv → List OwedK → Hp → (Tv → Hp → Bool) → Bool

def kdraw1 (n m : Nat) (ops : List Oper) (i am : Nat) (o : Oper) (r : KD) : KD :=
  let w := kset n o.dst
  let go : KD :=
    match kind P o.op with
    | .pure => let q := kpop P n o.op; ⟨fun cF pre t owed h k => opt false (q.run t) fun v => r.run cF pre (w.run v t) owed h k⟩
    | .read => let q := krop P n o.op; ⟨fun cF pre t owed h k => opt false (q.run t h) fun v => r.run cF pre (w.run v t) (⟨i, q, t, v⟩ :: owed) h k⟩
    | .eff => let q := keop P n o.op; ⟨fun cF pre t owed h k => opt false (q.run t h) fun x => payK am x.2 owed (r.run cF pre (w.run x.1 t) owed x.2 k)⟩
    | .call => let q := kcall P n o.op; ⟨fun cF pre t owed h k => opt false (q.run t) fun fa => cF fa.1 fa.2 h fun v h' => payK am h' owed (r.run cF pre (w.run v t) owed h' k)⟩
    | .alt => ⟨fun cF pre t owed h k => opt false (aop (toL t n 0) o.op h) fun l => (alB m).all (l.map fun x => payK am x.2 owed (r.run cF pre (w.run x.1 t) owed x.2 k))⟩
    | .mk => let q := kmk P n o.op; ⟨fun cF pre t owed h k => opt false (q.run t h) fun x => r.run cF pre (w.run x.1 t) owed x.2 k⟩
  let no : KD :=
    match kind P o.op with
    | .pure | .read | .mk => ⟨fun cF pre t owed h k => r.run cF pre (w.run undef t) owed h k⟩
    | .eff | .call | .alt => ⟨fun cF pre t owed h k => payK am h owed (r.run cF pre (w.run undef t) owed h k)⟩
  let g := kwants ops o
  match isAlloc o.op with
  | true => ⟨fun cF pre t owed h k => match g.run t with
      | none => false
      | some b => match pre.getD i none with
        | some v => r.run cF pre (w.run (if b then v else undef) t) owed h k
        | none => match b with
          | true => go.run cF pre t owed h k
          | false => no.run cF pre t owed h k⟩
  | false => match o.guard with
    | none => go
    | some _ => ⟨fun cF pre t owed h k => match g.run t with
      | none => false
      | some true => go.run cF pre t owed h k
      | some false => no.run cF pre t owed h k⟩

def kdraw (n m : Nat) (ops : List Oper) : List (Nat × Inf) → KD
  | [] => ⟨fun _ _ t _ h k => k t h⟩
  | (i, f) :: rest =>
    match ops[i]? with
    | some o => kdraw1 P n m ops i f.am o (kdraw n m ops rest)
    | none => ⟨fun _ _ _ _ _ _ => false⟩

theorem kdraw_eq {n : Nat} (m : Nat) (cF : CF) (ops : List Oper) (fs : List Inf) (pre pre' : List (Option Value)) (hpre : ∀ i o, ops[i]? = some o → isAlloc o.op = false → pre.getD i none = none) (hpre' : ∀ i o, ops[i]? = some o → isAlloc o.op = true → pre'.getD i none = pre.getD i none)
    {k' : Tv → Hp → Bool} {k : List Value → Hp → Bool} (hk : ∀ t tm h, RT n t tm → k' t h = k tm h) : ∀ (order : List (Nat × Inf)), (∀ p ∈ order, fs[p.1]? = some p.2) → ∀ {t : Tv} {tm : List Value} (hR : RT n t tm) {a : List OwedK} {b : List Owed} (ho : OwR P n a b) (h : Hp),
    (kdraw P n m ops order).run cF pre' t a h k' = xDraw P (alB m) cF ops fs pre (order.map (·.1)) tm b h k
  | [], _, t, tm, hR, a, b, ho, h => hk t tm h hR
  | (i, f) :: rest, hf, t, tm, hR, a, b, ho, h => by
    have ih := @kdraw_eq n m cF ops fs pre pre' hpre hpre' k' k hk rest fun q hq => hf q (by simp [hq])
    have e2 := hf (i, f) (by simp)
    simp only at e2
    show _ = xDraw P (alB m) cF ops fs pre (i :: rest.map (·.1)) tm b h k
    simp only [kdraw]
    cases e1 : ops[i]? with
    | none => simp only [xDraw, e1]; rfl
    | some o =>
    have hgo : ∀ (hp : pre.getD i none = none), wants ops tm o = some true → (match kind P o.op with
          | .pure => (let q := kpop P n o.op; ⟨fun cF pre t owed h k => opt false (q.run t) fun v => (kdraw P n m ops rest).run cF pre ((kset n o.dst).run v t) owed h k⟩ : KD)
          | .read => let q := krop P n o.op; ⟨fun cF pre t owed h k => opt false (q.run t h) fun v => (kdraw P n m ops rest).run cF pre ((kset n o.dst).run v t) (⟨i, q, t, v⟩ :: owed) h k⟩
          | .eff => let q := keop P n o.op; ⟨fun cF pre t owed h k => opt false (q.run t h) fun x => payK f.am x.2 owed ((kdraw P n m ops rest).run cF pre ((kset n o.dst).run x.1 t) owed x.2 k)⟩
          | .call => let q := kcall P n o.op; ⟨fun cF pre t owed h k => opt false (q.run t) fun fa => cF fa.1 fa.2 h fun v h' => payK f.am h' owed ((kdraw P n m ops rest).run cF pre ((kset n o.dst).run v t) owed h' k)⟩
          | .alt => ⟨fun cF pre t owed h k => opt false (aop (toL t n 0) o.op h) fun l => (alB m).all (l.map fun (x : Value × Hp) => payK f.am x.2 owed ((kdraw P n m ops rest).run cF pre ((kset n o.dst).run x.1 t) owed x.2 k))⟩
          | .mk => let q := kmk P n o.op; ⟨fun cF pre t owed h k => opt false (q.run t h) fun x => (kdraw P n m ops rest).run cF pre ((kset n o.dst).run x.1 t) owed x.2 k⟩).run cF pre' t a h k' =
        xDraw P (alB m) cF ops fs pre (i :: rest.map (·.1)) tm b h k := by
      intro hp hw
      simp only [xDraw, e1, e2, hw, hp, if_true]
      cases hkd : kind P o.op <;> simp only [kpop_eq P hR, krop_eq P hR, keop_eq P hR, kcall_eq P hR, kmk_eq P hR, hR.toL]
      · congr 1; funext v; exact ih (hR.set _ _) ho _
      · congr 1; funext v; exact ih (hR.set _ _) (.cons hR ho) _
      · congr 1; funext v; rw [payK_eq P m _ _ ho, ih (hR.set _ _) ho]
      · congr 1; funext fa; congr 1; funext v h'; rw [payK_eq P m _ _ ho, ih (hR.set _ _) ho]
      · congr 1; funext l; congr 1; congr 1; funext x; rw [payK_eq P m _ _ ho, ih (hR.set _ _) ho]
      · congr 1; funext v; exact ih (hR.set _ _) ho _
    have hno : ∀ (hp : pre.getD i none = none), wants ops tm o = some false → (match kind P o.op with
          | .pure | .read | .mk => (⟨fun cF pre t owed h k => (kdraw P n m ops rest).run cF pre ((kset n o.dst).run undef t) owed h k⟩ : KD)
          | .eff | .call | .alt => ⟨fun cF pre t owed h k => payK f.am h owed ((kdraw P n m ops rest).run cF pre ((kset n o.dst).run undef t) owed h k)⟩).run cF pre' t a h k' =
        xDraw P (alB m) cF ops fs pre (i :: rest.map (·.1)) tm b h k := by
      intro hp hw
      simp only [xDraw, e1, e2, hw, hp, Bool.false_eq_true, if_false]
      cases hkd : kind P o.op <;> simp only [opt]
      · exact ih (hR.set _ _) ho _
      · exact ih (hR.set _ _) ho _
      · rw [payK_eq P m _ _ ho, ih (hR.set _ _) ho]
      · rw [payK_eq P m _ _ ho, ih (hR.set _ _) ho]
      · rw [payK_eq P m _ _ ho, ih (hR.set _ _) ho]
      · exact ih (hR.set _ _) ho _
    simp only
    unfold kdraw1
    simp only
    cases ha : isAlloc o.op with
    | true =>
      simp only [kwants_eq hR]
      cases hw : wants ops tm o with
      | none => simp only [xDraw, e1, e2, hw]; rfl
      | some b' =>
        simp only [hpre' i o e1 ha]
        cases hp : pre.getD i none with
        | some v =>
          simp only [xDraw, e1, e2, hw, hp]
          exact ih (hR.set _ _) ho _
        | none =>
          cases b' with
          | true => exact hgo hp hw
          | false => exact hno hp hw
    | false =>
      have hp := hpre i o e1 ha
      simp only
      cases hg : o.guard with
      | none => exact hgo hp (by unfold wants; rw [hg])
      | some g =>
        simp only [kwants_eq hR]
        cases hw : wants ops tm o with
        | none => simp only [xDraw, e1, e2, hw]; rfl
        | some b' =>
          cases b' with
          | true => exact hgo hp hw
          | false => exact hno hp hw

theorem preAlloc_none : ∀ (ops : List Oper) (h h' : Hp) (pre : List (Option Value)), preAlloc P ops h = some (pre, h') → ∀ i o, ops[i]? = some o → isAlloc o.op = false → pre.getD i none = none
  | [], h, h', pre, _, i, o, ho, _ => by simp at ho
  | a :: rest, h, h', pre, hp, i, o, ho, hn => by
    unfold preAlloc at hp
    split at hp
    · rename_i e he
      split at hp
      · split at hp
        · split at hp
          · rename_i l h2 hr
            simp only [Option.some.injEq, Prod.mk.injEq] at hp
            obtain ⟨rfl, rfl⟩ := hp
            cases i with
            | zero =>
              simp at ho; subst ho
              rw [he] at hn
              simp [isAlloc] at hn
            | succ i =>
              simp only [List.getD_cons_succ]
              exact preAlloc_none rest _ _ _ hr i o (by simpa using ho) hn
          · simp at hp
        · simp at hp
      · simp at hp
    · split at hp
      · rename_i l h2 hr
        simp only [Option.some.injEq, Prod.mk.injEq] at hp
        obtain ⟨rfl, rfl⟩ := hp
        cases i with
        | zero => rfl
        | succ i =>
          simp only [List.getD_cons_succ]
          exact preAlloc_none rest _ _ _ hr i o (by simpa using ho) hn
      · simp at hp

theorem preAlloc_free : ∀ (ops : List Oper) (h : Hp), (ops.any fun o => isAlloc o.op) = false → ∃ pre, preAlloc P ops h = some (pre, h)
  | [], h, _ => ⟨[], rfl⟩
  | a :: rest, h, hn => by
    simp only [List.any_cons, Bool.or_eq_false_iff] at hn
    obtain ⟨pre, hp⟩ := preAlloc_free rest h hn.2
    unfold preAlloc
    split
    · rename_i e he; rw [he] at hn; simp [isAlloc] at hn
    · exact ⟨none :: pre, by rw [hp]⟩

def kregion (n m : Nat) (ops : List Oper) : KL :=
  let fs := infos P ops
  let order := greedyK ops.length (pairs fs 0) 0
  match orderK fs.length order [] 0 0 with
  | true =>
    let d := kdraw P n m ops order
    match ops.any fun o => isAlloc o.op with
    | true => ⟨fun cF t h k => match preAlloc P ops h with
      | some r => d.run cF r.1 t [] r.2 k
      | none => false⟩
    | false => ⟨fun cF t h k => d.run cF [] t [] h k⟩
  | false => ⟨fun _ _ _ _ => false⟩
end
end Go.Cn

/- Evaluation that the kernel does fast (3): code and functions. -/
set_option linter.unusedVariables false
set_option linter.unusedSimpArgs false
namespace Go.Cn

section
variable (P : Program)

theorem kregion_eq {n : Nat} (m : Nat) (cF : CF) (ops : List Oper) {k' : Tv → Hp → Bool} {k : List Value → Hp → Bool} (hk : ∀ t tm h, RT n t tm → k' t h = k tm h) {t : Tv} {tm : List Value} (hR : RT n t tm) (h : Hp) :
    (kregion P n m ops).run cF t h k' = xRegion P (alB m) cF ops tm h k := by
  have hp := pairs_mem (infos P ops) (infos P ops) 0 rfl
  have hlen : ∀ (ops1 : List Oper) (acc : List Inf), (infosFrom P ops ops1 acc).length = acc.length + ops1.length := by
    intro ops1
    induction ops1 with
    | nil => intro acc; rfl
    | cons o l ih => intro acc; simp only [infosFrom, ih, List.length_append, List.length_cons, List.length_nil]; omega
  have hlen0 : (infos P ops).length = ops.length := by unfold infos; rw [hlen]; simp
  obtain ⟨g1, g2⟩ := greedyK_eq (fs := infos P ops) ops.length (pairs (infos P ops) 0) 0 hp
  have g3 : (greedyK ops.length (pairs (infos P ops) 0) 0).map (·.1) = greedy (infos P ops) ops.length (List.range ops.length) 0 := by
    rw [g1, pairs_fst, hlen0, List.range_eq_range']
  have g4 := orderK_eq (fs := infos P ops) (greedyK ops.length (pairs (infos P ops) 0) 0) [] 0 0 g2 (fun p hp => by simp at hp)
  rw [g3] at g4
  simp only [List.map_nil] at g4
  unfold kregion xRegion
  simp only [g4]
  cases ho : orderOk (infos P ops) (greedy (infos P ops) ops.length (List.range ops.length) 0) [] 0 0 with
  | false => rfl
  | true =>
    simp only [if_true]
    cases ha : (ops.any fun o => isAlloc o.op) with
    | true =>
      simp only
      cases hpa : preAlloc P ops h with
      | none => rfl
      | some r =>
        simp only [opt]
        rw [← g3]
        exact kdraw_eq P m cF ops (infos P ops) r.1 r.1 (preAlloc_none P ops h r.2 r.1 (by rw [hpa])) (fun _ _ _ _ => rfl) hk _ g2 hR .nil r.2
    | false =>
      obtain ⟨pre, hpa⟩ := preAlloc_free P ops h ha
      simp only [hpa, opt]
      rw [← g3]
      refine kdraw_eq P m cF ops (infos P ops) pre [] (preAlloc_none P ops h h pre hpa) (fun i o hi hal => ?_) hk _ g2 hR .nil h
      exfalso
      have : (ops.any fun o => isAlloc o.op) = true := List.any_eq_true.2 ⟨o, List.mem_of_getElem? hi, hal⟩
      rw [ha] at this
      simp at this

/-! ### Code -/
/-- All slots go on. -/
def annE : Nat → List Tmp := fun i => if i ≥ 1000000 then [] else [999999999]
theorem annE_join (b : Code) : annE (joinId b) = [] := by unfold annE joinId; rw [if_pos (by omega)]

def loopT (body : (Exit → Tv → Hp → Bool) → Tv → Hp → Bool) (k : Exit → Tv → Hp → Bool) : Nat → Tv → Hp → Bool
  | 0, _, _ => false
  | n + 1, t, h => body (fun e t h' => match e with
      | .normal => loopT body k n t h'
      | e => k e t h') t h

theorem loopT_eq {n : Nat} {b' : (Exit → Tv → Hp → Bool) → Tv → Hp → Bool} {b : (Exit → List Value → Hp → Bool) → List Value → Hp → Bool} {k' : Exit → Tv → Hp → Bool} {k : Exit → List Value → Hp → Bool}
    (hb : ∀ {k' : Exit → Tv → Hp → Bool} {k : Exit → List Value → Hp → Bool}, (∀ e t tm h, RT n t tm → k' e t h = k e tm h) → ∀ {t tm} (h : Hp), RT n t tm → b' k' t h = b k tm h)
    (hk : ∀ e t tm h, RT n t tm → k' e t h = k e tm h) : ∀ (m : Nat) {t tm} (h : Hp), RT n t tm → loopT b' k' m t h = loopW false b k m tm h
  | 0, t, tm, h, hR => rfl
  | m + 1, t, tm, h, hR => by
    unfold loopT loopW
    refine hb (fun e t tm h' hR' => ?_) h hR
    cases e <;> first | exact loopT_eq hb hk m h' hR' | exact hk _ _ _ _ hR'

/-- Do all loops have a number below the joints'? -/
def small : Code → Bool
  | .seq a b => small a && small b
  | .cond _ a b => small a && small b
  | .block _ c => small c
  | .scope c => small c
  | .loop c => decide ((firstRegion c).getD 0 < 1000000) && small c
  | _ => true

structure KX where
  run : Cx → CF → (Exit → Tv → Hp → Bool) → Tv → Hp → Bool

def kcode (n m : Nat) : Code → KX
  | .skip => ⟨fun _ _ k t h => k .normal t h⟩
  | .region _ ops false => let r := kops P n ops.toList ops.toList; ⟨fun _ cF k t h => r.run cF t h fun t h => k .normal t h⟩
  | .region _ ops true => let r := kregion P n m ops.toList; ⟨fun _ cF k t h => r.run cF t h fun t h => k .normal t h⟩
  | .seq a b =>
    let x := kcode n m a
    let y := kcode n m b
    ⟨fun cx cF k t h => x.run cx cF (fun e t h => match e with
        | .normal => y.run cx cF k t h
        | e => k e t h) t h⟩
  | .cond c a b =>
    let q := kev c
    let x := kcode n m a
    let y := kcode n m b
    ⟨fun cx cF k t h => match q.run t with
      | .bool true => x.run cx cF k t h
      | .bool false => y.run cx cF k t h
      | _ => false⟩
  | .block id c =>
    let x := kcode n m c
    ⟨fun cx cF k t h => x.run cx cF (fun e t h => match e with
      | .exit i => if i = id then k .normal t h else k (.exit i) t h
      | e => k e t h) t h⟩
  | .loop c =>
    let x := kcode n m c
    ⟨fun cx cF k t h => loopT (fun k t h => x.run cx cF k t h) k m t h⟩
  | .exit id => ⟨fun _ _ k t h => k (.exit id) t h⟩
  | .ret => ⟨fun _ _ k t h => k .ret t h⟩
  | .label _ => ⟨fun _ _ k t h => k .normal t h⟩
  | .scope c =>
    let x := kcode n m c
    ⟨fun cx cF k t h => x.run cx cF (fun e t h => match e with
      | .goto _ => false
      | e => k e t h) t h⟩
  | .rangeFunc g ps asg body =>
    let q := kev g
    ⟨fun cx cF k t h => if cx.ok h then
      match q.run t with
      | .func (.func f) first captured =>
        if f < P.funcs.size then
          cF f (first.toList ++ [.func (.yield h.next) #[] #[]] ++ captured.toList) (h.newOb (.loop ⟨.ready, none, cx.me, toL t n 0, ps.toList, asg, body⟩)) fun _ h' => leaveX false h.next [] (fun e _ h => k e t h) h'
        else false
      | _ => false
    else false⟩
  | _ => ⟨fun _ _ _ _ _ => false⟩

theorem leaveX_tm (l : Nat) (tm : List Value) {k' k : Exit → List Value → Hp → Bool} (hk : ∀ e h, k' e [] h = k e tm h) (h : Hp) : leaveX false l [] k' h = leaveX false l tm k h := by
  unfold leaveX
  cases loopAt h l with
  | none => rfl
  | some r =>
    simp only [hk]

theorem kcode_eq (m : Nat) (cF : CF) (cx : Cx) {n : Nat} : ∀ (c : Code) (hs : small c = true) {k' : Exit → Tv → Hp → Bool} {k : Exit → List Value → Hp → Bool}, (∀ e t tm h, RT n t tm → k' e t h = k e tm h) → ∀ {t tm} (h : Hp), RT n t tm →
    (kcode P n m c).run cx cF k' t h = xC P (alB m) cF cx annE c k tm h
  | .skip, _, k', k, hk, t, tm, h, hR => hk _ _ _ _ hR
  | .exit id, _, k', k, hk, t, tm, h, hR => hk _ _ _ _ hR
  | .ret, _, k', k, hk, t, tm, h, hR => hk _ _ _ _ hR
  | .label l, _, k', k, hk, t, tm, h, hR => hk _ _ _ _ hR
  | .region id ops false, _, k', k, hk, t, tm, h, hR => by
    simp only [kcode, xC]
    exact kops_eq P m cF _ (k' := fun t h => k' .normal t h) (k := fun tm h => k .normal tm h) (fun t tm h hR => hk .normal t tm h hR) _ hR h
  | .region id ops true, _, k', k, hk, t, tm, h, hR => by
    simp only [kcode, xC]
    exact kregion_eq P m cF _ (k' := fun t h => k' .normal t h) (k := fun tm h => k .normal tm h) (fun t tm h hR => hk .normal t tm h hR) hR h
  | .seq a b, hs, k', k, hk, t, tm, h, hR => by
    simp only [small, Bool.and_eq_true] at hs
    simp only [kcode, xC, annE_join, joinT]
    refine kcode_eq m cF cx a hs.1 (fun e t tm h hR => ?_) h hR
    cases e <;> first | exact kcode_eq m cF cx b hs.2 hk h hR | exact hk _ _ _ _ hR
  | .cond c a b, hs, k', k, hk, t, tm, h, hR => by
    simp only [small, Bool.and_eq_true] at hs
    have iha := kcode_eq m cF cx a hs.1 hk h hR
    have ihb := kcode_eq m cF cx b hs.2 hk h hR
    simp only [kcode, xC, kev_eq hR]
    generalize ev tm c = x
    cases x with
    | bool u => cases u with
      | true => exact iha
      | false => exact ihb
    | _ => rfl
  | .block id c, hs, k', k, hk, t, tm, h, hR => by
    simp only [small] at hs
    simp only [kcode, xC]
    refine kcode_eq m cF cx c hs (fun e t tm h hR => ?_) h hR
    cases e <;> simp only [hk _ _ _ _ hR]
  | .loop c, hs, k', k, hk, t, tm, h, hR => by
    simp only [small, Bool.and_eq_true, decide_eq_true_eq] at hs
    simp only [kcode, xC]
    have hka : keepAll (annE ((firstRegion c).getD 0)) = true := by unfold annE; rw [if_neg (by omega)]; rfl
    rw [if_pos hka]
    exact loopT_eq (n := n) (fun {k' k} hk {t tm} h hR => kcode_eq m cF cx c hs.2 hk h hR) hk m h hR
  | .scope c, hs, k', k, hk, t, tm, h, hR => by
    simp only [small] at hs
    simp only [kcode, xC]
    refine kcode_eq m cF cx c hs (fun e t tm h hR => ?_) h hR
    cases e <;> first | rfl | exact hk _ _ _ _ hR
  | .rangeFunc g ps x y, _, k', k, hk, t, tm, h, hR => by
    simp only [kcode, xC, kev_eq hR, hR.toL]
    split
    · generalize ev tm g = z
      cases z with
      | func f first captured => cases f with
        | func f =>
          simp only
          split
          · congr 1
            funext v h'
            exact leaveX_tm _ _ (fun e h => hk _ _ _ _ hR) _
          · rfl
        | _ => rfl
      | _ => rfl
    · rfl
  | .goto l, _, k', k, hk, t, tm, h, hR => rfl
  | .refuse s, _, k', k, hk, t, tm, h, hR => rfl

/-! ### Functions -/
def krv (r : ResultVar) : KR :=
  match r with
  | .tmp i => let g := gt i; ⟨fun t _ => some (g.run t)⟩
  | .cell a ty => let g := gt a; ⟨fun t h => cload P ty (g.run t) h⟩

structure KM where
  run : Tv → Hp → Option (List Value)
def krvs : List ResultVar → KM
  | [] => ⟨fun _ _ => some []⟩
  | r :: rs =>
    let q := krv P r
    let qs := krvs rs
    ⟨fun t h => match q.run t h with
      | some v => match qs.run t h with
        | some l => some (v :: l)
        | none => none
      | none => none⟩

def kres (rs : List ResultVar) : KR :=
  match rs with
  | [] => ⟨fun _ _ => some (.tuple #[])⟩
  | [r] => krv P r
  | rs => let q := krvs P rs; ⟨fun t h => match q.run t h with
    | some [v] => some v
    | some vs => some (.tuple vs.toArray)
    | none => none⟩

theorem krv_eq {n : Nat} {t : Tv} {tm : List Value} (hR : RT n t tm) (r : ResultVar) (h : Hp) : (krv P r).run t h = (match r with
    | .tmp t => some (tm.getD t undef)
    | .cell a t => cload P t (tm.getD a undef) h) := by
  cases r <;> simp only [krv, hR.get]

theorem krvs_eq {n : Nat} {t : Tv} {tm : List Value} (hR : RT n t tm) (h : Hp) : ∀ rs, (krvs P rs).run t h = rs.mapM fun r => match r with
    | .tmp t => some (tm.getD t undef)
    | .cell a t => cload P t (tm.getD a undef) h
  | [] => rfl
  | r :: rs => by
    simp only [krvs, List.mapM_cons, krv_eq P hR, krvs_eq hR h rs]
    cases r with
    | tmp i =>
      simp only
      cases hq : List.mapM (fun r => match r with
        | ResultVar.tmp t => some (tm.getD t undef)
        | ResultVar.cell a t => cload P t (tm.getD a undef) h) rs <;> simp [bind, pure, hq]
    | cell a ty =>
      simp only
      cases cload P ty (tm.getD a undef) h with
      | none => rfl
      | some v =>
        cases hq : List.mapM (fun r => match r with
          | ResultVar.tmp t => some (tm.getD t undef)
          | ResultVar.cell a t => cload P t (tm.getD a undef) h) rs <;> simp [bind, pure, hq]

theorem kres_eq {n : Nat} {t : Tv} {tm : List Value} (hR : RT n t tm) (fn : Func) (h : Hp) : (kres P fn.results.toList).run t h = resultsOf P fn tm h := by
  unfold resultsOf
  have hq := krvs_eq P hR h fn.results.toList
  generalize fn.results.toList = rs at hq ⊢
  match rs with
  | [] => rfl
  | [r] =>
    simp only [kres]
    rw [krv_eq P hR]
    cases r with
    | tmp i => rfl
    | cell a ty =>
      simp only [List.mapM_cons, List.mapM_nil]
      cases cload P ty (tm.getD a undef) h <;> rfl
  | a :: b :: l =>
    simp only [kres, hq]
    rfl

structure KF where
  run : CF → List Value → Hp → (Value → Hp → Bool) → Bool

def kfunc (m : Nat) (f : FuncId) (fn : Func) (c : Code) : KF :=
  match small c with
  | true =>
    let n := fn.ntmps
    let x := kcode P n m c
    let q := kres P fn.results.toList
    let cx : Cx := ⟨f, none⟩
    ⟨fun cF args h k => match decide (args.length ≤ n) with
      | true => x.run cx cF (fun e t h' => match e with
        | .normal | .ret => opt false (q.run t h') fun v => k v h'
        | _ => false) (ofL args 0 .leaf) h
      | false => bodyX P (alB m) cF f annE fn c args h k⟩
  | false => ⟨fun cF args h k => bodyX P (alB m) cF f annE fn c args h k⟩

theorem kfunc_eq (m : Nat) (cF : CF) (f : FuncId) (fn : Func) (c : Code) (args : List Value) (h : Hp) (k : Value → Hp → Bool) : (kfunc P m f fn c).run cF args h k = bodyX P (alB m) cF f annE fn c args h k := by
  unfold kfunc
  cases hs : small c with
  | false => rfl
  | true =>
    simp only
    cases hd : decide (args.length ≤ fn.ntmps) with
    | false => rfl
    | true =>
      simp only
      unfold bodyX
      refine kcode_eq P m cF _ c hs (fun e t tm h' hR => ?_) h (RT.args (by simpa using hd))
      cases e <;> simp only [kres_eq P hR] <;> rfl

theorem setArgs_length : ∀ (ps : List Tmp) (args tm : List Value), (setArgs ps args tm).length = tm.length
  | [], _, _ => by simp [setArgs]
  | p :: ps, [], _ => by simp [setArgs]
  | p :: ps, a :: args, tm => by simp [setArgs, setArgs_length ps args]

/-- A round. -/
def kround (m : Nat) (cF : CF) (l : Nat) (args : List Value) (h : Hp) (k : Value → Hp → Bool) : Bool :=
  match loopAt h l with
  | some r =>
    match (P.funcs[r.fn]?).map (·.ntmps) with
    | some n =>
      match decide (r.tm.length = n) && small r.assign && small r.body with
      | true =>
        if r.params.length = args.length then
          (kcode P n m r.assign).run ⟨r.fn, some l⟩ cF (fun e t h => match e with
            | .normal => match loopAt h l with
              | some r' => if r'.state = .ready then (kcode P n m r.body).run ⟨r.fn, some l⟩ cF (fun e _ h => endX false l k e h) t (h.setOb l (.loop { r' with state := .busy })) else false
              | none => false
            | _ => false) (ofL (setArgs r.params args r.tm) 0 .leaf) h
        else false
      | false => roundX P (alB m) cF (fun _ => annE) l args h k
    | none => roundX P (alB m) cF (fun _ => annE) l args h k
  | none => false

theorem kround_eq (m : Nat) (cF : CF) (l : Nat) (args : List Value) (h : Hp) (k : Value → Hp → Bool) : kround P m cF l args h k = roundX P (alB m) cF (fun _ => annE) l args h k := by
  unfold kround
  cases hl : loopAt h l with
  | none => unfold roundX; rw [hl]; rfl
  | some r =>
    simp only
    cases hn : (P.funcs[r.fn]?).map (·.ntmps) with
    | none => rfl
    | some n =>
      simp only
      cases hc : decide (r.tm.length = n) && small r.assign && small r.body with
      | false => rfl
      | true =>
        simp only [Bool.and_eq_true, decide_eq_true_eq] at hc
        obtain ⟨⟨h1, h2⟩, h3⟩ := hc
        subst h1
        simp only
        unfold roundX
        simp only [hl]
        split
        · have hR := RT.of (setArgs r.params args r.tm)
          rw [setArgs_length] at hR
          refine kcode_eq P m cF _ r.assign h2 (fun e t tm h hR => ?_) h hR
          cases e <;> try rfl
          simp only
          cases loopAt h l with
          | none => rfl
          | some r' =>
            simp only
            split
            · exact kcode_eq P m cF _ r.body h3 (k' := fun e _ h => endX false l k e h) (k := fun e _ h => endX false l k e h) (fun e t tm h hR => rfl) _ hR
            · rfl
        · rfl

/-! ### All functions in a tree -/
def trOf : List Func → Nat → Tr Func → Tr Func
  | [], _, t => t
  | x :: xs, i, t => trOf xs (i + 1) (Tr.set x (i + 1) i t)

theorem trOf_get : ∀ (l : List Func) (i : Nat) (t : Tr Func) (j : Nat), (trOf l i t).get j = if i ≤ j ∧ j < i + l.length then l[j - i]? else t.get j
  | [], i, t, j => by rw [if_neg (by simp only [List.length_nil]; omega)]; rfl
  | v :: vs, i, t, j => by
    simp only [trOf, trOf_get vs, List.length_cons]
    rw [Tr.get_set _ _ _ _ _ (by omega)]
    by_cases h1 : j = i
    · subst h1
      rw [if_neg (by omega), if_pos rfl, if_pos (by omega)]
      simp
    · by_cases h2 : i + 1 ≤ j ∧ j < i + 1 + vs.length
      · rw [if_pos h2, if_pos (by omega)]
        rw [show j - i = (j - (i + 1)) + 1 by omega]
        simp
      · rw [if_neg h2, if_neg h1, if_neg (by omega)]

def funsT : Tr Func := trOf P.funcs.toList 0 .leaf

theorem funsT_get (f : Nat) : (funsT P).get f = P.funcs[f]? := by
  unfold funsT
  rw [trOf_get]
  by_cases h : f < P.funcs.size
  · rw [if_pos (by simp; exact h)]; simp
  · rw [if_neg (by simp; omega), Array.getElem?_eq_none (by omega)]; rfl

structure KB where
  run : Option KF
/-- A function's closure. -/
def kfun (m : Nat) (f : FuncId) : Option (Option KF) :=
  match (funsT P).get f with
  | some fn => match fn.body with
    | some c => match mayCall fn with
      | true => some (some (kfunc P m f fn c))
      | false => some none
    | none => some none
  | none => none

/-- xG, fast. -/
def xK (m : Nat) (nat : FuncId → List Value → Hp → Option (Option Value)) : Nat → FuncId → List Value → Hp → (Value → Hp → Bool) → Bool
  | 0, _, _, _, _ => false
  | n + 1, f, args, h, k =>
    match nat f args h with
    | some (some v) => k v h
    | some none => false
    | none =>
      match kfun P m f with
      | some (some q) => q.run (xK m nat n) args h k
      | some none => false
      | none => kround P m (xK m nat n) (f - P.funcs.size) args h k

theorem xK_eq (m : Nat) (nat : FuncId → List Value → Hp → Option (Option Value)) : ∀ (n : Nat), xK P m nat n = xG P (alB m) nat (fun _ => annE) n
  | 0 => rfl
  | n + 1 => by
    funext f args h k
    simp only [xK, xG, xK_eq m nat n, kfun, funsT_get]
    cases hn : nat f args h with
    | some r => cases r <;> rfl
    | none =>
      simp only
      cases hf : P.funcs[f]? with
      | none => exact kround_eq P m _ _ _ _ _
      | some fn =>
        simp only
        cases hb : fn.body with
        | none => rfl
        | some c =>
          simp only
          cases hm : mayCall fn with
          | true => simp only [kfunc_eq]; rfl
          | false => rfl
end

section
variable {P : Program}
/-- A call without arguments, evaluated fast. -/
theorem closedK_bool (hm : P.follows .mixedOrders = true) {m n : Nat} {nat : FuncId → List Value → Hp → Option (Option Value)} (hn : NatOk P nat) {f : FuncId}
    (hx : xK P m nat n f [] Hp.empty (fun v _ => match v with | .bool b => b | _ => false) = true) : SCalls P f [] Hp.empty fun v _ => v = .bool true := by
  rw [xK_eq] at hx
  refine (xG_ok hm hn n f [] Hp.empty _ hx).mono fun v h' hv => ?_
  cases v with
  | bool b => simp at hv; rw [hv]
  | _ => simp at hv
end
end Go.Cn

/- Reasoning over canonical heaps: single cells of a block; slices that own their memory, with room behind them. -/
set_option linter.unusedVariables false
set_option linter.unusedSimpArgs false
namespace Go.Cn

/-! ### 1. One cell of a block -/
theorem take_one {α : Type} {CS : List α} {o : Nat} {v : α} (h : CS[o]? = some v) : (CS.drop o).take 1 = [v] := by
  obtain ⟨ho, hv⟩ := List.getElem?_eq_some_iff.mp h
  rw [List.drop_eq_getElem_cons ho, hv]; rfl

theorem Blk.one {h : Hp} {b : Nat} {g : Option Nat} {CS : List Value} (hb : Blk h b g CS) {o : Nat} {v : Value} (hv : CS[o]? = some v) : h.cellsAt b o 1 = some [v] := by
  have ho := (List.getElem?_eq_some_iff.mp hv).1
  rw [hb.cells (by omega), take_one hv]

theorem splice_one {CS : List Value} {o : Nat} (ho : o < CS.length) (v : Value) : splice CS o [v] = CS.set o v := by
  rw [List.set_eq_take_append_cons_drop, if_pos ho]
  simp [splice]

theorem Blk.set {h : Hp} {b g : Nat} {CS : List Value} (hb : Blk h b (some g) CS) {o : Nat} (ho : o < CS.length) {v : Value} (hv : isCell v = true) :
    ∃ h', h.store b o [v] = some h' ∧ Blk h' b (some g) (CS.set o v) ∧ Keep (· = g) h h' ∧ h'.next = h.next ∧ (Wf h → Wf h') := by
  obtain ⟨h', h1, h2, h3, h4, h5⟩ := hb.store (o := o) (vs := [v]) (by simp; omega) (by simp [hv])
  rw [splice_one ho] at h2
  exact ⟨h', h1, h2, h3, h4, h5⟩

theorem splice_take {CS vs : List Value} {i n : Nat} (hi : i + vs.length ≤ n) (hn : n ≤ CS.length) : splice (CS.take n) i vs = (splice CS i vs).take n := by
  apply List.ext_getElem?
  intro j
  rw [splice_get (by rw [List.length_take]; omega), List.getElem?_take, List.getElem?_take, splice_get (by omega)]
  split <;> split <;> first | rfl | omega | skip

/-! ### 2. Slices that own their memory -/
/-- Two groups are not the same one. -/
def Ap (x y : Option Nat) : Prop := ∀ g, x = some g → y ≠ some g
theorem Ap.symm {x y : Option Nat} (h : Ap x y) : Ap y x := fun g hy hx => h g hx hy
theorem Ap.nl (x : Option Nat) : Ap none x := fun g h => by simp at h
theorem Ap.nr (x : Option Nat) : Ap x none := fun g h => by simp

/-- A slice that owns its memory: empty, or a block of group g of c elements, of which the first l are its own. -/
def Ow (h : Hp) (w : Nat) (g : Option Nat) (a : Option Addr) (l c : Nat) (cs : List Value) : Prop :=
  (g = none ∧ l = 0 ∧ c = 0 ∧ cs = [] ∧ (a = none ∨ ∃ b o, a = some ⟨b, o, none⟩)) ∨
  ∃ b sp g' CS, g = some g' ∧ a = some ⟨b, 0, sp⟩ ∧ (sp = none ∨ sp = some w) ∧ l ≤ c ∧ 0 < c ∧ Blk h b (some g') CS ∧ CS.length = c * w ∧ cs = CS.take (l * w)

theorem Ow.nil (h : Hp) (w : Nat) : Ow h w none none 0 0 [] := .inl ⟨rfl, rfl, rfl, rfl, .inl rfl⟩

section
variable {h : Hp} {w : Nat} {g : Option Nat} {a : Option Addr} {l c : Nat} {cs : List Value}

theorem Ow.sl (s : Ow h w g a l c cs) : Sl h w g a l c cs := by
  rcases s with ⟨rfl, rfl, rfl, rfl, ha⟩ | ⟨b, sp, g', CS, rfl, rfl, hsp, hl, hc, hb, hlen, rfl⟩
  · refine ⟨Nat.le_refl _, by simp, ?_⟩
    rcases ha with rfl | ⟨b, o, rfl⟩
    · exact ⟨rfl, rfl⟩
    · exact ⟨.inl rfl, fun h0 => by omega⟩
  · have : l * w ≤ c * w := Nat.mul_le_mul_right w hl
    exact ⟨hl, by rw [List.length_take]; omega, hsp, fun _ => ⟨CS, hb, by omega, by rw [List.drop_zero]⟩⟩

theorem Ow.keep {S : Nat → Prop} {h' : Hp} (k : Keep S h h') (s : Ow h w g a l c cs) (hn : ∀ x, g = some x → ¬ S x) : Ow h' w g a l c cs := by
  rcases s with h1 | ⟨b, sp, g', CS, rfl, rfl, hsp, hl, hc, hb, hlen, rfl⟩
  · exact .inl h1
  · exact .inr ⟨b, sp, g', CS, rfl, rfl, hsp, hl, hc, k.blk hb fun x hx => by simp at hx; subst hx; exact hn _ rfl, hlen, rfl⟩

theorem Ow.glt (wf : Wf h) (s : Ow h w g a l c cs) : ∀ x, g = some x → x < h.next := by
  rcases s with ⟨rfl, _⟩ | ⟨b, sp, g', CS, rfl, rfl, hsp, hl, hc, hb, hlen, rfl⟩
  · simp
  · intro x hx; simp at hx; subst hx; exact hb.glt wf

/-- What stays of a slice that is cut behind its k-th element. -/
theorem Ow.cut (s : Ow h w g a l c cs) {k : Nat} (hk : k ≤ l) : Ow h w g a k c (cs.take (k * w)) := by
  rcases s with ⟨rfl, rfl, rfl, rfl, ha⟩ | ⟨b, sp, g', CS, rfl, rfl, hsp, hl, hc, hb, hlen, rfl⟩
  · have : k = 0 := by omega
    subst this
    exact .inl ⟨rfl, rfl, rfl, by simp, ha⟩
  · have : k * w ≤ l * w := Nat.mul_le_mul_right w hk
    exact .inr ⟨b, sp, g', CS, rfl, rfl, hsp, by omega, hc, hb, hlen, by rw [List.take_take, Nat.min_eq_left this]⟩

/-- Cells of an element are written. -/
theorem Ow.store (s : Ow h w g a l c cs) {i : Nat} {vs : List Value} (hi : i + vs.length ≤ l * w) (hl0 : 0 < l) (hv : vs.all isCell = true) :
    a.isSome = true ∧ ∃ h', h.store (blk a) (off a + i) vs = some h' ∧ Ow h' w g a l c (splice cs i vs) ∧ Keep (fun x => g = some x) h h' ∧ h'.next = h.next ∧ (Wf h → Wf h') := by
  rcases s with ⟨rfl, rfl, rfl, rfl, ha⟩ | ⟨b, sp, g', CS, rfl, rfl, hsp, hl, hc, hb, hlen, rfl⟩
  · omega
  · have hlw : l * w ≤ c * w := Nat.mul_le_mul_right w hl
    obtain ⟨h', h1, h2, h3, h4, h5⟩ := hb.store (o := i) (vs := vs) (by omega) hv
    have e0 : off (some ⟨b, 0, sp⟩) + i = i := by simp [off]
    refine ⟨rfl, h', by rw [e0]; exact h1, .inr ⟨b, sp, g', _, rfl, rfl, hsp, hl, hc, h2, ?_, ?_⟩, ⟨h3.next, h3.ro, fun b c t g hb hn => h3.rw b c t g hb fun he => hn (by rw [he]), h3.oth⟩, h4, h5⟩
    · rw [splice_length (by omega)]; exact hlen
    · exact splice_take hi (by omega)
end

section
variable {P : Program}
/-- append to a slice that owns its memory. -/
theorem Ow.append {h : Hp} (wf : Wf h) {t xt elem : TypeId} {w bytes : Nat} (ht : AppT P t xt elem w bytes) {g : Option Nat} {a : Option Addr} {l c : Nat} {cs : List Value} (s : Ow h w g a l c cs)
    {x : Value} {n : Nat} {new : List Value} (hx : dataOf w x h = some (n, new)) (hnl : new.length = n * w) (hv : new.all isCell = true) (hr : roomy (l + n) bytes = true) :
    ∃ a' c' g' h', cappend P t xt (.slice a l c) x h = some (.slice a' (l + n) c', h') ∧ Ow h' w g' a' (l + n) c' (cs ++ new) ∧ (g' = g ∨ ∃ y, g' = some y ∧ h.next ≤ y) ∧ Keep (fun x => g = some x) h h' ∧ Wf h' := by
  obtain ⟨i, z, e1, e2, e3, e4, e5⟩ := ht.info
  obtain ⟨u, e6, e7⟩ := ht.other
  have hp := ht.pos
  have hb := ht.bpos
  have hlc : l ≤ c := by rcases s with ⟨_, h1, h2, _⟩ | ⟨_, _, _, _, _, _, _, h1, _⟩ <;> omega
  have main : cappend P t xt (.slice a l c) x h = if n = 0 then some (.slice a l c, h) else
      (match (Value.slice a l c) with
        | .slice none 0 0 => some (.slice (some ⟨h.next, 0, some w⟩) n n, h.alloc new elem)
        | .slice (some ⟨b, o, sp⟩) l c =>
          if l + n ≤ c then (h.store b (o + l * w) new).map fun h' => (.slice (some ⟨b, o, sp⟩) (l + n) c, h')
          else match sp with
            | none => if l = 0 then some (.slice (some ⟨h.next, 0, some w⟩) n n, h.alloc new elem) else
              (h.cellsAt b o (l * w)).map fun old => (.slice (some ⟨h.next, 0, some w⟩) (l + n) (l + n), h.alloc (old ++ new) elem)
            | some k => if k = w then (h.extend b o (o + l * w) new).map fun h' => (.slice (some ⟨h.next, 0, some w⟩) (l + n) (l + n), h') else none
        | _ => none) := by
    unfold cappend
    rw [ht.under]
    dsimp only
    rw [e1, e6]
    have hb1 : ¬ (w = 0) := by omega
    have hb2 : ¬ (bytes = 0) := by omega
    cases u with
    | int k => exact absurd rfl (e7 k)
    | _ =>
      dsimp only
      rw [e2, hx]
      by_cases hn : n = 0
      · simp [hn, hlc]
      · simp only [hn, if_false, slen, e3, e4, e5, Option.map_some, decide_true, Bool.not_true, hr, Bool.false_or, Bool.or_false, hb1, hb2, decide_false, Bool.false_eq_true]
        cases a <;> rfl
  rw [main]
  by_cases hn : n = 0
  · subst hn
    have : new = [] := by simpa using hnl
    subst this
    simp only [if_true, Nat.add_zero, List.append_nil]
    exact ⟨a, c, g, h, rfl, s, .inl rfl, Keep.refl _ _, wf⟩
  · simp only [hn, if_false]
    have fresh : ∀ (cs' : List Value) (k : Nat), cs'.length = k * w → 0 < k → Ow (h.alloc cs' elem) w (some h.next) (some ⟨h.next, 0, some w⟩) k k cs' ∧ Keep (fun x => g = some x) h (h.alloc cs' elem) ∧ Wf (h.alloc cs' elem) := by
      intro cs' k hk h0
      exact ⟨.inr ⟨h.next, some w, h.next, cs', rfl, rfl, .inr rfl, Nat.le_refl _, h0, alloc_blk wf cs' elem, hk, by rw [← hk, List.take_length]⟩, (alloc_keep wf cs' elem).mono wf fun _ _ hf => hf.elim, alloc_wf wf cs' elem⟩
    rcases s with ⟨rfl, rfl, rfl, rfl, ha⟩ | ⟨b, sp, g', CS, rfl, rfl, hsp, hl, hc, hblk, hlen, rfl⟩
    · obtain ⟨f1, f2, f3⟩ := fresh new n hnl (by omega)
      rcases ha with rfl | ⟨b, o, rfl⟩
      · simp only [Nat.zero_add, List.nil_append]
        exact ⟨_, _, _, _, rfl, f1, .inr ⟨_, rfl, Nat.le_refl _⟩, f2, f3⟩
      · simp only [Nat.zero_add, List.nil_append]
        rw [if_neg (by omega)]
        simp only [if_true]
        exact ⟨_, _, _, _, rfl, f1, .inr ⟨_, rfl, Nat.le_refl _⟩, f2, f3⟩
    · have hlw : l * w ≤ c * w := Nat.mul_le_mul_right w hl
      have htl : (CS.take (l * w)).length = l * w := by rw [List.length_take]; omega
      simp only [Nat.zero_add]
      by_cases hroom : l + n ≤ c
      · rw [if_pos hroom]
        have hlnw : (l + n) * w ≤ c * w := Nat.mul_le_mul_right w hroom
        have hadd : (l + n) * w = l * w + n * w := Nat.add_mul _ _ _
        obtain ⟨h', h1, h2, h3, h4, h5⟩ := hblk.store (o := l * w) (vs := new) (by omega) hv
        rw [h1]
        refine ⟨_, _, _, _, rfl, .inr ⟨b, sp, g', _, rfl, rfl, hsp, hroom, hc, h2, by rw [splice_length (by omega)]; exact hlen, ?_⟩, .inl rfl, ⟨h3.next, h3.ro, fun b c t g hb hn => h3.rw b c t g hb fun he => hn (by rw [he]), h3.oth⟩, h5 wf⟩
        have e : (CS.take (l * w) ++ new).length = (l + n) * w := by rw [List.length_append, htl, hnl, hadd]
        rw [← e]
        exact List.take_left.symm
      · rw [if_neg hroom]
        rcases hsp with rfl | rfl
        · simp only
          by_cases hl0 : l = 0
          · subst hl0
            obtain ⟨f1, f2, f3⟩ := fresh new n hnl (by omega)
            simp only [if_true, Nat.zero_add, Nat.zero_mul, List.take_zero, List.nil_append]
            exact ⟨_, _, _, _, rfl, f1, .inr ⟨_, rfl, Nat.le_refl _⟩, f2, f3⟩
          · rw [if_neg hl0, hblk.cells (by omega)]
            obtain ⟨f1, f2, f3⟩ := fresh (CS.take (l * w) ++ new) (l + n) (by rw [List.length_append, htl, Nat.add_mul]; omega) (by omega)
            simp only [List.drop_zero, Option.map_some]
            exact ⟨_, _, _, _, rfl, f1, .inr ⟨_, rfl, Nat.le_refl _⟩, f2, f3⟩
        · simp only [if_true]
          obtain ⟨h', g1, g2, g3, g4, g5, g6⟩ := hblk.extend wf (o := 0) (e := l * w) (new := new) (by omega) (by omega) hv
          rw [g1]
          rw [List.drop_zero, Nat.sub_zero] at g2
          refine ⟨_, _, _, _, rfl, .inr ⟨h.next, some w, g', _, rfl, rfl, .inr rfl, Nat.le_refl _, by omega, g2, by rw [List.length_append, htl, Nat.add_mul]; omega, ?_⟩, .inl rfl, ⟨g4.next, g4.ro, fun b c t g hb hn => g4.rw b c t g hb fun he => hn (by rw [he]), g4.oth⟩, g6⟩
          exact (List.take_of_length_le (by rw [List.length_append, htl, Nat.add_mul]; omega)).symm

/-- append of one element, which lies in a new block. -/
theorem Ow.append1 {h h1 : Hp} (wf : Wf h) {t xt elem e : TypeId} {w bytes : Nat} (ht : AppT P t xt elem w bytes) {g : Option Nat} {a : Option Addr} {l c : Nat} {cs : List Value} (s : Ow h w g a l c cs)
    {new : List Value} (he : h1 = h.alloc new e) (hnl : new.length = w) (hv : new.all isCell = true) (hr : roomy (l + 1) bytes = true) :
    ∃ a' c' g' h', cappend P t xt (.slice a l c) (.slice (some ⟨h.next, 0, none⟩) 1 1) h1 = some (.slice a' (l + 1) c', h') ∧ Ow h' w g' a' (l + 1) c' (cs ++ new) ∧ (g' = g ∨ ∃ y, g' = some y ∧ h.next ≤ y) ∧ Keep (fun x => g = some x) h h' ∧ Wf h' := by
  subst he
  have k := alloc_keep wf new e
  have wf' := alloc_wf wf new e
  have hb := alloc_blk wf new e
  have hd : dataOf w (.slice (some ⟨h.next, 0, none⟩) 1 1) (h.alloc new e) = some (1, new) := by
    simp only [dataOf, Nat.one_mul]
    rw [hb.cells (by omega)]
    simp [← hnl]
  obtain ⟨a', c', g', h', h1, h2, h3, h4, h5⟩ := Ow.append wf' ht (s.keep k fun _ _ hf => hf) hd (by omega) hv hr
  refine ⟨a', c', g', h', h1, h2, ?_, (k.mono wf (S' := fun x => g = some x) fun _ _ hf => hf.elim).trans wf h4 (fun _ _ hg => hg), h5⟩
  rcases h3 with h3 | ⟨y, h3, h6⟩
  · exact .inl h3
  · exact .inr ⟨y, h3, by rw [alloc_next] at h6; omega⟩
end

/-! ### 3. Tests -/
theorem ltI_iff {a b : Int} : ltI a b = true ↔ a < b := by simp only [ltI, decide_eq_true_eq]
theorem leI_iff {a b : Int} : leI a b = true ↔ a ≤ b := by simp only [leI, decide_eq_true_eq]
theorem gtI_iff {a b : Int} : gtI a b = true ↔ a > b := by simp only [gtI, decide_eq_true_eq]
theorem geI_iff {a b : Int} : geI a b = true ↔ a ≥ b := by simp only [geI, decide_eq_true_eq]
theorem eqI_iff {a b : Int} : eqI a b = true ↔ a = b := by simp only [eqI, beq_iff_eq]
theorem neI_iff {a b : Int} : neI a b = true ↔ a ≠ b := by simp only [neI, bne_iff_ne]
theorem notB_iff {b : Bool} : notB b = true ↔ b = false := by cases b <;> simp [notB]
theorem andB_iff {a b : Bool} : andB a b = true ↔ a = true ∧ b = true := by cases a <;> cases b <;> simp [andB]
theorem or_iff {a b : Bool} : sel a true b = true ↔ a = true ∨ b = true := by cases a <;> cases b <;> simp [sel]
theorem and_iff {a b : Bool} : sel a b false = true ↔ a = true ∧ b = true := by cases a <;> cases b <;> simp [sel]
theorem natI_eq (n : Nat) : natI n = (n : Int) := rfl

/-! ### 4. New slices -/
section
variable {P : Program}
theorem make_slice {h : Hp} (wf : Wf h) {t elem : TypeId} {w bytes : Nat} (ht : AppT P t t elem w bytes) {z : Value} (hz : zero? P elem = some z) (hp : plainV 100 z = true) {n : Int} {m : Nat} (hn : n = m) (hm : bytes * m ≤ 140737488355328) :
    ∃ h', cmakeSlice P t (.int .i64 n) (.int .i64 n) h = some (.slice (some ⟨h.next, 0, none⟩) m m, h') ∧ h' = h.alloc (zeroCells z.cells.toList m) elem := by
  obtain ⟨i, z', e1, e2, e3, e4, e5⟩ := ht.info
  have hpos := ht.pos
  have hbp := ht.bpos
  have ez : z' = z := by simp [zero?, e1, e4] at hz; exact hz
  subst ez
  subst hn
  refine ⟨_, ?_, rfl⟩
  unfold cmakeSlice
  rw [ht.under]
  dsimp only
  rw [e1]
  dsimp only
  rw [e4]
  dsimp only
  have h1 : (0 : Int) ≤ (m : Int) ∧ (m : Int) ≤ (m : Int) ∧ (i.bytes : Int) * (m : Int) ≤ 2 ^ 47 ∧ (m : Int) ≤ IntKind.i64.max := by
    have h2 : ((i.bytes * m : Nat) : Int) ≤ 140737488355328 := by rw [e3]; exact Int.ofNat_le.mpr hm
    have h3 : m ≤ bytes * m := Nat.le_mul_of_pos_left m hbp
    have h4 : IntKind.i64.max = 9223372036854775807 := rfl
    refine ⟨by omega, Int.le_refl _, by push_cast at h2; exact h2, by rw [h4]; omega⟩
  rw [if_pos h1]
  have h5 : (decide (z'.cells.size = i.size) && !decide (i.size = 0) && plainV 100 z') = true := by
    rw [hp, e5, e2]
    have : ¬ w = 0 := by omega
    simp only [this, decide_true, decide_false, Bool.not_false, Bool.and_self]
  show (if (decide (z'.cells.size = i.size) && !decide (i.size = 0) && plainV 100 z') = true then _ else _) = _
  rw [if_pos h5]
  rfl
end
end Go.Cn

/- Reasoning over canonical heaps: lists that only grow at their end and shrink at their front; a list that has grown, and what it was. -/
set_option linter.unusedVariables false
set_option linter.unusedSimpArgs false
namespace Go.Cn

section
variable {P : Program}

/-- What append does. -/
theorem cappend_eq {h : Hp} {t xt elem : TypeId} {w bytes : Nat} (ht : AppT P t xt elem w bytes) {a : Option Addr} {l c : Nat} {x : Value} {n : Nat} {new : List Value} (hlc : l ≤ c) (hx : dataOf w x h = some (n, new)) (hnl : new.length = n * w) (hr : roomy (l + n) bytes = true) :
    cappend P t xt (.slice a l c) x h = if n = 0 then some (.slice a l c, h) else
      (match (Value.slice a l c) with
        | .slice none 0 0 => some (.slice (some ⟨h.next, 0, some w⟩) n n, h.alloc new elem)
        | .slice (some ⟨b, o, sp⟩) l c =>
          if l + n ≤ c then (h.store b (o + l * w) new).map fun h' => (.slice (some ⟨b, o, sp⟩) (l + n) c, h')
          else match sp with
            | none => if l = 0 then some (.slice (some ⟨h.next, 0, some w⟩) n n, h.alloc new elem) else
              (h.cellsAt b o (l * w)).map fun old => (.slice (some ⟨h.next, 0, some w⟩) (l + n) (l + n), h.alloc (old ++ new) elem)
            | some k => if k = w then (h.extend b o (o + l * w) new).map fun h' => (.slice (some ⟨h.next, 0, some w⟩) (l + n) (l + n), h') else none
        | _ => none) := by
  obtain ⟨i, z, e1, e2, e3, e4, e5⟩ := ht.info
  obtain ⟨u, e6, e7⟩ := ht.other
  have hp := ht.pos
  have hb := ht.bpos
  unfold cappend
  rw [ht.under]
  dsimp only
  rw [e1, e6]
  have hb1 : ¬ (w = 0) := by omega
  have hb2 : ¬ (bytes = 0) := by omega
  cases u with
  | int k => exact absurd rfl (e7 k)
  | _ =>
    dsimp only
    rw [e2, hx]
    by_cases hn : n = 0
    · simp [hn, hlc]
    · simp only [hn, if_false, slen, e3, e4, e5, Option.map_some, decide_true, Bool.not_true, hr, Bool.false_or, Bool.or_false, hb1, hb2, decide_false, Bool.false_eq_true]
      cases a <;> rfl

theorem one_data {h : Hp} (wf : Wf h) {new : List Value} {w : Nat} (hnl : new.length = w) (e : TypeId) : dataOf w (.slice (some ⟨h.next, 0, none⟩) 1 1) (h.alloc new e) = some (1, new) := by
  have hb := alloc_blk wf new e
  simp only [dataOf, Nat.one_mul]
  rw [hb.cells (by omega)]
  simp [← hnl]

/-! ### 1. A list that begins anywhere in its block, and ends with it -/
def Ol (h : Hp) (w : Nat) (g : Option Nat) (a : Option Addr) (l : Nat) (cs : List Value) : Prop :=
  ∃ b o sp g' CS, g = some g' ∧ a = some ⟨b, o, sp⟩ ∧ (sp = none ∨ sp = some w) ∧ 0 < l ∧ Blk h b (some g') CS ∧ CS.length = o + l * w ∧ cs = CS.drop o

section
variable {h : Hp} {w : Nat} {g : Option Nat} {a : Option Addr} {l : Nat} {cs : List Value}
theorem Ol.sl (s : Ol h w g a l cs) : Sl h w g a l l cs := by
  obtain ⟨b, o, sp, g', CS, rfl, rfl, hsp, hl, hb, hlen, rfl⟩ := s
  refine ⟨Nat.le_refl _, by rw [List.length_drop]; omega, hsp, fun _ => ⟨CS, hb, by omega, ?_⟩⟩
  exact List.take_of_length_le (by rw [List.length_drop]; omega)
theorem Ol.keep {S : Nat → Prop} {h' : Hp} (k : Keep S h h') (s : Ol h w g a l cs) (hn : ∀ x, g = some x → ¬ S x) : Ol h' w g a l cs := by
  obtain ⟨b, o, sp, g', CS, rfl, rfl, hsp, hl, hb, hlen, rfl⟩ := s
  exact ⟨b, o, sp, g', CS, rfl, rfl, hsp, hl, k.blk hb fun x hx => by simp at hx; subst hx; exact hn _ rfl, hlen, rfl⟩
theorem Ol.glt (wf : Wf h) (s : Ol h w g a l cs) : ∀ x, g = some x → x < h.next := by
  obtain ⟨b, o, sp, g', CS, rfl, rfl, hsp, hl, hb, hlen, rfl⟩ := s
  intro x hx; simp at hx; subst hx; exact hb.glt wf
theorem Ol.tail (s : Ol h w g a l cs) (h1 : 1 < l) : Ol h w g (a.map fun a => ⟨a.block, a.off + 1 * w, a.spot⟩) (l - 1) (cs.drop w) := by
  obtain ⟨b, o, sp, g', CS, rfl, rfl, hsp, hl, hb, hlen, rfl⟩ := s
  refine ⟨b, o + 1 * w, sp, g', CS, rfl, rfl, hsp, by omega, hb, ?_, by rw [List.drop_drop, Nat.one_mul]⟩
  have : l * w = w + (l - 1) * w := by
    obtain ⟨m, rfl⟩ : ∃ m, l = m + 1 := ⟨l - 1, by omega⟩
    rw [Nat.succ_mul, Nat.add_sub_cancel]; omega
  omega
theorem Ol.append1 {h1 : Hp} (wf : Wf h) {t xt elem e : TypeId} {bytes : Nat} (ht : AppT P t xt elem w bytes) (s : Ol h w g a l cs)
    {new : List Value} (he : h1 = h.alloc new e) (hnl : new.length = w) (hv : new.all isCell = true) (hr : roomy (l + 1) bytes = true) :
    ∃ a' g' h', cappend P t xt (.slice a l l) (.slice (some ⟨h.next, 0, none⟩) 1 1) h1 = some (.slice a' (l + 1) (l + 1), h') ∧ Ol h' w g' a' (l + 1) (cs ++ new) ∧ (g' = g ∨ ∃ y, g' = some y ∧ h.next ≤ y) ∧ Keep (fun x => g = some x) h h' ∧ Wf h' := by
  subst he
  have k := alloc_keep wf new e
  have wf' := alloc_wf wf new e
  have s1 := s.keep k fun _ _ hf => hf
  rw [cappend_eq ht (Nat.le_refl _) (one_data wf hnl e) (by omega) hr, if_neg (by omega)]
  obtain ⟨b, o, sp, g', CS, rfl, rfl, hsp, hl, hb, hlen, rfl⟩ := s1
  simp only
  rw [if_neg (by omega)]
  rcases hsp with rfl | rfl
  · simp only
    rw [if_neg (by omega), hb.cells (by omega)]
    have hold : ((CS.drop o).take (l * w)) = CS.drop o := List.take_of_length_le (by rw [List.length_drop]; omega)
    rw [hold]
    simp only [Option.map_some]
    have f1 := alloc_blk wf' (CS.drop o ++ new) elem
    refine ⟨_, _, _, rfl, ⟨_, 0, some w, _, _, rfl, rfl, .inr rfl, by omega, f1, by rw [List.length_append, List.length_drop, Nat.succ_mul]; omega, rfl⟩, .inr ⟨_, rfl, by rw [alloc_next]; omega⟩, ?_, alloc_wf wf' _ _⟩
    exact (k.trans wf (alloc_keep wf' _ _) fun _ _ hf => hf).mono wf fun _ _ hf => hf.elim
  · simp only [if_true]
    obtain ⟨h', g1, g2, g3, g4, g5, g6⟩ := hb.extend wf' (o := o) (e := o + l * w) (new := new) (by omega) (by omega) hv
    rw [g1]
    have hold : (CS.drop o).take (o + l * w - o) = CS.drop o := List.take_of_length_le (by rw [List.length_drop]; omega)
    rw [hold] at g2
    refine ⟨_, _, _, rfl, ⟨_, 0, some w, _, _, rfl, rfl, .inr rfl, by omega, g2, by rw [List.length_append, List.length_drop, Nat.succ_mul]; omega, rfl⟩, .inl rfl, ?_, g6⟩
    exact ((k.mono wf (S' := fun x => some g' = some x) fun _ _ hf => hf.elim).trans wf (S' := fun x => some g' = some x) (g4.mono wf' fun x _ hx => by rw [hx]) fun x hx he => he)
end

/-! ### 2. A list that has grown, and what it was -/
/-- The blocks of a group that stay behind an append to block b. -/
theorem extend_chain {h h' : Hp} {b g e : Nat} {cs new : List Value} (hb : Blk h b (some g) cs) (hx : h.extend b 0 e new = some h') (hlt : b ≠ h.next) :
    ∃ rest, h'.gs.get g = some (h.next :: rest) ∧ b ∈ rest ∧ (e = cs.length → ∀ b0 l, h.gs.get g = some l → b0 ∈ l.dropWhile (· != b) → b0 ∈ rest) ∧ ∀ x, x ≠ h.next → x ≠ b → h'.ob x = h.ob x := by
  obtain ⟨t, h1, h2⟩ := hb
  obtain ⟨cs0, t0, g0, rest, hE⟩ := Hp.extend_spec hx hlt
  have e1 := hE.old
  rw [h1] at e1
  simp at e1
  obtain ⟨rfl, rfl, rfl⟩ := e1
  refine ⟨rest, by rw [hE.gs, if_pos rfl], ?_, fun he b0 l hl hm => ?_, fun x hn hnb => by rw [hE.ob, if_neg hn, if_neg hnb]⟩
  · rcases hE.rest with ⟨_, e2⟩ | e2
    · rw [e2]; exact Hp.below_self h2
    · rw [e2]; simp
  · have hb' : h.below b g = l.dropWhile (· != b) := by unfold Hp.below; rw [hl]
    -- the other way of an append is not taken where the list ends with its block
    have : rest = h.below b g := by
      have hex := hx
      unfold Hp.extend at hex
      rw [h1] at hex
      simp only at hex
      split at hex
      · simp only [Option.some.injEq] at hex
        have hg := hE.gs g
        rw [if_pos rfl] at hg
        rw [← hex] at hg
        simp only [if_pos he] at hg
        rw [Hp.gs_setGs, if_pos rfl] at hg
        simp only [Option.some.injEq, List.cons.injEq, true_and] at hg
        exact hg.symm
      · simp at hex
    rw [this, hb']; exact hm
end
end Go.Cn

/- A call that answers a plain value and leaves what it may look at: its contract over a small heap of its own serves over every heap that holds a copy of that heap, wherever it lies. -/
set_option linter.unusedVariables false
set_option linter.unusedSimpArgs false
namespace Go.Cn

/-- Blocks of the small heap, and where they lie in the large one. -/
abbrev Rho := Nat → Option Nat
def Rho.sg (ρ : Rho) (σ : Sg) : Sg := fun b => (ρ b).bind σ

theorem plain_any {v v' : Value} {σ σ' : Sg} (hp : plainV 100 v = true) (h : VRel σ v v') : VRel σ' v v' :=
  ((plainV_rel (fun _ => none) 100 v hp).pull (fun b e hb => by simp at hb) h).mono fun b e hb => by simp at hb
theorem Rho.sg_at {ρ : Rho} {b b1 : Nat} (h : ρ b = some b1) (σ : Sg) : ρ.sg σ b = σ b1 := by unfold Rho.sg; rw [h]; rfl

/-- A value of the small heap, and what it is in the large one. -/
inductive RV (ρ : Rho) : Value → Value → Prop where
  | plain (v : Value) : plainV 100 v = true → RV ρ v v
  | ptr (b b1 o : Nat) : ρ b = some b1 → RV ρ (.pointer (some ⟨b, o, none⟩)) (.pointer (some ⟨b1, o, none⟩))
  | map (b b1 : Nat) : ρ b = some b1 → RV ρ (.map (some b)) (.map (some b1))
  | iface (t : TypeId) (x y : Value) : RV ρ x y → RV ρ (.iface t x) (.iface t y)
  | func (f : FuncId) (xs ys : List Value) : xs.length = ys.length → (∀ (i : Nat) x y, xs[i]? = some x → ys[i]? = some y → RV ρ x y) → RV ρ (.func (.func f) #[] xs.toArray) (.func (.func f) #[] ys.toArray)
  | agg (xs ys : List Value) : xs.length = ys.length → (∀ (i : Nat) x y, xs[i]? = some x → ys[i]? = some y → RV ρ x y) → RV ρ (.agg xs.toArray) (.agg ys.toArray)

theorem RV.int {ρ : Rho} (k : IntKind) (n : Int) : RV ρ (.int k n) (.int k n) := .plain _ rfl
theorem RV.bool {ρ : Rho} (b : Bool) : RV ρ (.bool b) (.bool b) := .plain _ rfl
theorem RV.string {ρ : Rho} (s : ByteArray) : RV ρ (.string s) (.string s) := .plain _ rfl
theorem RV.mono {ρ ρ' : Rho} (h : ∀ b b1, ρ b = some b1 → ρ' b = some b1) {x y : Value} (hv : RV ρ x y) : RV ρ' x y := by
  induction hv with
  | plain v hp => exact .plain v hp
  | ptr b b1 o hb => exact .ptr b b1 o (h _ _ hb)
  | map b b1 hb => exact .map b b1 (h _ _ hb)
  | iface t x y _ ih => exact .iface t x y ih
  | func f xs ys hl _ ih => exact .func f xs ys hl ih
  | agg xs ys hl _ ih => exact .agg xs ys hl ih

theorem LRel.of_get {σ : Sg} {xs : List Value} {l : Array Value} (h1 : xs.toArray.size = l.size) (h2 : ∀ (i : Nat) x y, xs.toArray[i]? = some x → l[i]? = some y → VRel σ x y) : LRel σ xs l.toList :=
  ⟨by simpa using h1, fun i x y hx hy => h2 i x y (by simpa using hx) (by simpa using hy)⟩

theorem RV.iff {ρ : Rho} {x y : Value} (hv : RV ρ x y) : ∀ (σ : Sg) v', VRel σ y v' ↔ VRel (ρ.sg σ) x v' := by
  have lists : ∀ {xs ys : List Value}, xs.length = ys.length → (∀ (i : Nat) x y, xs[i]? = some x → ys[i]? = some y → ∀ (σ : Sg) v', VRel σ y v' ↔ VRel (ρ.sg σ) x v') → ∀ {σ : Sg} {l : List Value}, LRel σ ys l ↔ LRel (ρ.sg σ) xs l := by
    intro xs ys hl ih σ l
    constructor
    · rintro ⟨h1, h2⟩
      refine ⟨hl.trans h1, fun i x v' hx hv => ?_⟩
      have hi : i < ys.length := by rw [← hl]; exact (List.getElem?_eq_some_iff.1 hx).1
      exact (ih i x _ hx (List.getElem?_eq_getElem hi) σ v').1 (h2 i _ v' (List.getElem?_eq_getElem hi) hv)
    · rintro ⟨h1, h2⟩
      refine ⟨hl.symm.trans h1, fun i y v' hy hv => ?_⟩
      have hi : i < xs.length := by rw [hl]; exact (List.getElem?_eq_some_iff.1 hy).1
      exact (ih i _ y (List.getElem?_eq_getElem hi) hy σ v').2 (h2 i _ v' (List.getElem?_eq_getElem hi) hv)
  induction hv with
  | plain v hp => exact fun σ v' => ⟨plain_any hp, plain_any hp⟩
  | ptr b b1 o h =>
    intro σ v'
    constructor
    · intro hv
      obtain ⟨_, e, he, rfl⟩ := hv.ptr_inv
      exact .ptr b o e (by rw [Rho.sg_at h]; exact he)
    · intro hv
      obtain ⟨_, e, he, rfl⟩ := hv.ptr_inv
      exact .ptr b1 o e (by rw [← Rho.sg_at h σ]; exact he)
  | map b b1 h =>
    intro σ v'
    constructor
    · intro hv
      obtain ⟨e, he, rfl⟩ := hv.map_inv
      exact .map b e (by rw [Rho.sg_at h]; exact he)
    · intro hv
      obtain ⟨e, he, rfl⟩ := hv.map_inv
      exact .map b1 e (by rw [← Rho.sg_at h σ]; exact he)
  | iface t x y _ ih =>
    intro σ v'
    constructor
    · intro hv
      obtain ⟨w, rfl, hw⟩ := hv.iface_inv
      exact .iface t x w ((ih σ w).1 hw)
    · intro hv
      obtain ⟨w, rfl, hw⟩ := hv.iface_inv
      exact .iface t y w ((ih σ w).2 hw)
  | func f xs ys hl _ ih =>
    intro σ v'
    have hy : isYield (.func f) = false := rfl
    constructor
    · intro hv
      obtain ⟨p, q, rfl, hp, hq⟩ := hv.func_inv hy
      have hx := (lists hl ih).1 (LRel.of_get hq.1 hq.2)
      exact .func _ _ _ _ _ hy hp.1 (by simpa using hx.1) (fun i x y hx _ => by simp at hx) (fun i x y h1 h2 => hx.2 i x y (by simpa using h1) (by simpa using h2))
    · intro hv
      obtain ⟨p, q, rfl, hp, hq⟩ := hv.func_inv hy
      have hx := (lists hl ih).2 (LRel.of_get hq.1 hq.2)
      exact .func _ _ _ _ _ hy hp.1 (by simpa using hx.1) (fun i x y hx _ => by simp at hx) (fun i x y h1 h2 => hx.2 i x y (by simpa using h1) (by simpa using h2))
  | agg xs ys hl _ ih =>
    intro σ v'
    constructor
    · intro hv
      obtain ⟨q, rfl, hq⟩ := hv.agg_inv
      have hx := (lists hl ih).1 (LRel.of_get hq.1 hq.2)
      exact .agg _ _ (by simpa using hx.1) (fun i x y h1 h2 => hx.2 i x y (by simpa using h1) (by simpa using h2))
    · intro hv
      obtain ⟨q, rfl, hq⟩ := hv.agg_inv
      have hx := (lists hl ih).2 (LRel.of_get hq.1 hq.2)
      exact .agg _ _ (by simpa using hx.1) (fun i x y h1 h2 => hx.2 i x y (by simpa using h1) (by simpa using h2))

/-- Lists of values, pointwise. -/
def RL (ρ : Rho) (xs ys : List Value) : Prop := xs.length = ys.length ∧ ∀ (i : Nat) x y, xs[i]? = some x → ys[i]? = some y → RV ρ x y
theorem RL.nil {ρ : Rho} : RL ρ [] [] := ⟨rfl, by simp⟩
theorem RL.cons {ρ : Rho} {x y : Value} {xs ys : List Value} (h : RV ρ x y) (hl : RL ρ xs ys) : RL ρ (x :: xs) (y :: ys) := by
  refine ⟨by simp [hl.1], fun i a b ha hb => ?_⟩
  cases i with
  | zero => simp at ha hb; subst ha; subst hb; exact h
  | succ i => simp at ha hb; exact hl.2 i a b ha hb
theorem RL.plain {ρ : Rho} {l : List Value} (h : l.all (plainV 100) = true) : RL ρ l l := by
  refine ⟨rfl, fun i x y hx hy => ?_⟩
  rw [hx] at hy
  cases hy
  exact RV.plain _ (List.all_eq_true.1 h x (List.mem_of_getElem? hx))
theorem RL.append {ρ : Rho} {xs ys xs' ys' : List Value} (h : RL ρ xs ys) (h' : RL ρ xs' ys') : RL ρ (xs ++ xs') (ys ++ ys') := by
  refine ⟨by simp [h.1, h'.1], fun i a b ha hb => ?_⟩
  by_cases hi : i < xs.length
  · rw [List.getElem?_append_left hi] at ha
    rw [List.getElem?_append_left (by rw [← h.1]; exact hi)] at hb
    exact h.2 i a b ha hb
  · rw [List.getElem?_append_right (by omega)] at ha
    rw [List.getElem?_append_right (by rw [← h.1]; omega), ← h.1] at hb
    exact h'.2 _ a b ha hb
theorem RL.mono {ρ ρ' : Rho} (h : ∀ b b1, ρ b = some b1 → ρ' b = some b1) {xs ys : List Value} (hl : RL ρ xs ys) : RL ρ' xs ys := ⟨hl.1, fun i x y hx hy => (hl.2 i x y hx hy).mono h⟩

theorem RL.rel {ρ : Rho} {xs ys : List Value} (h : RL ρ xs ys) {σ : Sg} {l : List Value} : LRel σ ys l ↔ LRel (ρ.sg σ) xs l := by
  constructor
  · rintro ⟨h1, h2⟩
    refine ⟨h.1.trans h1, fun i x v' hx hv => ?_⟩
    have hi : i < ys.length := by rw [← h.1]; exact (List.getElem?_eq_some_iff.1 hx).1
    exact ((h.2 i x _ hx (List.getElem?_eq_getElem hi)).iff σ v').1 (h2 i _ v' (List.getElem?_eq_getElem hi) hv)
  · rintro ⟨h1, h2⟩
    refine ⟨h.1.symm.trans h1, fun i y v' hy hv => ?_⟩
    have hi : i < xs.length := by rw [h.1]; exact (List.getElem?_eq_some_iff.1 hy).1
    exact ((h.2 i _ y (List.getElem?_eq_getElem hi) hy).iff σ v').2 (h2 i _ v' (List.getElem?_eq_getElem hi) hv)

/-- The large heap holds a copy of the small one. -/
structure Emb (ρ : Rho) (h0 h : Hp) : Prop where
  wf : Wf h0
  st : ∀ g, h0.gs.get g = none
  own : ∀ b cs t g, h0.ob b = some (.cells cs t (some g)) → g = b
  inj : ∀ b b' b1, ρ b = some b1 → ρ b' = some b1 → b = b'
  ex : ∀ b b1, ρ b = some b1 → ∃ o, h0.ob b = some o
  gs1 : ∀ b b1 cs t g, ρ b = some b1 → h0.ob b = some (.cells cs t (some g)) → h.gs.get b1 = none
  cells : ∀ b b1 cs t g, ρ b = some b1 → h0.ob b = some (.cells cs t g) → ∃ cs1 t1, h.ob b1 = some (.cells cs1 t1 (g.map fun _ => b1)) ∧ RL ρ cs cs1
  oth : ∀ b b1 o, ρ b = some b1 → h0.ob b = some o → o.isOth = true → ∃ c, o = .map [] c ∧ h.ob b1 = some (.map [] c)

theorem Rho.sg_some {ρ : Rho} {σ : Sg} {b : Nat} {e : En} (h : ρ.sg σ b = some e) : ∃ b1, ρ b = some b1 ∧ σ b1 = some e := by
  unfold Rho.sg at h
  cases hb : ρ b with
  | none => rw [hb] at h; simp at h
  | some b1 => rw [hb] at h; exact ⟨b1, rfl, h⟩

theorem Emb.live {ρ : Rho} {h0 h : Hp} (em : Emb ρ h0 h) {b : Nat} {cs : List Value} {t : TypeId} {g : Option Nat} (hb : h0.ob b = some (.cells cs t g)) : h0.live b g = true := by
  cases g with
  | none => rfl
  | some g =>
    have := em.own b cs t g hb
    subst this
    simp [Hp.live, em.st]
theorem Emb.live1 {ρ : Rho} {h0 h : Hp} (em : Emb ρ h0 h) {b b1 : Nat} (hb : ρ b = some b1) {cs : List Value} {t : TypeId} {g : Option Nat} (ho : h0.ob b = some (.cells cs t g)) : h.live b1 (g.map fun _ => b1) = true := by
  cases g with
  | none => rfl
  | some g => simp [Hp.live, em.gs1 b b1 cs t g hb ho]

theorem oth_empty {σ σ' : Sg} {c : Nat} {r : Obj} (h : OthRel σ (.map [] c) r) : OthRel σ' (.map [] c) r := by
  cases r <;> first | exact h.elim | skip
  obtain ⟨h1, h2⟩ := h
  refine ⟨h1, ?_⟩
  generalize hl : (_ : Array MapEntry).toList = l at h2 ⊢
  cases h2
  exact .nil

theorem Emb.hr {ρ : Rho} {h0 h : Hp} (em : Emb ρ h0 h) {base : Nat} {σ : Sg} {w : World} (hr : HR base σ h w) : HR base (ρ.sg σ) h0 w := by
  refine ⟨hr.base_le, ?_, em.wf.fresh, ?_, em.wf.grp, ?_, em.wf.stack, ?_, ?_, ?_⟩
  · intro b e he
    obtain ⟨b1, h1, h2⟩ := Rho.sg_some he
    obtain ⟨o, h3⟩ := em.ex b b1 h1
    exact ⟨em.wf.lt h3, (hr.dom b1 e h2).2⟩
  · intro b e cs t g he hob _
    obtain ⟨b1, h1, h2⟩ := Rho.sg_some he
    obtain ⟨cs1, t1, h3, h4⟩ := em.cells b b1 cs t g h1 hob
    obtain ⟨⟨c, el, fr, k1, k2, k3, k4, k5⟩, k6⟩ := hr.cell b1 e cs1 t1 _ h2 h3 (em.live1 h1 hob)
    refine ⟨⟨c, el, fr, k1, k2, by rw [h4.1]; exact k3, fun i v hv => ?_, fun hg => k5 (by cases g <;> simp at hg ⊢)⟩, ?_⟩
    · have hi : i < cs1.length := by rw [← h4.1]; exact (List.getElem?_eq_some_iff.1 hv).1
      obtain ⟨v', n1, n2⟩ := k4 i _ (List.getElem?_eq_getElem hi)
      exact ⟨v', n1, ((h4.2 i v _ hv (List.getElem?_eq_getElem hi)).iff σ v').1 n2⟩
    · cases g with
      | none => exact k6
      | some g => exact k6
  · intro b e cs t g he hob
    have := em.own b cs t g hob
    subst this
    exact ⟨e, he⟩
  · intro g l hg
    rw [em.st] at hg
    simp at hg
  · intro b1 b2 e1 e2 cs1 cs2 t1 t2 g1 g2 s1 s2 o1 o2 l1 l2 hrb
    obtain ⟨c1, p1, p2⟩ := Rho.sg_some s1
    obtain ⟨c2, q1, q2⟩ := Rho.sg_some s2
    obtain ⟨ds1, u1, p3, p4⟩ := em.cells b1 c1 cs1 t1 _ p1 o1
    obtain ⟨ds2, u2, q3, q4⟩ := em.cells b2 c2 cs2 t2 _ q1 o2
    have := hr.apart c1 c2 e1 e2 ds1 ds2 u1 u2 c1 c2 p2 q2 p3 q3 (em.live1 p1 o1) (em.live1 q1 o2) hrb
    subst this
    have e1 := em.own b1 cs1 t1 g1 o1
    have e2 := em.own b2 cs2 t2 g2 o2
    rw [e1, e2]
    exact em.inj _ _ _ p1 q1
  · intro b e o he hob hoth
    obtain ⟨b1, h1, h2⟩ := Rho.sg_some he
    obtain ⟨c, rfl, h3⟩ := em.oth b b1 o h1 hob hoth
    obtain ⟨k1, k2, ⟨r, k3, k4⟩, k5⟩ := hr.oth b1 e _ h2 h3 rfl
    refine ⟨k1, k2, ⟨r, k3, oth_empty k4⟩, fun b' e' hb' hrb => ?_⟩
    obtain ⟨b1', m1, m2⟩ := Rho.sg_some hb'
    have := k5 b1' e' m2 hrb
    subst this
    exact em.inj _ _ _ m1 h1

section
variable {P : Program}
theorem SCalls.reloc {f : FuncId} {args0 args : List Value} {h0 h : Hp} {ρ : Rho} {K : Value → Prop} (hf : f < P.funcs.size) (hc : SCalls P f args0 h0 fun v h' => K v ∧ plainV 100 v = true ∧ Stay h0 h') (em : Emb ρ h0 h) (ha : RL ρ args0 args) :
    SCalls P f args h fun v h' => K v ∧ h' = h := by
  have hc := hc.func hf
  refine .inl ⟨hc.1, fun base σ w rargs hr hl => (hc.2 base (ρ.sg σ) w rargs (em.hr hr) (ha.rel.1 hl)).mono ?_⟩
  rintro e w' ⟨v, v', h1, σ1, rfl, ⟨hk, hp, hst⟩, hv, hr1, he⟩
  have hr0 := em.hr hr
  -- what is not in the small heap stays; what is in it reads the same
  have same : ∀ b1 e, σ b1 = some e → (∀ b, ρ b ≠ some b1) → (∀ b b2 e2, ρ b = some b2 → σ b2 = some e2 → e2.rb ≠ e.rb) → w'.heap[e.rb]? = w.heap[e.rb]? := by
    intro b1 e hb hn hq
    refine he.other e.rb (hr.dom b1 e hb).2 fun b e2 hs => ?_
    obtain ⟨b2, m1, m2⟩ := Rho.sg_some hs
    exact hq b b2 e2 m1 m2
  refine ⟨v, v', h, σ, rfl, ⟨hk, rfl⟩, plain_any hp hv, ?_, ?_⟩
  · refine ⟨Nat.le_trans hr.base_le he.size, fun b e hb => ⟨(hr.dom b e hb).1, Nat.lt_of_lt_of_le (hr.dom b e hb).2 he.size⟩, hr.fresh, ?_, hr.grp, hr.gdom, hr.stack, hr.nest, hr.apart, ?_⟩
    · intro b1 e cs t g hb hob hlv
      have L := hr.cell b1 e cs t g hb hob hlv
      by_cases hin : ∃ b, ρ b = some b1
      · obtain ⟨b, hρ⟩ := hin
        obtain ⟨o, ho⟩ := em.ex b b1 hρ
        have hno : o.isOth = false := by
          cases hx : o.isOth with
          | false => rfl
          | true =>
            obtain ⟨c, rfl, h3⟩ := em.oth b b1 o hρ ho hx
            rw [hob] at h3; simp at h3
        obtain ⟨cs0, t0, g0, rfl⟩ : ∃ cs0 t0 g0, o = .cells cs0 t0 g0 := by
          cases o with
          | cells a b c => exact ⟨a, b, c, rfl⟩
          | _ => simp [Ob.isOth] at hno
        obtain ⟨cs1, t1, h3, h4⟩ := em.cells b b1 cs0 t0 g0 hρ ho
        rw [hob] at h3
        simp only [Option.some.injEq, Ob.cells.injEq] at h3
        obtain ⟨rfl, rfl, rfl⟩ := h3
        have hs0 : (ρ.sg σ) b = some e := by rw [Rho.sg_at hρ]; exact hb
        obtain ⟨k1, k2⟩ := hst.cell b cs0 t0 g0 ho (em.live ho)
        obtain ⟨⟨c, el, fr, m1, m2, m3, m4, m5⟩, m6⟩ := hr1.cell b e cs0 t0 g0 (he.le _ _ hs0) k1 k2
        obtain ⟨⟨c0, el0, fr0, n1, n2, n3, n4, n5⟩, n6⟩ := L
        refine ⟨⟨c, el, fr, m1, m2, by rw [← h4.1]; exact m3, fun i y hy => ?_, fun hg => m5 (by cases g0 <;> simp at hg ⊢)⟩, n6⟩
        have hi : i < cs0.length := by rw [h4.1]; exact (List.getElem?_eq_some_iff.1 hy).1
        obtain ⟨v2, q1, q2⟩ := m4 i _ (List.getElem?_eq_getElem hi)
        obtain ⟨v1, q3, q4⟩ := n4 i y hy
        have rv := h4.2 i _ y (List.getElem?_eq_getElem hi) hy
        exact ⟨v2, q1, (rv.iff σ v2).2 (((rv.iff σ v1).1 q4).pull he.le q2)⟩
      · have hn : ∀ b, ρ b ≠ some b1 := fun b hb' => hin ⟨b, hb'⟩
        cases g with
        | none =>
          have hlt : e.rb < base := L.side
          obtain ⟨⟨c, el, fr, m1, m2⟩, m6⟩ := L
          exact ⟨⟨c, el, fr, by rw [he.below _ hlt]; exact m1, m2⟩, m6⟩
        | some gg =>
          have hge : base ≤ e.rb := L.side
          have hw : w'.heap[e.rb]? = w.heap[e.rb]? := by
            refine same b1 e hb hn fun b b2 e2 m1 m2 hrb => ?_
            obtain ⟨o, ho⟩ := em.ex b b2 m1
            cases hx : o.isOth with
            | true =>
              obtain ⟨c, rfl, h3⟩ := em.oth b b2 o m1 ho hx
              obtain ⟨_, _, _, p5⟩ := hr.oth b2 e2 _ m2 h3 rfl
              have := p5 b1 e hb hrb.symm
              subst this
              exact hn b m1
            | false =>
              obtain ⟨cs0, t0, g0, rfl⟩ : ∃ cs0 t0 g0, o = .cells cs0 t0 g0 := by
                cases o with
                | cells a b c => exact ⟨a, b, c, rfl⟩
                | _ => simp [Ob.isOth] at hx
              obtain ⟨cs1, t1, h3, h4⟩ := em.cells b b2 cs0 t0 g0 m1 ho
              cases g0 with
              | none =>
                have L2 := hr.cell b2 e2 cs1 t1 _ m2 h3 (em.live1 m1 ho)
                have : e2.rb < base := L2.side
                omega
              | some g0 =>
                have := hr.apart b1 b2 e e2 cs cs1 t t1 gg b2 hb m2 hob h3 hlv (em.live1 m1 ho) hrb.symm
                subst this
                simp only [Hp.live, em.gs1 b gg _ _ _ m1 ho, beq_iff_eq] at hlv
                subst hlv
                exact hn b m1
          obtain ⟨⟨c, el, fr, m1, m2⟩, m6⟩ := L
          exact ⟨⟨c, el, fr, by rw [hw]; exact m1, m2⟩, m6⟩
    · intro b1 e o hb hob hoth
      obtain ⟨p1, p2, ⟨r0, p3, p4⟩, p5⟩ := hr.oth b1 e o hb hob hoth
      by_cases hin : ∃ b, ρ b = some b1
      · obtain ⟨b, hρ⟩ := hin
        obtain ⟨o0, ho⟩ := em.ex b b1 hρ
        have hx : o0.isOth = true := by
          cases hx : o0.isOth with
          | true => rfl
          | false =>
            obtain ⟨cs0, t0, g0, rfl⟩ : ∃ cs0 t0 g0, o0 = .cells cs0 t0 g0 := by
              cases o0 with
              | cells a b c => exact ⟨a, b, c, rfl⟩
              | _ => simp [Ob.isOth] at hx
            obtain ⟨cs1, t1, h3, h4⟩ := em.cells b b1 cs0 t0 g0 hρ ho
            rw [hob] at h3
            simp only [Option.some.injEq] at h3
            rw [h3] at hoth
            simp [Ob.isOth] at hoth
        obtain ⟨c, rfl, h3⟩ := em.oth b b1 o0 hρ ho hx
        rw [hob] at h3
        simp only [Option.some.injEq] at h3
        subst h3
        have hs0 : (ρ.sg σ) b = some e := by rw [Rho.sg_at hρ]; exact hb
        obtain ⟨_, _, ⟨r1, q3, q4⟩, _⟩ := hr1.oth b e _ (he.le _ _ hs0) (hst.oth b _ ho rfl) rfl
        exact ⟨p1, p2, ⟨r1, q3, oth_empty q4⟩, p5⟩
      · have hn : ∀ b, ρ b ≠ some b1 := fun b hb' => hin ⟨b, hb'⟩
        have hw : w'.heap[e.rb]? = w.heap[e.rb]? := by
          refine same b1 e hb hn fun b b2 e2 m1 m2 hrb => ?_
          have := p5 b2 e2 m2 hrb
          subst this
          exact hn b m1
        exact ⟨p1, p2, ⟨r0, by rw [hw]; exact p3, p4⟩, p5⟩
  · refine ⟨Sg.le_refl σ, he.os, he.tape, he.output, he.size, he.below, fun k hk hno => ?_, fun b e h1 h2 => by rw [h1] at h2; simp at h2, Nat.le_refl _, fun b _ hb => ⟨rfl, rfl, hb⟩⟩
    refine he.other k hk fun b e hs => ?_
    obtain ⟨b2, m1, m2⟩ := Rho.sg_some hs
    exact hno b2 e m2

/-- A call of plain arguments that answers a plain value: evaluated over the empty heap, it serves over every heap. -/
theorem SCalls.bare {f : FuncId} {args : List Value} {h : Hp} {K : Value → Prop} (hf : f < P.funcs.size) (hp : args.all (plainV 100) = true) (hc : SCalls P f args Hp.empty fun v _ => K v ∧ plainV 100 v = true) : SCalls P f args h fun v h' => K v ∧ h' = h := by
  refine SCalls.reloc (h0 := Hp.empty) (ρ := fun _ => none) hf (hc.mono fun v h' hk => ⟨hk.1, hk.2, ⟨fun b cs t g hb => ?_, fun b o hb => ?_⟩⟩) ?_ (RL.plain hp)
  · exact absurd hb (by simp [show Hp.empty.ob b = none from rfl])
  · exact absurd hb (by simp [show Hp.empty.ob b = none from rfl])
  · refine ⟨⟨fun b _ => ⟨rfl, rfl⟩, fun b cs t g hb => ?_, fun g l hg => ?_⟩, fun g => rfl, fun b cs t g hb => ?_, by simp, by simp, by simp, by simp, by simp⟩
    · exact absurd hb (by simp [show Hp.empty.ob b = none from rfl])
    · exact absurd hg (by simp [show Hp.empty.gs.get g = none from rfl])
    · exact absurd hb (by simp [show Hp.empty.ob b = none from rfl])

/-- Evaluated fast, with laws. -/
theorem bareK (hm : P.follows .mixedOrders = true) {m n : Nat} {nat : FuncId → List Value → Hp → Option (Option Value)} (hn : NatOk P nat) {f : FuncId} {args : List Value} (hf : f < P.funcs.size) (hp : args.all (plainV 100) = true) {K : Value → Bool}
    (hx : xK P m nat n f args Hp.empty (fun v _ => plainV 100 v && K v) = true) (h : Hp) : SCalls P f args h fun v h' => K v = true ∧ h' = h := by
  rw [xK_eq] at hx
  refine SCalls.bare hf hp ((xG_ok hm hn n f args Hp.empty _ hx).mono fun v h' hv => ?_)
  simp only [Bool.and_eq_true] at hv
  exact ⟨hv.2, hv.1⟩
end
end Go.Cn

/- Small heaps, laid block by block beside the large heap that holds them; evaluation of calls over them where leaves are not known. -/
set_option linter.unusedVariables false
set_option linter.unusedSimpArgs false
namespace Go.Cn

/-- A block of a group of its own, that no append has gone on from. -/
def Own1 (h : Hp) (b : Nat) (cs : List Value) : Prop := (∃ t, h.ob b = some (.cells cs t (some b))) ∧ h.gs.get b = none
/-- An empty map. -/
def Map0 (h : Hp) (b : Nat) : Prop := h.ob b = some (.map [] 0)

theorem new_own {h h1 : Hp} (wf : Wf h) {cs : List Value} {e : TypeId} (he : h1 = h.alloc cs e) : Own1 h1 h.next cs := by
  subst he
  exact ⟨⟨e, by rw [Hp.ob_alloc, if_pos rfl]⟩, (wf.fresh _ (Nat.le_refl _)).2⟩
theorem Own1.blk {h : Hp} {b : Nat} {cs : List Value} (o : Own1 h b cs) : Blk h b (some b) cs := by
  obtain ⟨⟨t, h1⟩, h2⟩ := o
  exact ⟨t, h1, by simp [Hp.live, h2]⟩

theorem newOb_wf {h : Hp} (wf : Wf h) {o : Ob} (hi : o.isOth = true) : Wf (h.newOb o) := by
  refine ⟨fun b hb => ?_, fun b c t g hb => ?_, fun g l hg b hb => ?_⟩
  · have hb' : h.next + 1 ≤ b := hb
    exact ⟨by rw [Hp.ob_newOb, if_neg (by omega)]; exact (wf.fresh b (by omega)).1, (wf.fresh b (by omega)).2⟩
  · rw [Hp.ob_newOb] at hb
    show g < h.next + 1
    split at hb
    · simp at hb; subst hb; simp [Ob.isOth] at hi
    · have := wf.grp _ _ _ _ hb; omega
  · obtain ⟨c, t, h1⟩ := wf.stack g l hg b hb
    exact ⟨c, t, by rw [Hp.ob_newOb, if_neg (by have := wf.lt h1; omega)]; exact h1⟩
theorem newOb_keep {h : Hp} (wf : Wf h) (o : Ob) : Kept h (h.newOb o) := by
  refine ⟨Nat.le_succ _, fun b c t hb => ?_, fun b c t g hb _ => ⟨?_, rfl⟩, fun b o' hb _ => by rw [Hp.ob_newOb, if_neg (by have := wf.lt hb; omega)]; exact hb⟩
  · rw [Hp.ob_newOb, if_neg (by have := wf.lt hb; omega)]; exact hb
  · rw [Hp.ob_newOb, if_neg (by have := wf.lt hb; omega)]; exact hb
theorem new_map {h h1 : Hp} (wf : Wf h) (he : h1 = h.newOb (.map [] 0)) : Map0 h1 h.next ∧ Kept h h1 ∧ h1.next = h.next + 1 ∧ Wf h1 := by
  subst he
  exact ⟨by unfold Map0; rw [Hp.ob_newOb, if_pos rfl], newOb_keep wf _, rfl, newOb_wf wf rfl⟩

theorem Own1.keep {h h' : Hp} (k : Kept h h') {b : Nat} {cs : List Value} (o : Own1 h b cs) : Own1 h' b cs := by
  obtain ⟨⟨t, h1⟩, h2⟩ := o
  obtain ⟨h3, h4⟩ := k.rw _ _ _ _ h1 id
  exact ⟨⟨t, h3⟩, h4.trans h2⟩

theorem Emb.empty (h : Hp) : Emb (fun _ => none) Hp.empty h :=
  ⟨⟨fun b _ => ⟨rfl, rfl⟩, fun b cs t g hb => absurd hb (by simp [show Hp.empty.ob b = none from rfl]), fun g l hg => absurd hg (by simp [show Hp.empty.gs.get g = none from rfl])⟩, fun g => rfl,
    fun b cs t g hb => absurd hb (by simp [show Hp.empty.ob b = none from rfl]), by simp, by simp, by simp, by simp, by simp⟩

def Rho.put (ρ : Rho) (b b1 : Nat) : Rho := fun x => if x = b then some b1 else ρ x
theorem Rho.put_self {ρ : Rho} {b b1 : Nat} : ρ.put b b1 b = some b1 := by unfold Rho.put; rw [if_pos rfl]
theorem Rho.put_ne {ρ : Rho} {b b1 x : Nat} (h : x ≠ b) : ρ.put b b1 x = ρ x := by unfold Rho.put; rw [if_neg h]

theorem Emb.lt {ρ : Rho} {h0 h : Hp} (em : Emb ρ h0 h) {b b1 : Nat} (hb : ρ b = some b1) : b < h0.next := by
  obtain ⟨o, ho⟩ := em.ex b b1 hb
  exact em.wf.lt ho

theorem Emb.put_le {ρ : Rho} {h0 h : Hp} (em : Emb ρ h0 h) (b1 : Nat) : ∀ b c, ρ b = some c → ρ.put h0.next b1 b = some c := fun b c hb => by
  have := em.lt hb
  rw [Rho.put_ne (by omega)]; exact hb

/-- One object more. -/
theorem Emb.obj {ρ : Rho} {h0 h1 h : Hp} (em : Emb ρ h0 h) {b1 : Nat} {o : Ob} (hob : ∀ b, h1.ob b = if b = h0.next then some o else h0.ob b) (hgs : h1.gs = h0.gs) (wf : Wf h1) (hn : ∀ b, ρ b ≠ some b1) (hg : o.isOth = false → h.gs.get b1 = none)
    (hown : ∀ cs t g, o = .cells cs t (some g) → g = h0.next)
    (hc : ∀ cs t g, o = .cells cs t g → ∃ cs1 t1, h.ob b1 = some (.cells cs1 t1 (g.map fun _ => b1)) ∧ RL (ρ.put h0.next b1) cs cs1) (hm : o.isOth = true → ∃ c, o = .map [] c ∧ h.ob b1 = some (.map [] c)) : Emb (ρ.put h0.next b1) h1 h := by
  have cases : ∀ b c, ρ.put h0.next b1 b = some c → (b = h0.next ∧ c = b1) ∨ (b ≠ h0.next ∧ ρ b = some c) := by
    intro b c hb
    by_cases e : b = h0.next
    · subst e; rw [Rho.put_self] at hb; simp at hb; exact .inl ⟨rfl, hb.symm⟩
    · rw [Rho.put_ne e] at hb; exact .inr ⟨e, hb⟩
  refine ⟨wf, fun g => by rw [hgs]; exact em.st g, fun b cs t g hb => ?_, fun b b' c h1' h2' => ?_, fun b c hb => ?_, fun b c cs t g hb ho => ?_, fun b c cs t g hb ho => ?_, fun b c o' hb ho hi => ?_⟩
  · rw [hob] at hb
    split at hb
    · rename_i e; subst e; simp at hb; exact hown _ _ _ hb
    · exact em.own b cs t g hb
  · rcases cases b c h1' with ⟨e1, e2⟩ | ⟨e1, e2⟩ <;> rcases cases b' c h2' with ⟨e3, e4⟩ | ⟨e3, e4⟩
    · rw [e1, e3]
    · subst e2; exact absurd e4 (hn b')
    · subst e4; exact absurd e2 (hn b)
    · exact em.inj _ _ _ e2 e4
  · rcases cases b c hb with ⟨e1, e2⟩ | ⟨e1, e2⟩
    · exact ⟨o, by rw [hob, if_pos e1]⟩
    · obtain ⟨o', ho⟩ := em.ex b c e2
      exact ⟨o', by rw [hob, if_neg e1]; exact ho⟩
  · rcases cases b c hb with ⟨e1, e2⟩ | ⟨e1, e2⟩
    · rw [hob, if_pos e1] at ho
      simp at ho
      subst e2
      exact hg (by rw [ho]; rfl)
    · rw [hob, if_neg e1] at ho
      exact em.gs1 b c cs t g e2 ho
  · rcases cases b c hb with ⟨e1, e2⟩ | ⟨e1, e2⟩
    · rw [hob, if_pos e1] at ho
      simp at ho
      subst e2
      exact hc _ _ _ ho
    · rw [hob, if_neg e1] at ho
      obtain ⟨cs1, t1, h3, h4⟩ := em.cells b c cs t g e2 ho
      exact ⟨cs1, t1, h3, h4.mono (em.put_le b1)⟩
  · rcases cases b c hb with ⟨e1, e2⟩ | ⟨e1, e2⟩
    · rw [hob, if_pos e1] at ho
      simp at ho
      subst ho e2
      exact hm hi
    · rw [hob, if_neg e1] at ho
      exact em.oth b c o' e2 ho hi

theorem Emb.alloc {ρ : Rho} {h0 h : Hp} (em : Emb ρ h0 h) {b1 : Nat} {cs cs1 : List Value} (t : TypeId) (ow : Own1 h b1 cs1) (hn : ∀ b, ρ b ≠ some b1) (hl : RL (ρ.put h0.next b1) cs cs1) : Emb (ρ.put h0.next b1) (h0.alloc cs t) h := by
  obtain ⟨⟨t1, h1⟩, h2⟩ := ow
  refine em.obj (o := .cells cs t (some h0.next)) (Hp.ob_alloc h0 cs t) rfl (alloc_wf em.wf cs t) hn (fun _ => h2) (fun cs' t' g e => ?_) (fun cs' t' g e => ?_) (fun hi => by simp [Ob.isOth] at hi)
  · simp at e; exact e.2.2.symm
  · simp at e
    obtain ⟨rfl, rfl, rfl⟩ := e
    exact ⟨cs1, t1, h1, hl⟩
theorem Emb.newMap {ρ : Rho} {h0 h : Hp} (em : Emb ρ h0 h) {b1 : Nat} (m : Map0 h b1) (hn : ∀ b, ρ b ≠ some b1) : Emb (ρ.put h0.next b1) (h0.newOb (.map [] 0)) h :=
  em.obj (o := .map [] 0) (Hp.ob_newOb h0 _) rfl (newOb_wf em.wf rfl) hn (fun hi => by simp [Ob.isOth] at hi) (fun cs' t' g e => by simp at e) (fun cs' t' g e => by simp at e) (fun _ => ⟨0, rfl, m⟩)

theorem Map0.keep {h h' : Hp} (k : Kept h h') {b : Nat} (m : Map0 h b) : Map0 h' b := k.oth _ _ m rfl

section
variable {P : Program}
/-- Evaluated fast, over a small heap, with leaves that are not known: the result, and that the small heap stays. -/
theorem relocK (hm : P.follows .mixedOrders = true) {m n : Nat} {nat : FuncId → List Value → Hp → Option (Option Value)} (hn : NatOk P nat) {f : FuncId} {args0 args : List Value} {h0 h : Hp} {ρ : Rho} {exp : Value} (hf : f < P.funcs.size)
    (em : Emb ρ h0 h) (ha : RL ρ args0 args) (g : Bool → Bool) (hg : g true = true)
    (hx : ∀ K : Value → List (Option Ob) → List Bool → Bool, xK P m nat n f args0 h0 (fun v h' => K v ((List.range h0.next).map h'.ob) ((List.range h0.next).map fun b => h'.live b (some b))) = g (K exp ((List.range h0.next).map h0.ob) ((List.range h0.next).map fun b => h0.live b (some b))))
    (hp : plainV 100 exp = true) : SCalls P f args h fun v h' => v = exp ∧ h' = h := by
  classical
  have h1 := hx fun v obs lives => decide (v = exp ∧ obs = (List.range h0.next).map h0.ob ∧ lives = (List.range h0.next).map fun b => h0.live b (some b))
  rw [xK_eq] at h1
  have h2 : xG P (alB m) nat (fun _ => annE) n f args0 h0 (fun v h' => decide (v = exp ∧ (List.range h0.next).map h'.ob = (List.range h0.next).map h0.ob ∧ ((List.range h0.next).map fun b => h'.live b (some b)) = (List.range h0.next).map fun b => h0.live b (some b))) = true := by
    rw [h1]; simp [hg]
  refine SCalls.reloc (K := fun v => v = exp) hf ((xG_ok hm hn n f args0 h0 _ h2).mono fun v h' hv => ?_) em ha
  simp only [decide_eq_true_eq] at hv
  obtain ⟨e1, e2, e3⟩ := hv
  have at1 : ∀ b, b < h0.next → h'.ob b = h0.ob b := by
    intro b hb
    have := congrArg (fun l => l[b]?) e2
    simpa [hb] using this
  have at2 : ∀ b, b < h0.next → h'.live b (some b) = h0.live b (some b) := by
    intro b hb
    have := congrArg (fun l => l[b]?) e3
    simpa [hb] using this
  refine ⟨e1, by rw [e1]; exact hp, fun b cs t g hb hl => ?_, fun b o hb _ => ?_⟩
  · have hlt := em.wf.lt hb
    refine ⟨by rw [at1 b hlt]; exact hb, ?_⟩
    cases g with
    | none => rfl
    | some g =>
      have := em.own b cs t g hb
      subst this
      rw [at2 g hlt]; exact hl
  · rw [at1 b (em.wf.lt hb)]; exact hb

/-- Evaluated fast, over no heap, with leaves that are not known. -/
theorem bareV (hm : P.follows .mixedOrders = true) {m n : Nat} {nat : FuncId → List Value → Hp → Option (Option Value)} (hn : NatOk P nat) {f : FuncId} {args : List Value} {exp : Value} (hf : f < P.funcs.size) (hpa : args.all (plainV 100) = true)
    (hx : ∀ K : Value → Bool, xK P m nat n f args Hp.empty (fun v _ => K v) = K exp) (hp : plainV 100 exp = true) (h : Hp) : SCalls P f args h fun v h' => v = exp ∧ h' = h := by
  classical
  have h1 := hx fun v => decide (v = exp)
  rw [xK_eq] at h1
  have h2 : xG P (alB m) nat (fun _ => annE) n f args Hp.empty (fun v _ => decide (v = exp)) = true := by rw [h1]; simp
  refine SCalls.bare (K := fun v => v = exp) hf hpa ((xG_ok hm hn n f args Hp.empty _ h2).mono fun v h' hv => ?_)
  simp only [decide_eq_true_eq] at hv
  exact ⟨hv, by rw [hv]; exact hp⟩
end
end Go.Cn

/- sha256 on whole numbers, plainly; what the machine's word operations come to on them. -/
set_option linter.unusedVariables false
namespace Go.Cn.Sha
open Go Go.Cn

/-! ### The hash -/
def rot (n x : Nat) : Nat := (x >>> n) ||| ((x <<< (32 - n)) % 4294967296)
def add (a b : Nat) : Nat := (a + b) % 4294967296
def s0 (x : Nat) : Nat := (rot 7 x ^^^ rot 18 x) ^^^ (x >>> 3)
def s1 (x : Nat) : Nat := (rot 17 x ^^^ rot 19 x) ^^^ (x >>> 10)
def S0 (x : Nat) : Nat := (rot 2 x ^^^ rot 13 x) ^^^ rot 22 x
def S1 (x : Nat) : Nat := (rot 6 x ^^^ rot 11 x) ^^^ rot 25 x
def ch (e f g : Nat) : Nat := (e &&& f) ^^^ ((4294967295 ^^^ e) &&& g)
def maj (a b c : Nat) : Nat := ((a &&& b) ^^^ (a &&& c)) ^^^ (b &&& c)

/-- The next word of the plan (the last one first). -/
def wnext (r : List Nat) : Nat := add (add (add (r.getD 15 0) (s0 (r.getD 14 0))) (r.getD 6 0)) (s1 (r.getD 1 0))
def plan : Nat → List Nat → List Nat
  | 0, r => r
  | n + 1, r => plan n (wnext r :: r)

structure St where
  a : Nat
  b : Nat
  c : Nat
  d : Nat
  e : Nat
  f : Nat
  g : Nat
  h : Nat

def t1 (s : St) (k w : Nat) : Nat := add (add (add (add s.h (S1 s.e)) (ch s.e s.f s.g)) k) w
def round (s : St) (k w : Nat) : St := ⟨add (add (t1 s k w) (S0 s.a)) (maj s.a s.b s.c), s.a, s.b, s.c, add s.d (t1 s k w), s.e, s.f, s.g⟩
def rounds : List Nat → List Nat → St → St
  | k :: ks, w :: ws, s => rounds ks ws (round s k w)
  | _, _, s => s

def K : List Nat := [1116352408, 1899447441, 3049323471, 3921009573, 961987163, 1508970993, 2453635748, 2870763221, 3624381080, 310598401, 607225278, 1426881987, 1925078388, 2162078206, 2614888103, 3248222580, 3835390401, 4022224774, 264347078, 604807628, 770255983, 1249150122, 1555081692, 1996064986, 2554220882, 2821834349, 2952996808, 3210313671, 3336571891, 3584528711, 113926993, 338241895, 666307205, 773529912, 1294757372, 1396182291, 1695183700, 1986661051, 2177026350, 2456956037, 2730485921, 2820302411, 3259730800, 3345764771, 3516065817, 3600352804, 4094571909, 275423344, 430227734, 506948616, 659060556, 883997877, 958139571, 1322822218, 1537002063, 1747873779, 1955562222, 2024104815, 2227730452, 2361852424, 2428436474, 2756734187, 3204031479, 3329325298]
def H0 : List Nat := [1779033703, 3144134277, 1013904242, 2773480762, 1359893119, 2600822924, 528734635, 1541459225]

def word (a b c d : Nat) : Nat := (((a <<< 24) % 4294967296 ||| (b <<< 16) % 4294967296) ||| (c <<< 8) % 4294967296) ||| d
def words : List Nat → List Nat
  | a :: b :: c :: d :: r => word a b c d :: words r
  | _ => []

def ofSt (s : St) : List Nat := [s.a, s.b, s.c, s.d, s.e, s.f, s.g, s.h]
def toSt : List Nat → St
  | [a, b, c, d, e, f, g, h] => ⟨a, b, c, d, e, f, g, h⟩
  | _ => ⟨0, 0, 0, 0, 0, 0, 0, 0⟩

/-- One block of 64 bytes. -/
def block (hs : List Nat) (bs : List Nat) : List Nat := List.zipWith add hs (ofSt (rounds K (plan 48 (words bs).reverse).reverse (toSt hs)))

def blocks : (n : Nat) → List Nat → List Nat → List Nat
  | 0, hs, _ => hs
  | n + 1, hs, bs => blocks n (block hs (bs.take 64)) (bs.drop 64)

def zeros (n : Nat) : Nat := (119 - n % 64) % 64
def lenBytes (n : Nat) : List Nat := [56, 48, 40, 32, 24, 16, 8, 0].map fun s => ((n * 8) % 18446744073709551616) >>> s % 256
def pad (bs : List Nat) : List Nat := bs ++ 128 :: (List.replicate (zeros bs.length) 0 ++ lenBytes bs.length)

def outBytes (w : Nat) : List Nat := [(w >>> 24) % 256, (w >>> 16) % 256, (w >>> 8) % 256, w % 256]
def sum (bs : List Nat) : List Nat := ((blocks ((pad bs).length / 64) H0 (pad bs)).map outBytes).flatten

/-! ### Words -/
def W32 (n : Nat) : Prop := n < 4294967296

theorem wrap_u32 (n : Nat) : IntKind.u32.wrap (n : Int) = ((n % 4294967296 : Nat) : Int) := by
  unfold IntKind.wrap
  simp [IntKind.bits, IntKind.signed]
theorem wrap_u64 (n : Nat) : IntKind.u64.wrap (n : Int) = ((n % 18446744073709551616 : Nat) : Int) := by
  unfold IntKind.wrap
  simp [IntKind.bits, IntKind.signed]
theorem wrap_u8 (n : Nat) : IntKind.u8.wrap (n : Int) = ((n % 256 : Nat) : Int) := by
  unfold IntKind.wrap
  simp [IntKind.bits, IntKind.signed]

theorem addW_u32 (a b : Nat) : addW .u32 a b = ((add a b : Nat) : Int) := by
  unfold addW add
  rw [← Int.natCast_add, wrap_u32]
theorem bv32 {a : Nat} (ha : W32 a) : (BitVec.ofInt IntKind.u32.bits (a : Int)).toNat = a := by
  unfold W32 at ha
  simp [IntKind.bits]
  omega
theorem xorW_u32 {a b : Nat} (ha : W32 a) (hb : W32 b) : xorW .u32 a b = ((a ^^^ b : Nat) : Int) := by
  unfold xorW
  rw [BitVec.toNat_xor, bv32 ha, bv32 hb, wrap_u32, Nat.mod_eq_of_lt]
  exact Nat.xor_lt_two_pow (n := 32) ha hb
theorem andW_u32 {a b : Nat} (ha : W32 a) (hb : W32 b) : andW .u32 a b = ((a &&& b : Nat) : Int) := by
  unfold andW
  rw [BitVec.toNat_and, bv32 ha, bv32 hb, wrap_u32, Nat.mod_eq_of_lt]
  exact Nat.and_lt_two_pow (n := 32) _ hb
theorem orW_u32 {a b : Nat} (ha : W32 a) (hb : W32 b) : orW .u32 a b = ((a ||| b : Nat) : Int) := by
  unfold orW
  rw [BitVec.toNat_or, bv32 ha, bv32 hb, wrap_u32, Nat.mod_eq_of_lt]
  exact Nat.or_lt_two_pow (n := 32) ha hb
theorem shrW_nat (k : IntKind) (a n : Nat) (h : n ≤ k.bits) : shrW k a n = ((a >>> n : Nat) : Int) := by
  unfold shrW
  rw [Int.toNat_natCast, Nat.min_eq_left h, Nat.shiftRight_eq_div_pow]
  rw [Int.fdiv_eq_ediv_of_nonneg _ (by exact_mod_cast Nat.zero_le _)]
  push_cast
  rfl
theorem shlW_u32 (a n : Nat) (h : n ≤ 32) : shlW .u32 a n = (((a <<< n) % 4294967296 : Nat) : Int) := by
  unfold shlW
  rw [Int.toNat_natCast, Nat.min_eq_left (show n ≤ IntKind.u32.bits from h), Nat.shiftLeft_eq]
  rw [show ((a : Int) * 2 ^ n) = ((a * 2 ^ n : Nat) : Int) by push_cast; rfl, wrap_u32]
theorem comW_u32 {a : Nat} (ha : W32 a) : comW .u32 a = ((4294967295 ^^^ a : Nat) : Int) := by
  unfold comW
  rw [BitVec.toNat_xor, bv32 ha, wrap_u32, Nat.mod_eq_of_lt]
  · rfl
  · exact Nat.xor_lt_two_pow (n := 32) (by simp [IntKind.signed, IntKind.max, IntKind.bits]) ha

theorem W32.add (a b : Nat) : W32 (add a b) := Nat.mod_lt _ (by omega)
theorem W32.xor {a b : Nat} (ha : W32 a) (hb : W32 b) : W32 (a ^^^ b) := Nat.xor_lt_two_pow (n := 32) ha hb
theorem W32.and {a b : Nat} (hb : W32 b) : W32 (a &&& b) := Nat.and_lt_two_pow (n := 32) _ hb
theorem W32.or {a b : Nat} (ha : W32 a) (hb : W32 b) : W32 (a ||| b) := Nat.or_lt_two_pow (n := 32) ha hb
theorem W32.shr {a : Nat} (n : Nat) (ha : W32 a) : W32 (a >>> n) := Nat.lt_of_le_of_lt (by rw [Nat.shiftRight_eq_div_pow]; exact Nat.div_le_self _ _) ha
theorem W32.mod (a : Nat) : W32 (a % 4294967296) := Nat.mod_lt _ (by omega)
theorem W32.rot {a : Nat} (n : Nat) (ha : W32 a) : W32 (rot n a) := (ha.shr n).or (.mod _)
theorem W32.com {a : Nat} (ha : W32 a) : W32 (4294967295 ^^^ a) := Nat.xor_lt_two_pow (n := 32) (by decide) ha
end Go.Cn.Sha
