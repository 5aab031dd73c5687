/- Joined: CnB, CnC, CnD, CnE, CnF, CnG, CnH. -/
import Derived.Test.YtlodmlmlmkcpkaaGreatDoorFo01
import Derived.Laws.IdiomCopy
import Derived.ChangeKeysEq
/- The canonical semantics: the relation between a canonical state and a state of the model, and its first laws. -/
set_option linter.unusedVariables false
set_option linter.unusedSimpArgs false
namespace Go.Cn

/-! ### 1. The trie -/
theorem Tr.get_set {α : Type} (a : α) : ∀ (f n : Nat) (t : Tr α) (m : Nat), n < f → (Tr.set a f n t).get m = if m = n then some a else t.get m
  | 0, _, _, _, h => absurd h (by omega)
  | f + 1, n, .leaf, m, h => by
    unfold Tr.set
    by_cases hn : n = 0
    · subst hn; by_cases hm : m = 0
      · simp [Tr.get, hm]
      · simp [Tr.get, hm]
    · simp only [hn, if_false]
      by_cases hp : n % 2 = 1
      · simp only [hp, if_true]
        have ih := Tr.get_set a f (n / 2) .leaf
        by_cases hm : m = 0
        · subst hm; have : ¬ 0 = n := fun e => hn e.symm
          simp [Tr.get, this]
        · by_cases hq : m % 2 = 1
          · simp only [Tr.get, hm, if_false, hq, if_true, ih (m / 2) (by omega)]
            by_cases e : m = n
            · subst e; simp
            · rw [if_neg (by omega), if_neg e]
          · simp only [Tr.get, hm, if_false, hq]
            rw [if_neg (by rintro rfl; exact hq hp)]
      · simp only [hp, if_false]
        have ih := Tr.get_set a f (n / 2 - 1) .leaf
        by_cases hm : m = 0
        · subst hm; have : ¬ 0 = n := fun e => hn e.symm
          simp [Tr.get, this]
        · by_cases hq : m % 2 = 1
          · simp only [Tr.get, hm, if_false, hq, if_true]
            rw [if_neg (by rintro rfl; exact hp hq)]
          · simp only [Tr.get, hm, if_false, hq, ih (m / 2 - 1) (by omega)]
            by_cases e : m = n
            · subst e; simp
            · rw [if_neg (by omega), if_neg e]
  | f + 1, n, .node o l r, m, h => by
    unfold Tr.set
    by_cases hn : n = 0
    · subst hn; by_cases hm : m = 0
      · simp [Tr.get, hm]
      · simp [Tr.get, hm]
    · simp only [hn, if_false]
      by_cases hp : n % 2 = 1
      · simp only [hp, if_true]
        have ih := Tr.get_set a f (n / 2) l
        by_cases hm : m = 0
        · subst hm; have : ¬ 0 = n := fun e => hn e.symm
          simp [Tr.get, this]
        · by_cases hq : m % 2 = 1
          · simp only [Tr.get, hm, if_false, hq, if_true, ih (m / 2) (by omega)]
            by_cases e : m = n
            · subst e; simp
            · rw [if_neg (by omega), if_neg e]
          · simp only [Tr.get, hm, if_false, hq]
            rw [if_neg (by rintro rfl; exact hq hp)]
      · simp only [hp, if_false]
        have ih := Tr.get_set a f (n / 2 - 1) r
        by_cases hm : m = 0
        · subst hm; have : ¬ 0 = n := fun e => hn e.symm
          simp [Tr.get, this]
        · by_cases hq : m % 2 = 1
          · simp only [Tr.get, hm, if_false, hq, if_true]
            rw [if_neg (by rintro rfl; exact hp hq)]
          · simp only [Tr.get, hm, if_false, hq, ih (m / 2 - 1) (by omega)]
            by_cases e : m = n
            · subst e; simp
            · rw [if_neg (by omega), if_neg e]

theorem Hp.ob_setOb (h : Hp) (b : Nat) (o : Ob) (b' : Nat) : (h.setOb b o).ob b' = if b' = b then some o else h.ob b' := by
  unfold Hp.setOb Hp.ob; exact Tr.get_set _ _ _ _ _ (by omega)
theorem Hp.gs_setOb (h : Hp) (b : Nat) (o : Ob) : (h.setOb b o).gs = h.gs := rfl
theorem Hp.next_setOb (h : Hp) (b : Nat) (o : Ob) : (h.setOb b o).next = h.next := rfl
theorem Hp.gs_setGs (h : Hp) (g : Nat) (l : List Nat) (g' : Nat) : (h.setGs g l).gs.get g' = if g' = g then some l else h.gs.get g' := by
  unfold Hp.setGs; exact Tr.get_set _ _ _ _ _ (by omega)
theorem Hp.ob_setGs (h : Hp) (g : Nat) (l : List Nat) : (h.setGs g l).ob = h.ob := rfl
theorem Hp.next_setGs (h : Hp) (g : Nat) (l : List Nat) : (h.setGs g l).next = h.next := rfl
theorem Hp.ob_alloc (h : Hp) (cs : List Value) (e : TypeId) (b : Nat) : (h.alloc cs e).ob b = if b = h.next then some (.cells cs e (some h.next)) else h.ob b := by
  unfold Hp.alloc Hp.ob; exact Tr.get_set _ _ _ _ _ (by omega)
theorem Hp.gs_alloc (h : Hp) (cs : List Value) (e : TypeId) : (h.alloc cs e).gs = h.gs := rfl
theorem Hp.next_alloc (h : Hp) (cs : List Value) (e : TypeId) : (h.alloc cs e).next = h.next + 1 := rfl

/-! ### 2. Values -/
/-- Where a canonical block lies: the model's block, from which cell on, how many cells that block has. -/
structure En where
  rb : Nat
  ro : Nat
  rs : Nat

abbrev Sg := Nat → Option En
def Sg.le (σ σ' : Sg) : Prop := ∀ b e, σ b = some e → σ' b = some e
theorem Sg.le_refl (σ : Sg) : σ.le σ := fun _ _ h => h
theorem Sg.le_trans {a b c : Sg} (h : a.le b) (k : b.le c) : a.le c := fun _ _ e => k _ _ (h _ _ e)

inductive VRel (σ : Sg) : Value → Value → Prop where
  | unk (v : Value) : VRel σ unk v
  | bool (b : Bool) : VRel σ (.bool b) (.bool b)
  | int (k : IntKind) (n : Int) : VRel σ (.int k n) (.int k n)
  | float (k : FloatKind) (n : Nat) : VRel σ (.float k n) (.float k n)
  | complex (k : FloatKind) (n m : Nat) : VRel σ (.complex k n m) (.complex k n m)
  | string (s : ByteArray) : VRel σ (.string s) (.string s)
  | nilFunc : VRel σ .nilFunc .nilFunc
  | nilIface : VRel σ .nilIface .nilIface
  | pnil : VRel σ (.pointer none) (.pointer none)
  | ptr (b o : Nat) (e : En) : σ b = some e → VRel σ (.pointer (some ⟨b, o, none⟩)) (.pointer (some ⟨e.rb, e.ro + o, none⟩))
  | snil : VRel σ (.slice none 0 0) (.slice none 0 0)
  | sexact (b o l c : Nat) (e : En) (a : Addr) : σ b = some e → l ≤ c → (c = 0 ∨ a = ⟨e.rb, e.ro + o, none⟩) → VRel σ (.slice (some ⟨b, o, none⟩) l c) (.slice (some a) l c)
  | sopen (b o n l c c' : Nat) (e : En) (a : Addr) : σ b = some e → l ≤ c → c ≤ c' → (c' = 0 ∨ (a = ⟨e.rb, e.ro + o, none⟩ ∧ e.ro + o + c' * n ≤ e.rs)) →
      VRel σ (.slice (some ⟨b, o, some n⟩) l c) (.slice (some a) l c')
  | mnil : VRel σ (.map none) (.map none)
  | map (b : Nat) (e : En) : σ b = some e → VRel σ (.map (some b)) (.map (some e.rb))
  | yield (l : Nat) (e : En) : σ l = some e → VRel σ (.func (.yield l) #[] #[]) (.func (.yield e.rb) #[] #[])
  | one (b : Bool) : VRel σ (.tuple #[.bool b]) (.tuple #[.bool b])
  | func (fn : Fn) (a b a' b' : Array Value) : isYield fn = false → a.size = a'.size → b.size = b'.size → (∀ (i : Nat) x y, a[i]? = some x → a'[i]? = some y → VRel σ x y) →
      (∀ (i : Nat) x y, b[i]? = some x → b'[i]? = some y → VRel σ x y) → VRel σ (.func fn a b) (.func fn a' b')
  | iface (t : TypeId) (v v' : Value) : VRel σ v v' → VRel σ (.iface t v) (.iface t v')
  | agg (a a' : Array Value) : a.size = a'.size → (∀ (i : Nat) x y, a[i]? = some x → a'[i]? = some y → VRel σ x y) → VRel σ (.agg a) (.agg a')
  | tuple (a a' : Array Value) : a.size = a'.size → a.size ≠ 1 → (∀ (i : Nat) x y, a[i]? = some x → a'[i]? = some y → VRel σ x y) → VRel σ (.tuple a) (.tuple a')

theorem VRel.mono {σ σ' : Sg} (h : σ.le σ') {x y : Value} (hv : VRel σ x y) : VRel σ' x y := by
  induction hv with
  | unk v => exact .unk v
  | bool b => exact .bool b
  | int k n => exact .int k n
  | float k n => exact .float k n
  | complex k n m => exact .complex k n m
  | string s => exact .string s
  | nilFunc => exact .nilFunc
  | nilIface => exact .nilIface
  | pnil => exact .pnil
  | ptr b o e hb => exact .ptr b o e (h _ _ hb)
  | snil => exact .snil
  | sexact b o l c e a hb hl ha => exact .sexact b o l c e a (h _ _ hb) hl ha
  | sopen b o n l c c' e a hb hl hc ha => exact .sopen b o n l c c' e a (h _ _ hb) hl hc ha
  | mnil => exact .mnil
  | map b e hb => exact .map b e (h _ _ hb)
  | yield l e hl => exact .yield l e (h _ _ hl)
  | one b => exact .one b
  | func fn a b a' b' hf ha hb h1 h2 ih1 ih2 => exact .func fn a b a' b' hf ha hb (fun i x y hx hy => ih1 i x y hx hy) (fun i x y hx hy => ih2 i x y hx hy)
  | iface t v v' hv ih => exact .iface t v v' ih
  | agg a a' ha h1 ih => exact .agg a a' ha (fun i x y hx hy => ih i x y hx hy)
  | tuple a a' ha h1 h2 ih => exact .tuple a a' ha h1 (fun i x y hx hy => ih i x y hx hy)

theorem VRel.undef (σ : Sg) : VRel σ undef undef := .tuple #[] #[] rfl (by simp) (by simp)

def LRel (σ : Sg) (xs ys : List Value) : Prop := xs.length = ys.length ∧ ∀ (i : Nat) x y, xs[i]? = some x → ys[i]? = some y → VRel σ x y
def TRel (σ : Sg) (tm : List Value) (tmps : Array Value) : Prop := tm.length = tmps.size ∧ ∀ (i : Nat), VRel σ (tm.getD i undef) (tmps.getD i undef)

theorem LRel.mono {σ σ' : Sg} (h : σ.le σ') {xs ys : List Value} (hv : LRel σ xs ys) : LRel σ' xs ys := ⟨hv.1, fun i x y hx hy => (hv.2 i x y hx hy).mono h⟩
theorem TRel.mono {σ σ' : Sg} (h : σ.le σ') {xs : List Value} {ys : Array Value} (hv : TRel σ xs ys) : TRel σ' xs ys := ⟨hv.1, fun i => (hv.2 i).mono h⟩

theorem LRel.nil (σ : Sg) : LRel σ [] [] := ⟨rfl, by simp⟩
theorem LRel.cons {σ : Sg} {x y : Value} {xs ys : List Value} (h : VRel σ x y) (hl : LRel σ xs ys) : LRel σ (x :: xs) (y :: ys) := by
  refine ⟨by simp [hl.1], fun i a b ha hb => ?_⟩
  cases i with
  | zero => simp at ha hb; subst ha; subst hb; exact h
  | succ i => simp at ha hb; exact hl.2 i a b ha hb
theorem LRel.append {σ : Sg} {xs ys xs' ys' : List Value} (h : LRel σ xs ys) (h' : LRel σ xs' ys') : LRel σ (xs ++ xs') (ys ++ ys') := by
  refine ⟨by simp [h.1, h'.1], fun i a b ha hb => ?_⟩
  by_cases hi : i < xs.length
  · rw [List.getElem?_append_left hi] at ha
    rw [List.getElem?_append_left (by rw [← h.1]; exact hi)] at hb
    exact h.2 i a b ha hb
  · rw [List.getElem?_append_right (by omega)] at ha
    rw [List.getElem?_append_right (by rw [← h.1]; omega), ← h.1] at hb
    exact h'.2 _ a b ha hb
theorem LRel.get {σ : Sg} {xs ys : List Value} (h : LRel σ xs ys) {i : Nat} {x : Value} (hx : xs[i]? = some x) : ∃ y, ys[i]? = some y ∧ VRel σ x y := by
  have hi : i < ys.length := by rw [← h.1]; exact (List.getElem?_eq_some_iff.1 hx).1
  exact ⟨ys[i], List.getElem?_eq_getElem hi, h.2 i x _ hx (List.getElem?_eq_getElem hi)⟩
theorem LRel.get' {σ : Sg} {xs ys : List Value} (h : LRel σ xs ys) {i : Nat} {y : Value} (hy : ys[i]? = some y) : ∃ x, xs[i]? = some x ∧ VRel σ x y := by
  have hi : i < xs.length := by rw [h.1]; exact (List.getElem?_eq_some_iff.1 hy).1
  exact ⟨xs[i], List.getElem?_eq_getElem hi, h.2 i _ y (List.getElem?_eq_getElem hi) hy⟩
theorem LRel.take {σ : Sg} {xs ys : List Value} (h : LRel σ xs ys) (n : Nat) : LRel σ (xs.take n) (ys.take n) := by
  refine ⟨by simp [h.1], fun i a b ha hb => ?_⟩
  rw [List.getElem?_take] at ha hb
  split at ha
  · rename_i hi; rw [if_pos hi] at hb; exact h.2 i a b ha hb
  · simp at ha
theorem LRel.drop {σ : Sg} {xs ys : List Value} (h : LRel σ xs ys) (n : Nat) : LRel σ (xs.drop n) (ys.drop n) := by
  refine ⟨by simp [h.1], fun i a b ha hb => ?_⟩
  rw [List.getElem?_drop] at ha hb
  exact h.2 _ a b ha hb
theorem LRel.of_agg {σ : Sg} {a a' : Array Value} (h1 : a.size = a'.size) (h2 : ∀ (i : Nat) x y, a[i]? = some x → a'[i]? = some y → VRel σ x y) : LRel σ a.toList a'.toList :=
  ⟨by simpa using h1, fun i x y hx hy => h2 i x y (by simpa using hx) (by simpa using hy)⟩
theorem LRel.to_agg {σ : Sg} {xs ys : List Value} (h : LRel σ xs ys) : VRel σ (.agg xs.toArray) (.agg ys.toArray) :=
  .agg _ _ (by simpa using h.1) (fun i x y hx hy => h.2 i x y (by simpa using hx) (by simpa using hy))

theorem TRel.put {σ : Sg} {tm : List Value} {a : Act} (h : TRel σ tm a.tmps) (d : Option Tmp) {v v' : Value} (hv : VRel σ v v') : TRel σ (put tm d v) (a.put d v').tmps := by
  cases d with
  | none => exact h
  | some d =>
    refine ⟨by simp [Cn.put, Act.put, h.1], fun i => ?_⟩
    simp only [Cn.put, Act.put]
    by_cases hi : i = d
    · subst hi
      by_cases hl : i < tm.length
      · rw [List.getD_eq_getElem?_getD, List.getElem?_set_self hl, Array.getD_eq_getD_getElem?, Array.getElem?_setIfInBounds_self_of_lt (by rw [← h.1]; exact hl)]
        exact hv
      · have := h.2 i
        rw [List.getD_eq_getElem?_getD, Array.getD_eq_getD_getElem?] at this ⊢
        rw [List.set_eq_of_length_le (by omega)]
        have hs : ¬ i < a.tmps.size := by rw [← h.1]; exact hl
        simpa [Array.getElem?_setIfInBounds, hs] using this
    · have := h.2 i
      rw [List.getD_eq_getElem?_getD, Array.getD_eq_getD_getElem?] at this ⊢
      rw [List.getElem?_set_ne (fun e => hi e.symm), Array.getElem?_setIfInBounds_ne (fun e => hi e.symm)]
      exact this

theorem Act.put_defers' (a : Act) (d : Option Tmp) (v : Value) : (a.put d v).defers = a.defers := by cases d <;> rfl

theorem plainV_rel (σ : Sg) : ∀ (n : Nat) (v : Value), plainV n v = true → VRel σ v v := by
  intro n
  induction n with
  | zero =>
    intro v h
    cases v with
    | bool b => exact .bool b
    | int k n => exact .int k n
    | float k n => exact .float k n
    | complex k n m => exact .complex k n m
    | string s => exact .string s
    | nilFunc => exact .nilFunc
    | nilIface => exact .nilIface
    | pointer a => cases a with
      | none => exact .pnil
      | some a => simp [plainV] at h
    | map a => cases a with
      | none => exact .mnil
      | some a => simp [plainV] at h
    | slice a l c =>
      cases a with
      | some a => simp [plainV] at h
      | none => cases l with
        | succ l => simp [plainV] at h
        | zero => cases c with
          | succ c => simp [plainV] at h
          | zero => exact .snil
    | _ => simp [plainV] at h
  | succ n ih =>
    intro v h
    cases v with
    | bool b => exact .bool b
    | int k n => exact .int k n
    | float k n => exact .float k n
    | complex k n m => exact .complex k n m
    | string s => exact .string s
    | nilFunc => exact .nilFunc
    | nilIface => exact .nilIface
    | pointer a => cases a with
      | none => exact .pnil
      | some a => simp [plainV] at h
    | map a => cases a with
      | none => exact .mnil
      | some a => simp [plainV] at h
    | slice a l c =>
      cases a with
      | some a => simp [plainV] at h
      | none => cases l with
        | succ l => simp [plainV] at h
        | zero => cases c with
          | succ c => simp [plainV] at h
          | zero => exact .snil
    | agg cs =>
      simp only [plainV, List.all_eq_true] at h
      refine .agg _ _ rfl fun i x y hx hy => ?_
      rw [hx] at hy; cases hy
      exact ih x (h x (by simpa using Array.mem_of_getElem? hx))
    | tuple cs =>
      simp only [plainV, Bool.and_eq_true, List.all_eq_true] at h
      refine .tuple _ _ rfl (by simpa using h.1) fun i x y hx hy => ?_
      rw [hx] at hy; cases hy
      exact ih x (h.2 x (by simpa using Array.mem_of_getElem? hx))
    | iface t v => exact .iface t v v (ih v (by simpa [plainV] using h))
    | _ => simp [plainV] at h

theorem ev_rel {σ : Sg} {tm : List Value} {a : Act} (h : TRel σ tm a.tmps) (x : Operand) : VRel σ (ev tm x) (a.eval x) := by
  cases x with
  | tmp t => exact h.2 t
  | const v =>
    simp only [ev, Act.eval]
    split
    · rename_i hp; exact plainV_rel σ 100 v hp
    · exact .unk v
  | global g => exact .unk _
  | func f => exact .func _ _ _ _ _ rfl rfl rfl (by simp) (by simp)

theorem VRel.cells {σ : Sg} {x y : Value} (h : VRel σ x y) (hu : isUnk x = false) : LRel σ x.cells.toList y.cells.toList := by
  have one : ∀ {a b : Value}, VRel σ a b → LRel σ [a] [b] := fun h => LRel.cons h (LRel.nil σ)
  cases h with
  | unk v => simp [isUnk, Cn.unk] at hu
  | agg a a' h1 h2 => exact LRel.of_agg h1 h2
  | one b => simp [isUnk] at hu
  | _ => refine one ?_; constructor <;> assumption

end Go.Cn

/- The canonical semantics: the operations that look at their operands alone. -/
set_option linter.unusedVariables false
set_option linter.unusedSimpArgs false
namespace Go.Cn
section
variable {P : Program} {σ : Sg}

theorem run_size {t : TypeId} {n : Nat} (h : size? P t = some n) (w : World) : (sizeOf t).run P w = .ok n w := by
  unfold size? at h
  cases hi : P.info? t with
  | none => simp [hi] at h
  | some i => simp [hi] at h; simp [sizeOf, run_typeInfo w hi, h]

theorem run_zero {t : TypeId} {z : Value} (h : zero? P t = some z) (w : World) : (zeroValue t).run P w = .ok z w := by
  unfold zero? at h
  cases hi : P.info? t with
  | none => simp [hi] at h
  | some i => simp [hi] at h; simp [zeroValue, run_typeInfo w hi, h]

theorem run_agg {t : TypeId} {b : Bool} (h : agg? P t = some b) (w : World) : (isAgg t).run P w = .ok b w := by
  unfold agg? at h
  cases hu : P.underlying t with
  | none => simp [hu] at h
  | some d => cases d <;> simp [hu] at h <;> subst h <;> simp [isAgg, run_underlying hu]

theorem und_of_agg {t : TypeId} {b : Bool} (h : agg? P t = some b) : ∃ d, P.underlying t = some d := by
  unfold agg? at h
  cases hu : P.underlying t with
  | none => simp [hu] at h
  | some d => exact ⟨d, rfl⟩

def ARel (σ : Sg) (a a' : Array Value) : Prop := a.size = a'.size ∧ ∀ (i : Nat) x y, a[i]? = some x → a'[i]? = some y → VRel σ x y

theorem ARel.get {a a' : Array Value} (h : ARel σ a a') {i : Nat} {x : Value} (hx : a[i]? = some x) : ∃ y, a'[i]? = some y ∧ VRel σ x y := by
  have hi : i < a'.size := by rw [← h.1]; exact (Array.getElem?_eq_some_iff.1 hx).1
  exact ⟨a'[i], Array.getElem?_eq_getElem hi, h.2 i x _ hx (Array.getElem?_eq_getElem hi)⟩

theorem ARel.extract {a a' : Array Value} (h : ARel σ a a') (i j : Nat) : ARel σ (a.extract i j) (a'.extract i j) := by
  refine ⟨by simp [h.1], fun k x y hx hy => ?_⟩
  rw [Array.getElem?_extract] at hx hy
  split at hx
  · rename_i hk
    rw [if_pos (by simpa [h.1] using hk)] at hy
    exact h.2 _ x y hx hy
  · simp at hx

theorem part_rel {t : TypeId} {a a' : Array Value} {off : Nat} {v : Value} (h : part? P t a off = some v) (ha : ARel σ a a') (w : World) :
    ∃ v', (part t a' off).run P w = .ok v' w ∧ VRel σ v v' := by
  unfold part? at h
  cases hg : agg? P t with
  | none => simp [hg] at h
  | some b =>
    simp only [hg] at h
    cases b with
    | true =>
      cases hs : size? P t with
      | none => simp [hs] at h
      | some n =>
        simp [hs] at h
        subst h
        have := ha.extract (i := off) (j := off + n)
        exact ⟨_, by simp [part, run_agg hg, run_size hs], .agg _ _ this.1 this.2⟩
    | false =>
      simp at h
      obtain ⟨y, hy, hv⟩ := ha.get h
      exact ⟨y, by simp [part, run_agg hg, hy], hv⟩

theorem VRel.agg_inv {a : Array Value} {y : Value} (h : VRel σ (.agg a) y) : ∃ a', y = .agg a' ∧ ARel σ a a' := by
  cases h with
  | agg a a' h1 h2 => exact ⟨a', rfl, h1, h2⟩

theorem VRel.bool_inv {b : Bool} {y : Value} (h : VRel σ (.bool b) y) : y = .bool b := by cases h; rfl
theorem VRel.int_inv {k : IntKind} {n : Int} {y : Value} (h : VRel σ (.int k n) y) : y = .int k n := by cases h; rfl
theorem VRel.string_inv {s : ByteArray} {y : Value} (h : VRel σ (.string s) y) : y = .string s := by cases h; rfl
theorem VRel.pnil_inv {y : Value} (h : VRel σ (.pointer none) y) : y = .pointer none := by cases h; rfl
theorem VRel.ptr_inv {b o : Nat} {s : Option Nat} {y : Value} (h : VRel σ (.pointer (some ⟨b, o, s⟩)) y) : s = none ∧ ∃ e, σ b = some e ∧ y = .pointer (some ⟨e.rb, e.ro + o, none⟩) := by
  cases h with
  | ptr b o e hb => exact ⟨rfl, e, hb, rfl⟩
theorem VRel.nilIface_inv {y : Value} (h : VRel σ .nilIface y) : y = .nilIface := by cases h; rfl
theorem VRel.nilFunc_inv {y : Value} (h : VRel σ .nilFunc y) : y = .nilFunc := by cases h; rfl
theorem VRel.mnil_inv {y : Value} (h : VRel σ (.map none) y) : y = .map none := by cases h; rfl
theorem VRel.iface_inv {t : TypeId} {v : Value} {y : Value} (h : VRel σ (.iface t v) y) : ∃ v', y = .iface t v' ∧ VRel σ v v' := by
  cases h with
  | iface t v v' hv => exact ⟨v', rfl, hv⟩
theorem VRel.func_inv {fn : Fn} {a b : Array Value} {y : Value} (h : VRel σ (.func fn a b) y) (hn : isYield fn = false) : ∃ a' b', y = .func fn a' b' ∧ ARel σ a a' ∧ ARel σ b b' := by
  cases h with
  | yield l e hl => simp [isYield] at hn
  | func fn a b a' b' hf h1 h2 h3 h4 => exact ⟨a', b', rfl, ⟨h1, h3⟩, h2, h4⟩
theorem VRel.func_is {fn : Fn} {a b : Array Value} {y : Value} (h : VRel σ (.func fn a b) y) : ∃ fn' a' b', y = .func fn' a' b' := by
  cases h with
  | yield l e hl => exact ⟨_, _, _, rfl⟩
  | func fn a b a' b' hf h1 h2 h3 h4 => exact ⟨_, _, _, rfl⟩
theorem VRel.yield_inv {l : Nat} {a b : Array Value} {y : Value} (h : VRel σ (.func (.yield l) a b) y) : ∃ e, σ l = some e ∧ y = .func (.yield e.rb) #[] #[] := by
  cases h with
  | yield l e hl => exact ⟨e, hl, rfl⟩
  | func fn a b a' b' hf h1 h2 h3 h4 => simp [isYield] at hf
theorem VRel.snil_inv {l c : Nat} {y : Value} (h : VRel σ (.slice none l c) y) : l = 0 ∧ c = 0 ∧ y = .slice none 0 0 := by cases h; exact ⟨rfl, rfl, rfl⟩
/-- The shape of a slice. -/
theorem VRel.slice_inv {a : Addr} {l c : Nat} {y : Value} (h : VRel σ (.slice (some a) l c) y) :
    ∃ a' c' e, y = .slice (some a') l c' ∧ σ a.block = some e ∧ l ≤ c ∧ c ≤ c' ∧ (c' = 0 ∨ a' = ⟨e.rb, e.ro + a.off, none⟩) ∧
      ((a.spot = none ∧ c = c') ∨ ∃ n, a.spot = some n ∧ (c' = 0 ∨ e.ro + a.off + c' * n ≤ e.rs)) := by
  cases h with
  | sexact b o l c e a hb hl ha => exact ⟨a, c, e, rfl, hb, hl, Nat.le_refl _, ha, .inl ⟨rfl, rfl⟩⟩
  | sopen b o n l c c' e a hb hl hc ha => exact ⟨a, c', e, rfl, hb, hl, hc, ha.imp id (·.1), .inr ⟨n, rfl, ha.imp id (·.2)⟩⟩
theorem VRel.map_inv {b : Nat} {y : Value} (h : VRel σ (.map (some b)) y) : ∃ e, σ b = some e ∧ y = .map (some e.rb) := by
  cases h with
  | map b e hb => exact ⟨e, hb, rfl⟩
theorem VRel.tuple_inv {a : Array Value} {y : Value} (h : VRel σ (.tuple a) y) (h1 : a.size ≠ 1) : ∃ a', y = .tuple a' ∧ ARel σ a a' := by
  cases h with
  | unk v => simp [Cn.unk] at h1
  | one b => simp at h1
  | tuple a a' h1 h2 h3 => exact ⟨a', rfl, h1, h3⟩
theorem VRel.one_inv {b : Bool} {y : Value} (h : VRel σ (.tuple #[.bool b]) y) : y = .tuple #[.bool b] := by
  cases h with
  | one b => rfl
  | tuple a a' h1 h2 h3 => simp at h2
theorem VRel.undef_inv {y : Value} (h : VRel σ (.tuple #[]) y) : y = .tuple #[] := by
  obtain ⟨a', rfl, h1, _⟩ := h.tuple_inv (by simp)
  have : a' = #[] := Array.eq_empty_of_size_eq_zero (by simpa using h1.symm)
  rw [this]

/-- Elementwise relation of what operands say. -/
theorem ev_map {tm : List Value} {a : Act} (h : TRel σ tm a.tmps) (xs : Array Operand) : ARel σ (xs.map (ev tm)) (xs.map a.eval) := by
  refine ⟨by simp, fun i x y hx hy => ?_⟩
  simp only [Array.getElem?_map, Option.map_eq_some_iff] at hx hy
  obtain ⟨p, hp, rfl⟩ := hx
  obtain ⟨q, hq, rfl⟩ := hy
  rw [hp] at hq; cases hq
  exact ev_rel h p

/-! ### == -/
theorem eqFields_run {d : Nat} {xs ys xs' ys' : Array Value} (hx : ARel σ xs xs') (hy : ARel σ ys ys') (w : World)
    (ih : ∀ (t : TypeId) (x y x' y' : Value) (r : Bool), ceq P d t x y = some r → VRel σ x x' → VRel σ y y' → (Op.equalIn d t x' y').run P w = .ok r w) :
    ∀ (fs : List Field) (r : Bool), fs.foldr (fun f acc =>
        if f.name ≠ "_" then
          match part? P f.type xs f.offset, part? P f.type ys f.offset with
          | some a, some b => match ceq P d f.type a b with
            | some true => acc
            | some false => some false
            | none => none
          | _, _ => none
        else acc) (some true) = some r → (Op.eqFields d xs' ys' fs).run P w = .ok r w
  | [], r, h => by
    simp at h; subst h
    simp [Op.eqFields]
  | f :: fs, r, h => by
    simp only [List.foldr_cons] at h
    by_cases hn : f.name ≠ "_"
    · simp only [hn, if_true, ne_eq, not_false_eq_true] at h
      cases hp : part? P f.type xs f.offset with
      | none => simp [hp] at h
      | some a => cases hq : part? P f.type ys f.offset with
        | none => simp [hp, hq] at h
        | some b =>
          obtain ⟨a', ha, hav⟩ := part_rel hp hx w
          obtain ⟨b', hb, hbv⟩ := part_rel hq hy w
          cases hc : ceq P d f.type a b with
          | none => simp [hp, hq, hc] at h
          | some t =>
            have hrun := ih _ _ _ _ _ _ hc hav hbv
            cases t with
            | true =>
              simp only [hp, hq, hc] at h
              have := eqFields_run hx hy w ih fs r h
              simpa [Op.eqFields, hn, ha, hb, hrun] using this
            | false =>
              simp only [hp, hq, hc] at h
              cases h
              simp [Op.eqFields, hn, ha, hb, hrun]
    · simp only [hn, if_false] at h
      have := eqFields_run hx hy w ih fs r h
      simpa [Op.eqFields, hn] using this

theorem eqItems_run {d : Nat} {elem : TypeId} {n : Nat} {xs ys xs' ys' : Array Value} (hx : ARel σ xs xs') (hy : ARel σ ys ys') (w : World)
    (ih : ∀ (t : TypeId) (x y x' y' : Value) (r : Bool), ceq P d t x y = some r → VRel σ x x' → VRel σ y y' → (Op.equalIn d t x' y').run P w = .ok r w) :
    ∀ (is : List Nat) (r : Bool), is.foldr (fun i acc =>
          match part? P elem xs (i * n), part? P elem ys (i * n) with
          | some a, some b => match ceq P d elem a b with
            | some true => acc
            | some false => some false
            | none => none
          | _, _ => none) (some true) = some r → (Op.eqItems d elem n xs' ys' is).run P w = .ok r w
  | [], r, h => by
    simp at h; subst h
    simp [Op.eqItems]
  | f :: fs, r, h => by
    simp only [List.foldr_cons] at h
    cases hp : part? P elem xs (f * n) with
      | none => simp [hp] at h
      | some a => cases hq : part? P elem ys (f * n) with
        | none => simp [hp, hq] at h
        | some b =>
          obtain ⟨a', ha, hav⟩ := part_rel hp hx w
          obtain ⟨b', hb, hbv⟩ := part_rel hq hy w
          cases hc : ceq P d elem a b with
          | none => simp [hp, hq, hc] at h
          | some t =>
            have hrun := ih _ _ _ _ _ _ hc hav hbv
            cases t with
            | true =>
              simp only [hp, hq, hc] at h
              have := eqItems_run hx hy w ih fs r h
              simpa [Op.eqItems, ha, hb, hrun] using this
            | false =>
              simp only [hp, hq, hc] at h
              cases h
              simp [Op.eqItems, ha, hb, hrun]

theorem ceq_run (w : World) : ∀ (d : Nat) (t : TypeId) (x y x' y' : Value) (r : Bool), ceq P d t x y = some r → VRel σ x x' → VRel σ y y' → (Op.equalIn d t x' y').run P w = .ok r w
  | 0, _, _, _, _, _, _, h, _, _ => by simp [ceq] at h
  | d + 1, t, x, y, x', y', r, h, hx, hy => by
    have ih := ceq_run w d
    unfold ceq at h
    split at h
    case h_1 a b hu => obtain rfl := hx.bool_inv; obtain rfl := hy.bool_inv; simp at h; subst h; simp [Op.equalIn, run_underlying hu]
    case h_2 k0 k a k' b hu =>
      obtain rfl := hx.int_inv; obtain rfl := hy.int_inv
      by_cases hk : k = k'
      · simp [hk] at h; subst h; simp [Op.equalIn, run_underlying hu, hk]
      · simp [hk] at h
    case h_3 a b hu => obtain rfl := hx.string_inv; obtain rfl := hy.string_inv; simp at h; subst h; simp [Op.equalIn, run_underlying hu]
    case h_4 el b hu =>
      obtain rfl := hx.pnil_inv
      cases b with
      | none => obtain rfl := hy.pnil_inv; simp at h; subst h; simp [Op.equalIn, run_underlying hu]
      | some a =>
        obtain ⟨bb, o, s⟩ := a
        obtain ⟨rfl, e, he, rfl⟩ := hy.ptr_inv; simp at h; subst h; simp [Op.equalIn, run_underlying hu]
    case h_5 el a hu =>
      obtain ⟨bb, o, s⟩ := a
      obtain ⟨rfl, e, he, rfl⟩ := hx.ptr_inv
      obtain rfl := hy.pnil_inv
      simp at h; subst h; simp [Op.equalIn, run_underlying hu]
    case h_6 ms hu => obtain rfl := hx.nilIface_inv; obtain rfl := hy.nilIface_inv; simp at h; subst h; simp [Op.equalIn, run_underlying hu]
    case h_7 ms u v hu => obtain rfl := hx.nilIface_inv; obtain ⟨v', rfl, _⟩ := hy.iface_inv; simp at h; subst h; simp [Op.equalIn, run_underlying hu]
    case h_8 ms u v hu => obtain rfl := hy.nilIface_inv; obtain ⟨v', rfl, _⟩ := hx.iface_inv; simp at h; subst h; simp [Op.equalIn, run_underlying hu]
    case h_9 fs xs ys hu =>
      obtain ⟨xs', rfl, hxa⟩ := hx.agg_inv
      obtain ⟨ys', rfl, hya⟩ := hy.agg_inv
      by_cases hs : P.stoodInHeld t = true
      · simp [hs] at h
      · simp only [hs, if_false, Bool.false_eq_true] at h
        have hf : P.fieldsOf t = fs := by simp [Program.fieldsOf, hu]
        rw [run_equalIn_struct w d t xs' ys' (by rw [hf]; exact hu) (by simpa using hs), hf]
        exact eqFields_run hxa hya w ih _ _ h
    case h_10 len el xs ys hu =>
      obtain ⟨xs', rfl, hxa⟩ := hx.agg_inv
      obtain ⟨ys', rfl, hya⟩ := hy.agg_inv
      cases hs : size? P el with
      | none => simp [hs] at h
      | some n =>
        simp only [hs] at h
        unfold size? at hs
        cases hi : P.info? el with
        | none => simp [hi] at hs
        | some i =>
          simp [hi] at hs
          rw [run_equalIn_array w d _ _ hu hi]
          have hc : P.cellsOf el = n := by simp [Program.cellsOf, hi, hs]
          rw [hc]
          exact eqItems_run hxa hya w ih _ _ h
    case h_11 el l c b m k hu =>
      obtain ⟨rfl, rfl, rfl⟩ := hx.snil_inv
      cases b with
      | none => obtain ⟨rfl, rfl, rfl⟩ := hy.snil_inv; simp at h; subst h; simp [Op.equalIn, run_underlying hu]
      | some a => obtain ⟨a', c', e, rfl, _⟩ := hy.slice_inv; simp at h; subst h; simp [Op.equalIn, run_underlying hu]
    case h_12 el a l c m k hu =>
      obtain ⟨a', c', e, rfl, _⟩ := hx.slice_inv
      obtain ⟨rfl, rfl, rfl⟩ := hy.snil_inv; simp at h; subst h; simp [Op.equalIn, run_underlying hu]
    case h_13 k el b hu =>
      obtain rfl := hx.mnil_inv
      cases b with
      | none => obtain rfl := hy.mnil_inv; simp at h; subst h; simp [Op.equalIn, run_underlying hu]
      | some a => obtain ⟨e, he, rfl⟩ := hy.map_inv; simp at h; subst h; simp [Op.equalIn, run_underlying hu]
    case h_14 k el b hu =>
      obtain rfl := hy.mnil_inv
      obtain ⟨e, he, rfl⟩ := hx.map_inv; simp at h; subst h; simp [Op.equalIn, run_underlying hu]
    case h_15 p1 p2 p3 hu => obtain rfl := hx.nilFunc_inv; obtain rfl := hy.nilFunc_inv; simp at h; subst h; simp [Op.equalIn, run_underlying hu]
    case h_16 p1 p2 p3 fn f1 f2 hu => obtain rfl := hx.nilFunc_inv; obtain ⟨_, _, _, rfl⟩ := hy.func_is; simp at h; subst h; simp [Op.equalIn, run_underlying hu]
    case h_17 p1 p2 p3 fn f1 f2 hu => obtain rfl := hy.nilFunc_inv; obtain ⟨_, _, _, rfl⟩ := hx.func_is; simp at h; subst h; simp [Op.equalIn, run_underlying hu]
    case h_18 el a b hu =>
      obtain ⟨b1, o1, s1⟩ := a
      obtain ⟨b2, o2, s2⟩ := b
      obtain ⟨rfl, e1, he1, rfl⟩ := hx.ptr_inv
      obtain ⟨rfl, e2, he2, rfl⟩ := hy.ptr_inv
      simp only at h
      split at h
      · rename_i hb
        subst hb
        rw [he1] at he2
        cases he2
        split at h
        · simp at h
        · rename_i n hs
          simp only [Option.some.injEq] at h
          subst h
          have hn : (sizeOf el).run P w = .ok (n + 1) w := run_size hs w
          simp only [Op.equalIn, Sem.run_bind, run_underlying hu, Result.andThen_ok, hn]
          simp only [sameAddr, beq_self_eq_true, if_true]
          have : ((⟨e1.rb, e1.ro + o1, none⟩ : Addr) == ⟨e1.rb, e1.ro + o2, none⟩) = (o1 == o2) := by
            rw [Bool.eq_iff_iff, beq_iff_eq, beq_iff_eq]
            simp
          simp [this]
        · simp at h
      · simp at h
    case h_19 => simp at h
end
end Go.Cn

/- The canonical semantics: the operations that look at their operands alone: each answers in the model as here. -/
set_option linter.unusedVariables false
set_option linter.unusedSimpArgs false
namespace Go.Cn
section
variable {P : Program} {σ : Sg}

theorem VRel.to_nilIface {a : Value} (h : VRel σ a .nilIface) (hu : isUnk a = false) : a = .nilIface := by
  generalize hb : Value.nilIface = b at h
  cases h <;> first | rfl | (simp at hb; done) | (simp [isUnk, Cn.unk] at hu; done)
theorem VRel.to_agg {a : Value} {c : Array Value} (h : VRel σ a (.agg c)) (hu : isUnk a = false) : ∃ d, a = .agg d := by
  generalize hb : Value.agg c = b at h
  cases h <;> first | exact ⟨_, rfl⟩ | (simp at hb; done) | (simp [isUnk, Cn.unk] at hu; done)
theorem VRel.to_int {a : Value} {k : IntKind} {m : Int} (h : VRel σ a (.int k m)) (hu : isUnk a = false) : a = .int k m := by
  generalize hb : Value.int k m = b at h
  cases h <;> first | rfl | exact hb.symm | (simp at hb; done) | (simp [isUnk, Cn.unk] at hu; done)
theorem VRel.to_string {a : Value} {s : ByteArray} (h : VRel σ a (.string s)) (hu : isUnk a = false) : a = .string s := by
  generalize hb : Value.string s = b at h
  cases h <;> first | rfl | exact hb.symm | (simp at hb; done) | (simp [isUnk, Cn.unk] at hu; done)
theorem VRel.to_float {a : Value} {k : FloatKind} {m : Nat} (h : VRel σ a (.float k m)) (hu : isUnk a = false) : a = .float k m := by
  generalize hb : Value.float k m = b at h
  cases h <;> first | rfl | exact hb.symm | (simp at hb; done) | (simp [isUnk, Cn.unk] at hu; done)
theorem VRel.to_complex {a : Value} {k : FloatKind} {m n : Nat} (h : VRel σ a (.complex k m n)) (hu : isUnk a = false) : a = .complex k m n := by
  generalize hb : Value.complex k m n = b at h
  cases h <;> first | rfl | exact hb.symm | (simp at hb; done) | (simp [isUnk, Cn.unk] at hu; done)

theorem eqGuard_run {op : BinOp} {t : TypeId} {x y : Operand} {a b a' b' : Value} (ha : VRel σ a a') (hb : VRel σ b b') (hua : isUnk a = false) (hub : isUnk b = false)
    (h : eqPlain P t x y a b = true) (w : World) : (eqGuard op t x y a' b').run P w = .ok () w := by
  have body : (match (generalizing := false) a', b' with
      | .nilIface, .nilIface =>
        if (match (generalizing := false) x with | .const _ => true | _ => false) || (match (generalizing := false) y with | .const _ => true | _ => false) then pure ()
        else do if ← Op.eqGuardIn Op.maxDepth t a' b' then unsupported (.noEntry "binop/eql: two nil values of an interface type with methods, neither of them the literal nil") else pure ()
      | .agg _, .agg _ => do
        if !(← program).eqGuardType (← program).depth t then pure ()
        else if ← Op.eqGuardIn Op.maxDepth t a' b' then unsupported (.noEntry "binop/eql: two nil values of an interface type with methods, in a part of a struct or an array") else pure ()
      | _, _ => pure () : Sem Unit).run P w = .ok () w := by
    split
    · obtain rfl := ha.to_nilIface hua
      obtain rfl := hb.to_nilIface hub
      simp only [eqPlain, Bool.or_eq_true] at h
      rw [if_pos (by
        rw [Bool.or_eq_true]
        rcases h with h | h
        · left; cases x <;> simp_all
        · right; cases y <;> simp_all)]
      rfl
    · obtain ⟨c, rfl⟩ := ha.to_agg hua
      obtain ⟨d, rfl⟩ := hb.to_agg hub
      simp only [eqPlain, eqFree, Bool.not_eq_true'] at h
      simp [h]
    · rfl
  cases op <;> first | rfl | exact body

theorem ceq_known {d : Nat} {t : TypeId} {x y : Value} {r : Bool} (h : ceq P d t x y = some r) : isUnk x = false ∧ isUnk y = false := by
  cases d with
  | zero => simp [ceq] at h
  | succ d =>
    unfold ceq at h
    split at h <;> first | exact ⟨rfl, rfl⟩ | (simp at h; done)

theorem intOp_run {op : BinOp} {t : TypeId} {k : IntKind} {m n : Int} {v : Value} (h : intOp op k m n = some v) (hs : op ≠ .shl ∧ op ≠ .shr) (w : World) :
    (Go.binOp op t (.int k m) (.int k n)).run P w = .ok v w := by
  cases op <;> simp [intOp] at h <;> first
    | (subst h; simp [Go.binOp, Op.intArith, Op.intBits, Op.intCmp]; done)
    | (obtain ⟨h0, rfl⟩ := h; simp [Go.binOp, Op.intDiv, h0]; done)
    | (simp at hs; done)

theorem strOp_run {op : BinOp} {t : TypeId} {s u : ByteArray} {v : Value} (h : strOp op s u = some v) (w : World) :
    (Go.binOp op t (.string s) (.string u)).run P w = .ok v w := by
  cases op <;> simp [strOp] at h <;> first
    | (subst h; simp [Go.binOp, Op.stringOp]; done)
    | (obtain ⟨h0, rfl⟩ := h; simp [Go.binOp, Op.stringOp]; omega)

theorem shift_run {op : BinOp} {t : TypeId} {k k' : IntKind} {m n : Int} {v : Value} (h : shift op k m n = some v) (w : World) :
    (Go.binOp op t (.int k m) (.int k' n)).run P w = .ok v w := by
  unfold shift at h
  split at h
  · simp at h
  · rename_i hn
    cases op <;> simp at h <;> subst h <;> simp [Go.binOp, Op.shift, hn]

theorem cbin_run {op : BinOp} {t : TypeId} {x y : Operand} {a b a' b' : Value} {v : Value} (h : cbin P op t x y a b = some v) (ha : VRel σ a a') (hb : VRel σ b b') (w : World) :
    (do eqGuard op t x y a' b'; Go.binOp op t a' b' : Sem Value).run P w = .ok v w := by
  have plain : ∀ (r : Bool), ceq P Op.maxDepth t a b = some r → eqPlain P t x y a b = true → (op = .eql ∧ v = .bool r ∨ op = .neq ∧ v = .bool !r) →
      (∀ k m k' n, ¬ (a' = .int k m ∧ b' = .int k' n)) → (∀ s u, ¬ (a' = .string s ∧ b' = .string u)) → (∀ k m, a' ≠ .float k m) → (∀ k m n, a' ≠ .complex k m n) →
      (do eqGuard op t x y a' b'; Go.binOp op t a' b' : Sem Value).run P w = .ok v w := by
    intro r hr hp ho h1 h2 h3 h4
    obtain ⟨u1, u2⟩ := ceq_known hr
    have hg := eqGuard_run (op := op) ha hb u1 u2 hp w
    have he : (Op.equal t a' b').run P w = .ok r w := ceq_run w _ _ _ _ _ _ _ hr ha hb
    have hbin : (Go.binOp op t a' b').run P w = .ok v w := by
      rcases ho with ⟨rfl, rfl⟩ | ⟨rfl, rfl⟩
      · unfold Go.binOp
        split <;> first | (exfalso; first | exact h1 _ _ _ _ ⟨rfl, rfl⟩ | exact h2 _ _ ⟨rfl, rfl⟩ | exact h3 _ _ rfl | exact h4 _ _ _ rfl | (simp_all; done)) | (simp [he]; done) | simp_all
      · unfold Go.binOp
        split <;> first | (exfalso; first | exact h1 _ _ _ _ ⟨rfl, rfl⟩ | exact h2 _ _ ⟨rfl, rfl⟩ | exact h3 _ _ rfl | exact h4 _ _ _ rfl | (simp_all; done)) | (simp [he]; done) | simp_all
    simp [hg, hbin]
  unfold cbin at h
  split at h
  · rename_i k m k' n
    obtain rfl := ha.int_inv
    obtain rfl := hb.int_inv
    have hg := eqGuard_run (P := P) (t := t) (x := x) (y := y) (op := op) ha hb rfl rfl (by simp [eqPlain]) w
    split at h
    · simp [hg, shift_run h]
    · simp [hg, shift_run h]
    · rename_i h1 h2
      by_cases hk : k = k'
      · subst hk
        simp at h
        simp [hg, intOp_run h ⟨h1, h2⟩]
      · simp [hk] at h
  · obtain rfl := ha.string_inv
    obtain rfl := hb.string_inv
    have hg := eqGuard_run (P := P) (t := t) (x := x) (y := y) (op := op) ha hb rfl rfl (by simp [eqPlain]) w
    simp [hg, strOp_run h]
  · simp at h
  · simp at h
  · rename_i n3 n4 n1 n2
    have key : ∃ r, ceq P Op.maxDepth t a b = some r ∧ eqPlain P t x y a b = true ∧ (op = .eql ∧ v = .bool r ∨ op = .neq ∧ v = .bool !r) := by
      split at h
      · split at h
        · rename_i hp
          simp only [Option.map_eq_some_iff] at h
          obtain ⟨r, hr, rfl⟩ := h
          exact ⟨r, hr, hp, .inl ⟨rfl, rfl⟩⟩
        · simp at h
      · split at h
        · rename_i hp
          simp only [Option.map_eq_some_iff] at h
          obtain ⟨r, hr, rfl⟩ := h
          exact ⟨r, hr, hp, .inr ⟨rfl, rfl⟩⟩
        · simp at h
      · simp at h
    obtain ⟨r, hr, hp, ho⟩ := key
    obtain ⟨u1, u2⟩ := ceq_known hr
    refine plain r hr hp ho ?_ ?_ ?_ ?_
    · rintro k m k' n ⟨rfl, rfl⟩
      have e1 := ha.to_int u1
      have e2 := hb.to_int u2
      first | exact n1 _ _ _ _ e1 e2 | exact n2 _ _ _ _ e1 e2 | exact n3 _ _ _ _ e1 e2 | exact n4 _ _ _ _ e1 e2
    · rintro s u ⟨rfl, rfl⟩
      have e1 := ha.to_string u1
      have e2 := hb.to_string u2
      first | exact n1 _ _ e1 e2 | exact n2 _ _ e1 e2 | exact n3 _ _ e1 e2 | exact n4 _ _ e1 e2
    · rintro k m rfl
      have e1 := ha.to_float u1
      first | exact n1 _ _ e1 | exact n2 _ _ e1 | exact n3 _ _ e1 | exact n4 _ _ e1
    · rintro k m n rfl
      have e1 := ha.to_complex u1
      first | exact n1 _ _ _ e1 | exact n2 _ _ _ e1 | exact n3 _ _ _ e1 | exact n4 _ _ _ e1

theorem cun_run {op : UnOp} {a a' v : Value} (h : cun op a = some v) (ha : VRel σ a a') (w : World) : (Op.unary op a').run P w = .ok v w := by
  unfold cun at h
  split at h <;> first | (simp at h; done) | skip
  · obtain rfl := ha.int_inv; simp at h; subst h; simp [Op.unary, Op.intArith]
  · obtain rfl := ha.int_inv; simp at h; subst h; simp [Op.unary, Op.intBits]
  · obtain rfl := ha.bool_inv; simp at h; subst h; simp [Op.unary]
end
end Go.Cn

/- The canonical semantics: slicing, places, parts, aggregates: each answers in the model as here. -/
set_option linter.unusedVariables false
set_option linter.unusedSimpArgs false
namespace Go.Cn
section
variable {P : Program} {σ : Sg}

theorem add_plain (g j n : Nat) : (⟨g, j, none⟩ : Addr).add n = ⟨g, j + n, none⟩ := by unfold Addr.add; split <;> simp_all

/-! ### slicing -/
theorem bound_none (d most : Nat) : bound none d most = some d := rfl

theorem bound_some {v : Value} {d most n : Nat} (h : bound (some v) d most = some n) : ∃ k i, v = .int k i ∧ 0 ≤ i ∧ i ≤ (most : Int) ∧ n = i.toNat := by
  unfold bound at h
  split at h
  · rename_i hh; simp at hh
  · rename_i k i hh
    injection hh with hh
    split at h
    · rename_i hc; injection h with h; exact ⟨k, i, hh, hc.1, hc.2, h.symm⟩
    · simp at h
  · simp at h

theorem sliceBound_run {v v' : Value} {d most most' n : Nat} (h : bound (some v) d most = some n) (hv : VRel σ v v') (hm : most ≤ most') (code : BoundsCode) (w : World) :
    (Instr.sliceBound v' most' code).run P w = .ok n w ∧ n ≤ most := by
  obtain ⟨k, i, rfl, h0, h1, rfl⟩ := bound_some h
  obtain rfl := hv.int_inv
  have h2 : i ≤ (most' : Int) := by omega
  exact ⟨by simp [Instr.sliceBound, asIntOf, h0, h2], by omega⟩

/-- Values that may be missing. -/
def ORel (σ : Sg) : Option Value → Option Value → Prop
  | none, none => True
  | some x, some y => VRel σ x y
  | _, _ => False

theorem ev_opt {tm : List Value} {a : Act} (h : TRel σ tm a.tmps) (x : Option Operand) : ORel σ (x.map (ev tm)) (x.map a.eval) := by
  cases x with
  | none => trivial
  | some x => exact ev_rel h x

theorem sliceBounds_run {len c c' : Nat} {lo hi mx lo' hi' mx' : Option Value} {l h m : Nat} (hb : bounds len c lo hi mx = some (l, h, m)) (hlen : len ≤ c) (hc : c ≤ c')
    (hlo : ORel σ lo lo') (hhi : ORel σ hi hi') (hmx : ORel σ mx mx') (isSlice : Bool) (w : World) :
    (Instr.sliceBounds isSlice len c' lo' hi' mx').run P w = .ok (l, h, if mx.isSome then m else c') w ∧ l ≤ h ∧ h ≤ m ∧ m ≤ c ∧ (mx = none → m = c) := by
  unfold bounds at hb
  cases mx with
  | none =>
    cases mx' with
    | some _ => exact hmx.elim
    | none =>
      simp only [bound_none, Option.isSome_none, Bool.false_eq_true, if_false] at hb
      cases hi with
      | none =>
        cases hi' with
        | some _ => exact hhi.elim
        | none =>
          simp only [bound_none] at hb
          cases lo with
          | none =>
            cases lo' with
            | some _ => exact hlo.elim
            | none =>
              simp only [bound_none] at hb
              simp at hb
              obtain ⟨rfl, rfl, rfl⟩ := hb
              exact ⟨by simp [Instr.sliceBounds], by omega, hlen, Nat.le_refl _, fun _ => rfl⟩
          | some lv =>
            cases lo' with
            | none => exact hlo.elim
            | some lv' =>
              cases hl : bound (some lv) 0 len with
              | none => simp [hl] at hb
              | some n =>
                simp [hl] at hb
                obtain ⟨rfl, rfl, rfl⟩ := hb
                obtain ⟨r, hr⟩ := sliceBound_run (P := P) hl hlo (Nat.le_refl _) .sliceB w
                exact ⟨by simp [Instr.sliceBounds, r], hr, hlen, Nat.le_refl _, fun _ => rfl⟩
      | some hv =>
        cases hi' with
        | none => exact hhi.elim
        | some hv' =>
          cases hh : bound (some hv) len c with
          | none => simp [hh] at hb
          | some hn =>
            simp only [hh] at hb
            obtain ⟨rh, hhr⟩ := sliceBound_run (P := P) hh hhi hc (if isSlice then .sliceAcap else .sliceAlen) w
            cases lo with
            | none =>
              cases lo' with
              | some _ => exact hlo.elim
              | none =>
                simp [bound_none] at hb
                obtain ⟨rfl, rfl, rfl⟩ := hb
                exact ⟨by simp [Instr.sliceBounds, rh], by omega, hhr, Nat.le_refl _, fun _ => rfl⟩
            | some lv =>
              cases lo' with
              | none => exact hlo.elim
              | some lv' =>
                cases hl : bound (some lv) 0 hn with
                | none => simp [hl] at hb
                | some n =>
                  simp [hl] at hb
                  obtain ⟨rfl, rfl, rfl⟩ := hb
                  obtain ⟨r, hr⟩ := sliceBound_run (P := P) hl hlo (Nat.le_refl _) .sliceB w
                  exact ⟨by simp [Instr.sliceBounds, rh, r], hr, hhr, Nat.le_refl _, fun _ => rfl⟩
  | some mv =>
    cases mx' with
    | none => exact hmx.elim
    | some mv' =>
      cases hmm : bound (some mv) c c with
      | none => simp [hmm] at hb
      | some mn =>
        simp only [hmm, Option.isSome_some, if_true] at hb
        obtain ⟨rm, hmr⟩ := sliceBound_run (P := P) hmm hmx hc (if isSlice then .slice3Acap else .slice3Alen) w
        cases hi with
        | none => simp at hb
        | some hv =>
          cases hi' with
          | none => exact hhi.elim
          | some hv' =>
            simp only at hb
            cases hh : bound (some hv) len mn with
            | none => simp [hh] at hb
            | some hn =>
              simp only [hh] at hb
              obtain ⟨rh, hhr⟩ := sliceBound_run (P := P) hh hhi (Nat.le_refl _) .slice3B w
              cases lo with
              | none =>
                cases lo' with
                | some _ => exact hlo.elim
                | none =>
                  simp [bound_none] at hb
                  obtain ⟨rfl, rfl, rfl⟩ := hb
                  exact ⟨by simp [Instr.sliceBounds, rm, rh], by omega, hhr, hmr, by simp⟩
              | some lv =>
                cases lo' with
                | none => exact hlo.elim
                | some lv' =>
                  cases hl : bound (some lv) 0 hn with
                  | none => simp [hl] at hb
                  | some n =>
                    simp [hl] at hb
                    obtain ⟨rfl, rfl, rfl⟩ := hb
                    obtain ⟨r, hr⟩ := sliceBound_run (P := P) hl hlo (Nat.le_refl _) .slice3C w
                    exact ⟨by simp [Instr.sliceBounds, rm, rh, r], hr, hhr, hmr, by simp⟩

theorem cslice_run {t : TypeId} {x x' : Value} {lo hi mx lo' hi' mx' : Option Value} {v : Value} (h : cslice P t x lo hi mx = some v) (hx : VRel σ x x')
    (hlo : ORel σ lo lo') (hhi : ORel σ hi hi') (hmx : ORel σ mx mx') (w : World) : ∃ v', (Instr.sliceAt t x' lo' hi' mx').run P w = .ok v' w ∧ VRel σ v v' := by
  unfold cslice at h
  split at h
  · rename_i s hu
    obtain rfl := hx.string_inv
    cases mx with
    | some _ => simp at h
    | none =>
      cases mx' with
      | some _ => exact hmx.elim
      | none =>
        simp only at h
        split at h
        · rename_i l hh m hb
          simp at h; subst h
          obtain ⟨r, _⟩ := sliceBounds_run (P := P) hb (Nat.le_refl _) (Nat.le_refl _) hlo hhi (show ORel σ none none from trivial) false w
          exact ⟨_, by simp [Instr.sliceAt, Instr.slice, run_underlying hu, r], .string _⟩
        · simp at h
  · rename_i el len c hu
    obtain ⟨rfl, rfl, rfl⟩ := hx.snil_inv
    split at h
    · rename_i l hh m n hb hs
      simp at h; subst h
      obtain ⟨r, h1, h2, h3, h4⟩ := sliceBounds_run (P := P) hb (Nat.le_refl _) (Nat.le_refl _) hlo hhi hmx true w
      have e1 : m = 0 := by omega
      have e2 : hh = 0 := by omega
      have e3 : l = 0 := by omega
      subst e1; subst e2; subst e3
      refine ⟨.slice none 0 0, ?_, .snil⟩
      simp [Instr.sliceAt, Instr.slice, run_underlying hu, r, run_size hs]
    · simp at h
  · rename_i el b o sp len c hu
    obtain ⟨a', c', e, rfl, he, hl, hc, ha, hx'⟩ := hx.slice_inv
    simp only at he ha hx'
    split at h
    · rename_i l hh m n hb hs
      obtain ⟨r, h1, h2, h3, h4⟩ := sliceBounds_run (P := P) hb hl hc hlo hhi hmx true w
      have hadd : c' ≠ 0 → a'.add (l * n) = ⟨e.rb, e.ro + (o + l * n), none⟩ := by
        intro h0
        rcases ha with h0' | rfl
        · exact absurd h0' h0
        · rw [add_plain]; simp [Nat.add_assoc]
      by_cases hm : mx.isSome = true
      · simp only [hm, if_true] at h r
        simp at h; subst h
        refine ⟨.slice (some (if m = l then a' else a'.add (l * n))) (hh - l) (m - l), ?_, .sexact b (o + l * n) (hh - l) (m - l) e _ he (by omega) ?_⟩
        · by_cases hml : m = l <;> simp [Instr.sliceAt, Instr.slice, run_underlying hu, r, run_size hs, hml]
        · by_cases hml : m = l
          · left; omega
          · right; rw [if_neg hml]; exact hadd (by omega)
      · simp only [hm, if_false, Bool.false_eq_true] at h r
        have hmn : m = c := h4 (by cases mx <;> simp_all)
        subst hmn
        split at h
        · rename_i hsp
          simp at h; subst h
          refine ⟨.slice (some (if c' = l then a' else a'.add (l * n))) (hh - l) (c' - l), ?_, ?_⟩
          · by_cases hml : c' = l
            · subst hml; simp [Instr.sliceAt, Instr.slice, run_underlying hu, r, run_size hs]
            · simp [Instr.sliceAt, Instr.slice, run_underlying hu, r, run_size hs, hml]
          · rcases hx' with ⟨hs1, hcc⟩ | ⟨k, hs1, hk⟩
            · subst hcc
              rw [hs1]
              refine .sexact b (o + l * n) (hh - l) (m - l) e _ he (by omega) ?_
              by_cases hml : m = l
              · left; omega
              · right; rw [if_neg hml]; exact hadd (by omega)
            · rcases hsp with hsp | hsp
              · rw [hs1] at hsp; simp at hsp
              · rw [hs1] at hsp; simp at hsp; subst hsp
                rw [hs1]
                refine .sopen b (o + l * k) k (hh - l) (m - l) (c' - l) e _ he (by omega) (by omega) ?_
                by_cases hml : c' = l
                · left; omega
                · right; rw [if_neg hml]
                  refine ⟨hadd (by omega), ?_⟩
                  have hb : e.ro + o + c' * k ≤ e.rs := by rcases hk with hk | hk <;> first | omega | exact hk
                  have : l * k + (c' - l) * k = c' * k := by rw [← Nat.add_mul]; congr 1; omega
                  omega
        · simp at h
    · simp at h
  · rename_i len el b o hu
    obtain ⟨_, e, he, rfl⟩ := hx.ptr_inv
    split at h
    · rename_i l hh m n hb hs
      simp at h; subst h
      obtain ⟨r, h1, h2, h3, h4⟩ := sliceBounds_run (P := P) hb (Nat.le_refl _) (Nat.le_refl _) hlo hhi hmx false w
      have hr : (if mx.isSome = true then m else len) = m := by
        cases mx with
        | none => simp [h4 rfl]
        | some _ => simp
      rw [hr] at r
      refine ⟨.slice (some (if m = l then ⟨e.rb, e.ro + o, none⟩ else (⟨e.rb, e.ro + o, none⟩ : Addr).add (l * n))) (hh - l) (m - l), ?_, .sexact b (o + l * n) (hh - l) (m - l) e _ he (by omega) ?_⟩
      · simp [Instr.sliceAt, run_underlying hu, r, run_size hs, Instr.sureAddr]
      · by_cases hml : m = l
        · left; omega
        · right; rw [if_neg hml, add_plain]; simp [Nat.add_assoc]
    · simp at h
  · simp at h

/-! ### places -/
theorem fieldPlace_run {e : En} {o n : Nat} {f : Field} (hs : size? P f.type = some n) (hn : n ≠ 0) (w : World) :
    (fieldPlace ⟨e.rb, e.ro + o, none⟩ f).run P w = .ok ⟨e.rb, e.ro + (o + f.offset), none⟩ w := by
  simp [fieldPlace, run_size hs, hn, add_plain, Nat.add_assoc]

theorem cfieldAddr_run {s : TypeId} {x x' : Value} {f : Nat} {v : Value} (h : cfieldAddr P s x f = some v) (hx : VRel σ x x') (w : World) :
    ∃ v', (Instr.fieldAt s x' f).run P w = .ok v' w ∧ VRel σ v v' := by
  unfold cfieldAddr at h
  split at h
  · rename_i fs b o hu
    obtain ⟨_, e, he, rfl⟩ := hx.ptr_inv
    cases hf : fs[f]? with
    | none => simp [hf] at h
    | some fd =>
      simp only [hf] at h
      cases hs : size? P fd.type with
      | none => simp [hs] at h
      | some n =>
        simp only [hs] at h
        by_cases hn : n = 0
        · simp [hn] at h
        · simp [hn, ptr] at h; subst h
          exact ⟨_, by simp [Instr.fieldAt, run_underlying hu, hf, Instr.sureAddr, fieldPlace_run hs hn], .ptr b (o + fd.offset) e he⟩
  · simp at h

theorem cindexAddr_run {t : TypeId} {x x' ix ix' : Value} {v : Value} (h : cindexAddr P t x ix = some v) (hx : VRel σ x x') (hi : VRel σ ix ix') (w : World) :
    ∃ v', (Instr.indexAt t x' ix').run P w = .ok v' w ∧ VRel σ v v' := by
  unfold cindexAddr at h
  split at h
  · rename_i k i
    obtain rfl := hi.int_inv
    split at h
    · rename_i len el b o hu
      obtain ⟨_, e, he, rfl⟩ := hx.ptr_inv
      by_cases hc : 0 ≤ i ∧ i < (len : Int)
      · rw [if_pos hc] at h
        cases hs : size? P el with
        | none => simp [hs] at h
        | some n =>
          simp [hs, ptr] at h; subst h
          refine ⟨.pointer (some ⟨e.rb, e.ro + (o + i.toNat * n), none⟩), ?_, .ptr b (o + i.toNat * n) e he⟩
          simp [Instr.indexAt, asIntOf, run_underlying hu, Instr.sureAddr, hc, run_size hs, add_plain, Nat.add_assoc]
      · simp [hc] at h
    · rename_i el b o sp len c hu
      obtain ⟨a', c', e, rfl, he, hl, hcc, ha, _⟩ := hx.slice_inv
      simp only at he ha
      by_cases hc : 0 ≤ i ∧ i < (len : Int)
      · rw [if_pos hc] at h
        cases hs : size? P el with
        | none => simp [hs] at h
        | some n =>
          simp [hs, ptr] at h; subst h
          have ha' : a' = ⟨e.rb, e.ro + o, none⟩ := by rcases ha with h0 | h0 <;> first | omega | exact h0
          subst ha'
          refine ⟨.pointer (some ⟨e.rb, e.ro + (o + i.toNat * n), none⟩), ?_, .ptr b (o + i.toNat * n) e he⟩
          simp [Instr.indexAt, asIntOf, run_underlying hu, hc, run_size hs, add_plain, Nat.add_assoc]
      · simp [hc] at h
    · simp at h
  · simp at h

/-! ### parts -/
theorem cfield_run {t : TypeId} {x x' : Value} {f : Nat} {v : Value} (h : cfield P t x f = some v) (hx : VRel σ x x') (w : World) :
    ∃ v', (Instr.field t x' f).run P w = .ok v' w ∧ VRel σ v v' := by
  unfold cfield at h
  split at h
  · rename_i fs cs hu
    obtain ⟨cs', rfl, ha⟩ := hx.agg_inv
    cases hf : fs[f]? with
    | none => simp [hf] at h
    | some fd =>
      simp only [hf] at h
      obtain ⟨v', hr, hv⟩ := part_rel h ha w
      exact ⟨v', by simp [Instr.field, run_underlying hu, hf, asAgg, hr], hv⟩
  · simp at h

theorem cindex_run {t : TypeId} {x x' ix ix' : Value} {v : Value} (h : cindex P t x ix = some v) (hx : VRel σ x x') (hi : VRel σ ix ix') (w : World) :
    ∃ v', (Instr.index t x' ix').run P w = .ok v' w ∧ VRel σ v v' := by
  unfold cindex at h
  split at h
  · rename_i k i
    obtain rfl := hi.int_inv
    split at h
    · rename_i len el cs hu
      obtain ⟨cs', rfl, ha⟩ := hx.agg_inv
      by_cases hc : 0 ≤ i ∧ i < (len : Int)
      · rw [if_pos hc] at h
        cases hs : size? P el with
        | none => simp [hs] at h
        | some n =>
          simp only [hs] at h
          obtain ⟨v', hr, hv⟩ := part_rel h ha w
          exact ⟨v', by simp [Instr.index, asIntOf, run_underlying hu, hc, run_size hs, hr], hv⟩
      · simp [hc] at h
    · rename_i s hu
      obtain rfl := hx.string_inv
      by_cases hc : 0 ≤ i
      · rw [if_pos hc] at h
        cases hs : s[i.toNat]? with
        | none => simp [hs] at h
        | some b =>
          simp [hs] at h; subst h
          exact ⟨_, by simp [Instr.index, asIntOf, run_underlying hu, hc, hs], .int _ _⟩
      · simp [hc] at h
    · simp at h
  · simp at h

/-! ### lengths, conversions -/
theorem clen_run {t : TypeId} {x x' v : Value} (h : clen P t x = some v) (hx : VRel σ x x') {ts : Array TypeId} {as : Array Value} {ty : TypeId} (ht : ts[0]? = some t) (ha : as[0]? = some x') (w : World) :
    (Builtin.len_ ts ty as).run P w = .ok v w := by
  have e1 : (ts[0]?, as[0]?) = (some t, some x') := by rw [ht, ha]
  unfold clen at h
  split at h
  · rename_i s hu; obtain rfl := hx.string_inv; simp at h; subst h; simp [Builtin.len_, ht, ha, run_underlying hu, goInt]
  · rename_i n el hu; simp at h; subst h; simp [Builtin.len_, ht, ha, run_underlying hu, goInt]
  · rename_i el a n c hu
    simp at h; subst h
    cases a with
    | none => obtain ⟨rfl, rfl, rfl⟩ := hx.snil_inv; simp [Builtin.len_, ht, ha, run_underlying hu, goInt]
    | some a => obtain ⟨a', c', e, rfl, _⟩ := hx.slice_inv; simp [Builtin.len_, ht, ha, run_underlying hu, goInt]
  · rename_i k el hu; obtain rfl := hx.mnil_inv; simp at h; subst h; simp [Builtin.len_, ht, ha, run_underlying hu, goInt]
  · rename_i arr hu
    split at h
    · rename_i n el hu2; simp at h; subst h; simp [Builtin.len_, ht, ha, run_underlying hu, run_underlying hu2, goInt]
    · simp at h
  · simp at h

theorem ccap_run {t : TypeId} {x x' v : Value} (h : ccap P t x = some v) (hx : VRel σ x x') {ts : Array TypeId} {as : Array Value} {ty : TypeId} (ht : ts[0]? = some t) (ha : as[0]? = some x') (w : World) :
    (Builtin.cap_ ts ty as).run P w = .ok v w := by
  unfold ccap at h
  split at h
  · rename_i el hu
    simp at h; subst h
    obtain ⟨_, _, rfl⟩ := hx.snil_inv
    simp [Builtin.cap_, ht, ha, run_underlying hu, goInt]
  · rename_i el b o l c hu
    simp at h; subst h
    cases hx with
    | sexact b o l c e a hb hl hc => simp [Builtin.cap_, ht, ha, run_underlying hu, goInt]
  · simp at h

theorem cconv_run {src dst : TypeId} {x x' v : Value} (h : cconv P src dst x = some v) (hx : VRel σ x x') (w : World) : (convert src dst x').run P w = .ok v w := by
  unfold cconv at h
  split at h
  · rename_i d k k' n hu1 hu2
    obtain rfl := hx.int_inv
    simp at h; subst h
    simp [convert, run_underlying hu1, run_underlying hu2, Conv.intToInt]
  · rename_i d s hu1 hu2
    obtain rfl := hx.string_inv
    simp at h; subst h
    simp [convert, run_underlying hu1, run_underlying hu2]
  · simp at h

theorem cmax_run {x y x' y' v : Value} (h : cmax x y = some v) (hx : VRel σ x x') (hy : VRel σ y y') (w : World) : (Builtin.max2 x' y').run P w = .ok v w := by
  unfold cmax at h
  split at h
  · obtain rfl := hx.int_inv; obtain rfl := hy.int_inv
    split at h
    · rename_i k a k' b hk
      subst hk
      simp at h; subst h
      simp only [Builtin.max2, Sem.run_pure]
      by_cases hab : a ≥ b
      · rw [if_pos hab, if_neg (by omega)]
      · rw [if_neg hab, if_pos (by omega)]
    · simp at h
  · simp at h

theorem cmin_run {x y x' y' v : Value} (h : cmin x y = some v) (hx : VRel σ x x') (hy : VRel σ y y') (w : World) : (Builtin.min2 x' y').run P w = .ok v w := by
  unfold cmin at h
  split at h
  · obtain rfl := hx.int_inv; obtain rfl := hy.int_inv
    split at h
    · rename_i k a k' b hk
      subst hk
      simp at h; subst h
      simp only [Builtin.min2, Sem.run_pure]
      by_cases hab : a ≤ b
      · rw [if_pos hab]; first | rw [if_neg (by omega)] | rw [if_pos (by omega)] | skip
      · rw [if_neg hab]; first | rw [if_pos (by omega)] | rw [if_neg (by omega)] | skip
    · simp at h
  · simp at h
end
end Go.Cn

/- The canonical semantics: aggregates that are built; the law of all operations that look at their operands alone. -/
set_option linter.unusedVariables false
set_option linter.unusedSimpArgs false
namespace Go.Cn
section
variable {P : Program} {σ : Sg}

theorem splice_length {cs vs : List Value} {o : Nat} (h : o + vs.length ≤ cs.length) : (splice cs o vs).length = cs.length := by
  simp [splice]; omega

theorem splice_get {cs vs : List Value} {o : Nat} (h : o + vs.length ≤ cs.length) (i : Nat) :
    (splice cs o vs)[i]? = if o ≤ i ∧ i < o + vs.length then vs[i - o]? else cs[i]? := by
  unfold splice
  by_cases h1 : i < o
  · rw [if_neg (by omega), List.append_assoc, List.getElem?_append_left (by simp; omega), List.getElem?_take, if_pos h1]
  · by_cases h2 : i < o + vs.length
    · rw [if_pos ⟨by omega, h2⟩, List.getElem?_append_left (by simp; omega), List.getElem?_append_right (by simp; omega)]
      congr 1; simp; omega
    · rw [if_neg (by omega), List.getElem?_append_right (by simp; omega), List.getElem?_drop]
      congr 1; simp; omega

theorem LRel.splice {cs cs' vs vs' : List Value} {o : Nat} (h : LRel σ cs cs') (hv : LRel σ vs vs') : LRel σ (splice cs o vs) (splice cs' o vs') := by
  unfold Cn.splice
  rw [← hv.1]
  exact ((h.take o).append hv).append (h.drop _)

theorem foldl_set (off : Nat) : ∀ (vs : List Value) (k : Nat) (cells : Array Value), off + k + vs.length ≤ cells.size →
    ((vs.zipIdx k).foldl (fun cs (p : Value × Nat) => cs.setIfInBounds (off + p.2) p.1) cells).toList = Cn.splice cells.toList (off + k) vs
  | [], k, cells, h => by simp [Cn.splice]
  | v :: vs, k, cells, h => by
    simp only [List.length_cons] at h
    simp only [List.zipIdx_cons, List.foldl_cons]
    rw [foldl_set off vs (k + 1) (cells.setIfInBounds (off + k) v) (by simp; omega)]
    apply List.ext_getElem?
    intro i
    rw [splice_get (by simp; omega), splice_get (by simp; omega)]
    simp only [List.length_cons]
    by_cases h1 : i = off + k
    · subst h1
      rw [if_neg (by omega), if_pos (by omega)]
      simp [show off + k < cells.size by omega]
    · by_cases h2 : off + k ≤ i ∧ i < off + k + (vs.length + 1)
      · rw [if_pos (by omega), if_pos h2, show i - (off + k) = (i - (off + (k + 1))) + 1 by omega, List.getElem?_cons_succ]
      · rw [if_neg (by omega), if_neg h2]
        simp [Array.toList_setIfInBounds, List.getElem?_set_ne (Ne.symm h1)]

/-- Parts that are alike. -/
def PRel (σ : Sg) : List (Nat × Value) → List (Nat × Value) → Prop
  | [], [] => True
  | (i, x) :: l, (j, y) :: m => i = j ∧ VRel σ x y ∧ PRel σ l m
  | _, _ => False

theorem fill_rel {place : Nat → Option (Nat × Nat)} : ∀ {parts parts' : List (Nat × Value)} {cells : List Value} {cells' : Array Value} {l : List Value},
    fillL place cells parts = some l → LRel σ cells cells'.toList → PRel σ parts parts' → ∃ l', Instr.fill place cells' parts' = some l' ∧ LRel σ l l'.toList
  | [], [], cells, cells', l, h, hc, _ => by simp [fillL] at h; subst h; exact ⟨cells', rfl, hc⟩
  | (i, x) :: ps, (j, y) :: qs, cells, cells', l, h, hc, hp => by
    obtain ⟨rfl, hxy, hp⟩ := hp
    simp only [fillL] at h
    cases hpl : place i with
    | none => simp [hpl] at h
    | some os =>
      obtain ⟨off, size⟩ := os
      simp only [hpl] at h
      split at h
      · simp at h
      · rename_i hcond
        simp only [Bool.or_eq_true, decide_eq_true_eq, not_or, ne_eq, Bool.not_eq_true] at hcond
        obtain ⟨⟨hu, hsz⟩, hle⟩ := hcond
        have hcells := hxy.cells hu
        have hsz' : x.cells.size = size := by simpa using hsz
        have hys : y.cells.size = x.cells.size := by simpa using hcells.1.symm
        have hlen : cells.length = cells'.size := by simpa using hc.1
        obtain ⟨l', h1, h2⟩ := fill_rel (cells' := y.cells.zipIdx.foldl (fun cs (p : Value × Nat) => cs.setIfInBounds (off + p.2) p.1) cells') h (by
          rw [← Array.foldl_toList, Array.toList_zipIdx, foldl_set off y.cells.toList 0 cells' (by simp; omega)]
          exact LRel.splice hc hcells) hp
        refine ⟨l', ?_, h2⟩
        simp only [Instr.fill, hpl]
        rw [if_neg (by simp; omega)]
        exact h1
  | [], _ :: _, _, _, _, _, _, hp => hp.elim
  | _ :: _, [], _, _, _, _, _, hp => hp.elim

theorem ev_parts {tm : List Value} {a : Act} (h : TRel σ tm a.tmps) : ∀ (ps : List (Nat × Operand)), PRel σ (ps.map fun (i, x) => (i, ev tm x)) (ps.map fun (i, x) => (i, a.eval x))
  | [] => trivial
  | (i, x) :: ps => ⟨rfl, ev_rel h x, ev_parts h ps⟩

theorem places_run (w : World) : ∀ (fs : List Field) (l : List (Nat × Nat)), fs.mapM (fun f => (size? P f.type).map fun n => (f.offset, n)) = some l →
    (fs.mapM (fun f => do pure (f.offset, ← sizeOf f.type) : Field → Sem (Nat × Nat))).run P w = .ok l w
  | [], l, h => by simp at h; subst h; simp
  | f :: fs, l, h => by
    rw [List.mapM_cons] at h
    simp only [bind, Option.bind_eq_some_iff, pure, Option.some.injEq, Option.map_eq_some_iff] at h
    obtain ⟨p, ⟨n, hn, rfl⟩, l', hl', rfl⟩ := h
    have ih := places_run w fs l' hl'
    simp [List.mapM_cons, run_size hn]
    simp at ih
    simp [ih]

/-- A zero value is plain: no hypothesis on it is owed. -/
def zeroOk (z : Value) : Bool := plainV 100 z

theorem zero_rel {z : Value} (h : zeroOk z = true) : LRel σ z.cells.toList z.cells.toList := by
  have hv := plainV_rel σ 100 z h
  refine hv.cells ?_
  cases z <;> first | rfl | skip
  rename_i vs
  simp only [zeroOk, plainV, Bool.and_eq_true] at h
  simpa [isUnk] using h.1

theorem cbuild_run {t : TypeId} {parts : List (Nat × Value)} {parts' : Array (Nat × Value)} {v : Value} (h : cbuild P t parts = some v) (hp : PRel σ parts parts'.toList) (w : World) :
    ∃ v', (Instr.build t parts').run P w = .ok v' w ∧ VRel σ v v' := by
  unfold cbuild at h
  cases hz : zero? P t with
  | none => simp [hz] at h
  | some z =>
    simp only [hz] at h
    split at h
    · simp at h
    · rename_i hzo
      have hzr : LRel σ z.cells.toList z.cells.toList := zero_rel (by simpa [zeroOk] using hzo)
      split at h
      · rename_i fs hu
        split at h
        · rename_i places hpl
          simp only [Option.map_eq_some_iff] at h
          obtain ⟨l, hl, rfl⟩ := h
          obtain ⟨l', h1, h2⟩ := fill_rel hl hzr hp
          have hrun := places_run (P := P) w fs.toList places hpl
          refine ⟨.agg l', ?_, ?_⟩
          · simp only [Instr.build, Sem.run_bind, run_zero hz, Result.andThen_ok, run_underlying hu, Array.mapM_eq_mapM_toList, Sem.run_map, hrun]
            have e : (fun x : Nat => (places.toArray)[x]?) = fun x => places[x]? := by funext x; simp
            simp [e, h1]
          · have := h2.to_agg; simpa using this
        · simp at h
      · rename_i n el hu
        cases hs : size? P el with
        | none => simp [hs] at h
        | some n =>
          simp only [hs, Option.map_eq_some_iff] at h
          obtain ⟨l, hl, rfl⟩ := h
          obtain ⟨l', h1, h2⟩ := fill_rel hl hzr hp
          refine ⟨.agg l', ?_, ?_⟩
          · simp [Instr.build, run_zero hz, run_underlying hu, run_size hs, h1]
          · have := h2.to_agg; simpa using this
      · simp at h

/-- ALL OPERATIONS THAT LOOK AT THEIR OPERANDS ALONE. -/
theorem pop_run {tm : List Value} {a : Act} (ht : TRel σ tm a.tmps) (o : Oper) {v : Value} (h : pop P tm o.op = some v) (w : World) :
    ∃ v', (execOp a.eval o).run P w = .ok (.value v') w ∧ VRel σ v v' := by
  obtain ⟨dst, op, ty, pos, after, guard⟩ := o
  have ev := fun x => ev_rel ht x
  unfold pop at h
  simp only at h
  split at h
  · rename_i x; simp at h; subst h; exact ⟨_, by simp [execOp], ev x⟩
  · rename_i x; simp at h; subst h; exact ⟨_, by simp [execOp], ev x⟩
  · rename_i c x y
    have hc := ev c
    split at h
    · rename_i e; rw [e] at hc; simp at h; subst h; exact ⟨_, by simp [execOp, hc.bool_inv, asBool], ev x⟩
    · rename_i e; rw [e] at hc; simp at h; subst h; exact ⟨_, by simp [execOp, hc.bool_inv, asBool], ev y⟩
    · simp at h
  · rename_i x
    have hx := ev x
    split at h
    · rename_i p e; rw [e] at hx; simp at h; subst h
      obtain ⟨b, o, s⟩ := p
      obtain ⟨rfl, en, he, e2⟩ := hx.ptr_inv
      exact ⟨_, by simp [execOp, e2], .ptr b o en he⟩
    · rename_i t u e; rw [e] at hx; simp at h; subst h
      obtain ⟨u', e2, hu⟩ := hx.iface_inv
      exact ⟨_, by simp [execOp, e2], .iface t u u' hu⟩
    · rename_i f p q e; rw [e] at hx; simp at h; subst h
      obtain ⟨p', q', e2, h1, h2⟩ := hx.func_inv rfl
      exact ⟨_, by simp [execOp, e2], .func _ _ _ _ _ rfl h1.1 h2.1 h1.2 h2.2⟩
    · simp at h
  · rename_i op t x y yt
    have := cbin_run h (ev x) (ev y) w
    refine ⟨v, ?_, ?_⟩
    · simp at this
      simp only [execOp, Sem.run_bind, Sem.run_pure]
      generalize Sem.run P (eqGuard op t x y (a.eval x) (a.eval y)) w = r at this
      cases r with
      | ok u w1 => simp at this; simp [this]
      | halt e w1 => simp at this
    · have known : ∀ {b : Bool}, VRel σ (.bool b) (.bool b) := .bool _
      unfold cbin at h
      split at h
      · split at h
        · unfold shift at h; split at h <;> simp at h; subst h; exact .int _ _
        · unfold shift at h; split at h <;> simp at h; subst h; exact .int _ _
        · split at h
          · unfold intOp at h; split at h <;> simp at h <;> first | (subst h; constructor; done) | (obtain ⟨_, rfl⟩ := h; constructor)
          · simp at h
      · unfold strOp at h; split at h <;> simp at h <;> first | (subst h; constructor; done) | (obtain ⟨_, rfl⟩ := h; constructor)
      · simp at h
      · simp at h
      · split at h
        · split at h
          · simp only [Option.map_eq_some_iff] at h; obtain ⟨r, _, rfl⟩ := h; exact .bool _
          · simp at h
        · split at h
          · simp only [Option.map_eq_some_iff] at h; obtain ⟨r, _, rfl⟩ := h; exact .bool _
          · simp at h
        · simp at h
  · rename_i op t x
    refine ⟨v, by simp [execOp, cun_run h (ev x) w], ?_⟩
    unfold cun at h
    split at h <;> simp at h <;> subst h <;> constructor
  · rename_i s d x
    refine ⟨v, by simp [execOp, cconv_run h (ev x) w], ?_⟩
    unfold cconv at h
    split at h <;> simp at h <;> subst h <;> constructor
  · rename_i t x
    split at h
    · simp at h
    · simp at h
    · rename_i d hd hu
      simp at h; subst h
      refine ⟨.iface t (a.eval x), ?_, .iface _ _ _ (ev x)⟩
      simp only [execOp, Instr.makeInterface, Sem.run_bind, run_underlying hu, Result.andThen_ok]
      cases d <;> first | rfl | (exact absurd rfl (hd _))
  · rename_i fn first captured
    split at h
    · simp at h
    rename_i hf
    simp at h; subst h
    have h1 := ev_map ht first
    have h2 := ev_map ht captured
    exact ⟨_, by simp [execOp, Instr.makeFunc], .func _ _ _ _ _ (by simpa using hf) h1.1 h2.1 h1.2 h2.2⟩
  · rename_i t x lo hi mx
    obtain ⟨v', hr, hv⟩ := cslice_run h (ev x) (ev_opt ht lo) (ev_opt ht hi) (ev_opt ht mx) w
    exact ⟨v', by simp [execOp, hr], hv⟩
  · rename_i s x f
    obtain ⟨v', hr, hv⟩ := cfieldAddr_run h (ev x) w
    exact ⟨v', by simp [execOp, hr], hv⟩
  · rename_i t x f
    obtain ⟨v', hr, hv⟩ := cfield_run h (ev x) w
    exact ⟨v', by simp [execOp, hr], hv⟩
  · rename_i t x ix
    obtain ⟨v', hr, hv⟩ := cindexAddr_run h (ev x) (ev ix) w
    exact ⟨v', by simp [execOp, hr], hv⟩
  · rename_i t x ix
    obtain ⟨v', hr, hv⟩ := cindex_run h (ev x) (ev ix) w
    exact ⟨v', by simp [execOp, hr], hv⟩
  · rename_i t parts
    obtain ⟨v', hr, hv⟩ := cbuild_run (parts' := parts.map fun (i, x) => (i, a.eval x)) h (by simpa using ev_parts ht parts.toList) w
    exact ⟨v', by simp [execOp, hr], hv⟩
  · rename_i x i
    have hx := ev x
    split at h
    · rename_i vs e
      rw [e] at hx
      split at h
      · rename_i h1
        split at h
        · rename_i b hb
          split at h
          · rename_i h0
            subst h0
            simp at h; subst h
            have hvs : vs = #[.bool b] := by
              apply Array.ext_getElem?
              intro j
              cases j with
              | zero => simp [hb]
              | succ j => simp [h1]
            subst hvs
            exact ⟨_, by simp [execOp, Instr.extract, hx.one_inv], .bool b⟩
          · simp at h
        · simp at h
      · rename_i h1
        obtain ⟨vs', e2, hr⟩ := hx.tuple_inv h1
        obtain ⟨y, hy, hv⟩ := hr.get h
        exact ⟨y, by simp [execOp, Instr.extract, e2, hy], hv⟩
    · simp at h
  · rename_i args ats
    split at h
    · rename_i t ts x xs e1 e2
      have ht0 : ats[0]? = some t := by rw [← Array.getElem?_toList, e1]; rfl
      have hx0 : (args.map a.eval)[0]? = some (a.eval x) := by rw [Array.getElem?_map, ← Array.getElem?_toList, e2]; rfl
      refine ⟨v, ?_, ?_⟩
      · simp [execOp, resolve, invoke, builtin, clen_run h (ev x) ht0 hx0 w]
      · unfold clen at h
        split at h <;> first | (simp at h; subst h; constructor; done) | (split at h <;> simp at h; subst h; constructor) | simp at h
    · simp at h
  · rename_i args ats
    split at h
    · rename_i t ts x xs e1 e2
      have ht0 : ats[0]? = some t := by rw [← Array.getElem?_toList, e1]; rfl
      have hx0 : (args.map a.eval)[0]? = some (a.eval x) := by rw [Array.getElem?_map, ← Array.getElem?_toList, e2]; rfl
      refine ⟨v, ?_, ?_⟩
      · simp [execOp, resolve, invoke, builtin, ccap_run h (ev x) ht0 hx0 w]
      · unfold ccap at h
        split at h <;> first | (simp at h; subst h; constructor; done) | simp at h
    · simp at h
  · rename_i args ats
    split at h
    · rename_i x y e
      have he : (args.map a.eval).toList = [a.eval x, a.eval y] := by simp [e]
      refine ⟨v, ?_, ?_⟩
      · simp only [execOp, resolve, invoke, builtin, Builtin.max_, Sem.run_bind, Sem.run_pure, Result.andThen_ok, he, List.foldlM_cons, List.foldlM_nil, cmax_run h (ev x) (ev y) w]
      · unfold cmax at h
        split at h <;> first | (split at h <;> simp at h; subst h; constructor) | simp at h
    · simp at h
  · rename_i args ats
    split at h
    · rename_i x y e
      have he : (args.map a.eval).toList = [a.eval x, a.eval y] := by simp [e]
      refine ⟨v, ?_, ?_⟩
      · simp only [execOp, resolve, invoke, builtin, Builtin.min_, Sem.run_bind, Sem.run_pure, Result.andThen_ok, he, List.foldlM_cons, List.foldlM_nil, cmin_run h (ev x) (ev y) w]
      · unfold cmin at h
        split at h <;> first | (split at h <;> simp at h; subst h; constructor) | simp at h
    · simp at h
  · rename_i arr x
    have hx := ev x
    split at h
    · rename_i n el b o sp l c hu he
      rw [he] at hx
      split at h
      · rename_i hn
        simp at h; subst h
        obtain ⟨a', c', e, e2, hb, hlc, hcc, ha, _⟩ := hx.slice_inv
        simp only at hb ha
        have ha' : a' = ⟨e.rb, e.ro + o, none⟩ := by
          rcases ha with h0 | h0
          · omega
          · exact h0
        subst ha'
        refine ⟨.pointer (some ⟨e.rb, e.ro + o, none⟩), ?_, .ptr b o e hb⟩
        have : ¬ l < n := by omega
        simp [execOp, Instr.arrayAt, e2, run_underlying hu, this]
      · simp at h
    · simp at h
  · rename_i x xt as ok
    have hx := ev x
    split at h
    · simp at h
    · rename_i d t v hne hu he
      rw [he] at hx
      split at h
      · rename_i ht
        subst ht
        simp at h; subst h
        obtain ⟨v', e2, hv⟩ := hx.iface_inv
        cases ok with
        | true =>
          refine ⟨.tuple #[v', .bool true], ?_, ?_⟩
          · simp only [execOp, Instr.typeAssert, Sem.run_bind, run_underlying hu, Result.andThen_ok, e2]
            cases d <;> first | (exact absurd rfl (hne _)) | simp
          · refine .tuple _ _ rfl (by simp) ?_
            intro i x y hx hy
            match i with
            | 0 => simp at hx hy; subst hx; subst hy; exact hv
            | 1 => simp at hx hy; subst hx; subst hy; exact .bool _
            | n + 2 => simp at hx
        | false =>
          refine ⟨v', ?_, hv⟩
          simp only [execOp, Instr.typeAssert, Sem.run_bind, run_underlying hu, Result.andThen_ok, e2]
          cases d <;> first | (exact absurd rfl (hne _)) | simp
      · simp at h
    · simp at h
  · simp at h
end
end Go.Cn

/- The canonical semantics: the relation between heaps; what a new block, a store and an append keep of it. -/
set_option linter.unusedVariables false
set_option linter.unusedSimpArgs false
namespace Go.Cn

/-! ### 1. The relation -/
def sideOf (base rb : Nat) : Option Nat → Prop
  | none => rb < base
  | some _ => base ≤ rb

/-- A block's cells lie in the model's heap. -/
structure Lies (base : Nat) (σ : Sg) (w : World) (e : En) (cs : List Value) (g : Option Nat) : Prop where
  ex : ∃ c el fr, w.heap[e.rb]? = some (.cells c el fr) ∧ c.size = e.rs ∧ e.ro + cs.length ≤ e.rs ∧
    (∀ (i : Nat) v, cs[i]? = some v → ∃ v', c[e.ro + i]? = some v' ∧ VRel σ v v') ∧ (g.isSome = true → ∀ j, j < e.rs → ¬ (fr.1 ≤ j ∧ j < fr.2))
  side : sideOf base e.rb g

/-- Entries of a map. -/
inductive ERel (σ : Sg) : List MapEntry → List MapEntry → Prop where
  | nil : ERel σ [] []
  | cons (x y : MapEntry) (l l' : List MapEntry) : y.born = x.born → VRel σ x.key y.key → VRel σ x.val y.val → ERel σ l l' → ERel σ (x :: l) (y :: l')

theorem ERel.mono {σ σ' : Sg} (h : σ.le σ') {l l' : List MapEntry} (e : ERel σ l l') : ERel σ' l l' := by
  induction e with
  | nil => exact .nil
  | cons x y l l' h1 h2 h3 _ ih => exact .cons x y l l' h1 (h2.mono h) (h3.mono h) ih

/-- How objects are related that are no rows of cells. -/
def OthRel (σ : Sg) : Ob → Obj → Prop
  | .map es c, .map es' c' => c' = c ∧ ERel σ es es'.toList
  | .iter m since seen st, .mapIter m' since' seen' st' => since' = since ∧ st' = st ∧ seen'.toList = seen ∧ (match (generalizing := false) m with
    | none => m' = none
    | some b => ∃ e, σ b = some e ∧ m' = some e.rb)
  | .loop r, .loop r' => r'.state = r.state ∧ r'.pending = r.pending ∧ TRel σ r.tm r'.tmps ∧ r'.params.toList = r.params ∧ r'.assign = r.assign ∧ r'.body = r.body
  | _, _ => False

theorem OthRel.mono {σ σ' : Sg} (h : σ.le σ') {o : Ob} {r : Obj} (e : OthRel σ o r) : OthRel σ' o r := by
  unfold OthRel at e ⊢
  split at e
  · exact ⟨e.1, e.2.mono h⟩
  · refine ⟨e.1, e.2.1, e.2.2.1, ?_⟩
    have e4 := e.2.2.2
    split at e4
    · exact e4
    · obtain ⟨en, h1, h2⟩ := e4; exact ⟨en, h _ _ h1, h2⟩
  · exact ⟨e.1, e.2.1, e.2.2.1.mono h, e.2.2.2⟩
  · exact e.elim

theorem OthRel.not_cells {σ : Sg} {o : Ob} {c : Array Value} {t : TypeId} {fr : Nat × Nat} (e : OthRel σ o (.cells c t fr)) : False := by
  unfold OthRel at e
  split at e <;> first | (rename_i h; cases h; done) | exact e

def Oth (base : Nat) (σ : Sg) (h : Hp) (w : World) : Prop := ∀ b e o, σ b = some e → h.ob b = some o → o.isOth = true →
  base ≤ e.rb ∧ e.ro = 0 ∧ (∃ r, w.heap[e.rb]? = some r ∧ OthRel σ o r) ∧ ∀ b' e', σ b' = some e' → e'.rb = e.rb → b' = b

def Obj.rowOf : Obj → Bool
  | .cells _ _ _ => true
  | _ => false

theorem OthRel.not_row {σ : Sg} {o : Ob} {r : Obj} (e : OthRel σ o r) : Obj.rowOf r = false := by
  cases r <;> first | rfl | exact e.not_cells.elim

theorem Oth.step {base : Nat} {σ σ' : Sg} {h h' : Hp} {w w' : World} (H : Oth base σ h w) (hle : σ.le σ')
    (hob : ∀ b e o, σ' b = some e → h'.ob b = some o → o.isOth = true → h.ob b = some o ∧ σ b = some e)
    (hw : ∀ (k : Nat) (o : Obj), w.heap[k]? = some o → Obj.rowOf o = false → w'.heap[k]? = some o)
    (hn : ∀ b e, σ' b = some e → σ b = none → (∃ o, w'.heap[e.rb]? = some o ∧ Obj.rowOf o = true) ∨ e.rb < base) : Oth base σ' h' w' := by
  intro b e o hb ho hoth
  obtain ⟨h1, h2⟩ := hob b e o hb ho hoth
  obtain ⟨p1, p2, ⟨r, p3, p4⟩, p5⟩ := H b e o h2 h1 hoth
  refine ⟨p1, p2, ⟨r, hw _ _ p3 p4.not_row, p4.mono hle⟩, fun b' e' hb' hrb => ?_⟩
  cases hs : σ b' with
  | some e2 =>
    have := hle _ _ hs
    rw [this] at hb'; cases hb'
    exact p5 b' _ hs hrb
  | none =>
    rcases hn b' e' hb' hs with ⟨o2, q1, q2⟩ | q
    · rw [hrb, hw _ _ p3 p4.not_row] at q1
      cases q1
      rw [p4.not_row] at q2; simp at q2
    · omega

structure HR (base : Nat) (σ : Sg) (h : Hp) (w : World) : Prop where
  base_le : base ≤ w.heap.size
  dom : ∀ b e, σ b = some e → b < h.next ∧ e.rb < w.heap.size
  fresh : ∀ b, h.next ≤ b → h.ob b = none ∧ h.gs.get b = none
  cell : ∀ b e cs t g, σ b = some e → h.ob b = some (.cells cs t g) → h.live b g = true → Lies base σ w e cs g
  grp : ∀ b cs t g, h.ob b = some (.cells cs t (some g)) → g < h.next
  gdom : ∀ b e cs t g, σ b = some e → h.ob b = some (.cells cs t (some g)) → ∃ e', σ g = some e'
  stack : ∀ g l, h.gs.get g = some l → ∀ b ∈ l, ∃ cs t, h.ob b = some (.cells cs t (some g))
  nest : ∀ g l, h.gs.get g = some l → l.Pairwise fun b1 b2 => ∀ e1 e2 cs1 cs2 t1 t2 g1 g2, σ b1 = some e1 → σ b2 = some e2 →
    h.ob b1 = some (.cells cs1 t1 g1) → h.ob b2 = some (.cells cs2 t2 g2) → e1.rb = e2.rb → e2.ro + cs2.length ≤ e1.ro + cs1.length
  apart : ∀ b1 b2 e1 e2 cs1 cs2 t1 t2 g1 g2, σ b1 = some e1 → σ b2 = some e2 → h.ob b1 = some (.cells cs1 t1 (some g1)) → h.ob b2 = some (.cells cs2 t2 (some g2)) →
    h.live b1 (some g1) = true → h.live b2 (some g2) = true → e1.rb = e2.rb → g1 = g2
  oth : Oth base σ h w

/-- What a run leaves as it was. -/
structure Ext (base : Nat) (σ : Sg) (h : Hp) (w : World) (σ' : Sg) (h' : Hp) (w' : World) : Prop where
  le : σ.le σ'
  os : w'.os = w.os
  tape : w'.tape = w.tape
  output : w'.output = w.output
  size : w.heap.size ≤ w'.heap.size
  below : ∀ k, k < base → w'.heap[k]? = w.heap[k]?
  other : ∀ k, k < w.heap.size → (∀ b e, σ b = some e → e.rb ≠ k) → w'.heap[k]? = w.heap[k]?
  img : ∀ b e, σ b = none → σ' b = some e → (∃ b0 e0, σ b0 = some e0 ∧ e0.rb = e.rb) ∨ w.heap.size ≤ e.rb
  next : h.next ≤ h'.next
  untouched : ∀ b, b < h.next → σ b = none → h'.ob b = h.ob b ∧ h'.gs.get b = h.gs.get b ∧ σ' b = none

theorem Ext.refl (base : Nat) (σ : Sg) (h : Hp) (w : World) : Ext base σ h w σ h w :=
  ⟨Sg.le_refl σ, rfl, rfl, rfl, Nat.le_refl _, fun _ _ => rfl, fun _ _ _ => rfl, fun b e h1 h2 => by rw [h1] at h2; simp at h2, Nat.le_refl _, fun b _ hb => ⟨rfl, rfl, hb⟩⟩

theorem Ext.trans {base : Nat} {σ σ1 σ2 : Sg} {h h1 h2 : Hp} {w w1 w2 : World} (a : Ext base σ h w σ1 h1 w1) (b : Ext base σ1 h1 w1 σ2 h2 w2) : Ext base σ h w σ2 h2 w2 := by
  refine ⟨Sg.le_trans a.le b.le, b.os.trans a.os, b.tape.trans a.tape, b.output.trans a.output, Nat.le_trans a.size b.size, fun k hk => (b.below k hk).trans (a.below k hk), ?_, ?_, Nat.le_trans a.next b.next, ?_⟩
  · intro k hk hno
    rw [b.other k (Nat.lt_of_lt_of_le hk a.size) ?_]
    · exact a.other k hk hno
    · intro b' e' he'
      cases hs : σ b' with
      | some e0 => have := a.le _ _ hs; rw [this] at he'; cases he'; exact hno _ _ hs
      | none =>
        rcases a.img b' e' hs he' with ⟨b0, e0, h0, h0'⟩ | h0
        · rw [← h0']; exact hno _ _ h0
        · omega
  · intro b' e' hs he'
    cases h1 : σ1 b' with
    | some e1 =>
      have := b.le _ _ h1; rw [this] at he'; cases he'
      exact a.img b' _ hs h1
    | none =>
      rcases b.img b' e' h1 he' with ⟨b0, e0, h0, h0'⟩ | h0
      · cases hs0 : σ b0 with
        | some e00 => have := a.le _ _ hs0; rw [this] at h0; cases h0; exact .inl ⟨b0, e0, hs0, h0'⟩
        | none =>
          rcases a.img b0 e0 hs0 h0 with ⟨b1, e1, h1', h1''⟩ | h1'
          · exact .inl ⟨b1, e1, h1', h1''.trans h0'⟩
          · right; omega
      · right; have := a.size; omega
  · intro b' hb' hs
    obtain ⟨x1, x2, x3⟩ := a.untouched b' hb' hs
    obtain ⟨y1, y2, y3⟩ := b.untouched b' (Nat.lt_of_lt_of_le hb' a.next) x3
    exact ⟨y1.trans x1, y2.trans x2, y3⟩

/-- The world's draws do not matter. -/
theorem HR.drawn {base : Nat} {σ : Sg} {h : Hp} {w w' : World} (hr : HR base σ h w) (hh : w'.heap = w.heap) : HR base σ h w' := by
  refine ⟨by rw [hh]; exact hr.base_le, by rw [hh]; exact hr.dom, hr.fresh, ?_, hr.grp, hr.gdom, hr.stack, hr.nest, hr.apart,
    hr.oth.step (Sg.le_refl σ) (fun b e o h1 h2 _ => ⟨h2, h1⟩) (fun k o h1 _ => by rw [hh]; exact h1) (fun b e h1 h2 => by rw [h1] at h2; simp at h2)⟩
  intro b e cs t g h1 h2 h3
  obtain ⟨⟨c, el, fr, h4, h5⟩, h6⟩ := hr.cell b e cs t g h1 h2 h3
  exact ⟨⟨c, el, fr, by rw [hh]; exact h4, h5⟩, h6⟩

/-! ### 2. Reading -/
theorem HR.cellsAt {base : Nat} {σ : Sg} {h : Hp} {w : World} (hr : HR base σ h w) {b o n : Nat} {cs : List Value} {e : En} (hc : h.cellsAt b o n = some cs) (he : σ b = some e) :
    cs.length = n ∧ ∃ cs', cs'.length = n ∧ LRel σ cs cs' ∧ ∀ (j : Nat) v, cs'[j]? = some v → w.cell? ((⟨e.rb, e.ro + o, none⟩ : Addr).add j) = some v := by
  unfold Hp.cellsAt at hc
  split at hc
  · rename_i cs0 t g hob
    split at hc
    · rename_i hcond
      simp only [Bool.and_eq_true, decide_eq_true_eq] at hcond
      simp at hc; subst hc
      obtain ⟨⟨c, el, fr, h1, h2, h3, h4, h5⟩, _⟩ := hr.cell b e cs0 t g he hob hcond.1
      have hlen : ((cs0.drop o).take n).length = n := by simp; omega
      refine ⟨hlen, ((c.toList.drop (e.ro + o)).take n), by simp; omega, ⟨by rw [hlen]; simp; omega, ?_⟩, ?_⟩
      · intro i x y hx hy
        rw [List.getElem?_take] at hx hy
        split at hx
        · rename_i hi
          rw [if_pos hi, List.getElem?_drop] at hy
          rw [List.getElem?_drop] at hx
          obtain ⟨v', hv1, hv2⟩ := h4 _ _ hx
          rw [show e.ro + o + i = e.ro + (o + i) by omega] at hy
          simp at hy
          rw [hv1] at hy; cases hy; exact hv2
        · simp at hx
      · intro j v hv
        rw [List.getElem?_take] at hv
        split at hv
        · rw [List.getElem?_drop] at hv
          rw [add_plain]
          simp at hv
          simp only [World.cell?, h1]
          simpa using hv
        · simp at hv
    · simp at hc
  · simp at hc

/-! ### 3. A new block -/
/-- The world w' is w with one block more (and perhaps some answers of the tape used up). -/
structure WNew (w w' : World) (o : Obj) : Prop where
  heap : w'.heap = w.heap.push o
  os : w'.os = w.os
  tape : w'.tape = w.tape
  output : w'.output = w.output

def Sg.put (σ : Sg) (b : Nat) (e : En) : Sg := fun b' => if b' = b then some e else σ b'
theorem Sg.put_le {σ : Sg} {b : Nat} {e : En} (hb : σ b = none) : σ.le (σ.put b e) := by
  intro b' e' h'
  unfold Sg.put
  split
  · rename_i hh; subst hh; rw [hb] at h'; simp at h'
  · exact h'

theorem HR.none_next {base : Nat} {σ : Sg} {h : Hp} {w : World} (hr : HR base σ h w) {b : Nat} (hb : h.next ≤ b) : σ b = none := by
  cases hs : σ b with
  | none => rfl
  | some e => have := (hr.dom _ _ hs).1; omega

theorem Hp.live_congr {h h' : Hp} {b : Nat} {g : Option Nat} (hg : ∀ x, g = some x → h'.gs.get x = h.gs.get x) : h'.live b g = h.live b g := by
  cases g with
  | none => rfl
  | some x => simp only [Hp.live, hg x rfl]

theorem HR.alloc {base : Nat} {σ : Sg} {h : Hp} {w w' : World} (hr : HR base σ h w) {cs : List Value} {t : TypeId} {c : Array Value} {el : TypeId} {fr : Nat × Nat}
    (hw : WNew w w' (.cells c el fr)) (hlen : cs.length ≤ c.size) (hrel : ∀ (i : Nat) v, cs[i]? = some v → ∃ v', c[i]? = some v' ∧ VRel σ v v') (hfr : ∀ j, j < c.size → ¬ (fr.1 ≤ j ∧ j < fr.2)) :
    HR base (σ.put h.next ⟨w.heap.size, 0, c.size⟩) (h.alloc cs t) w' ∧ Ext base σ h w (σ.put h.next ⟨w.heap.size, 0, c.size⟩) (h.alloc cs t) w' ∧
      (σ.put h.next ⟨w.heap.size, 0, c.size⟩) h.next = some ⟨w.heap.size, 0, c.size⟩ := by
  have hσ : σ h.next = none := hr.none_next (Nat.le_refl _)
  have hle : σ.le (σ.put h.next ⟨w.heap.size, 0, c.size⟩) := Sg.put_le hσ
  have hold : ∀ k, k < w.heap.size → w'.heap[k]? = w.heap[k]? := by
    intro k hk; rw [hw.heap, Array.getElem?_push, if_neg (by omega)]
  have hput : ∀ b e, (σ.put h.next ⟨w.heap.size, 0, c.size⟩) b = some e → (b = h.next ∧ e = ⟨w.heap.size, 0, c.size⟩) ∨ (b ≠ h.next ∧ σ b = some e) := by
    intro b e hb
    unfold Sg.put at hb
    split at hb
    · rename_i hh; left; exact ⟨hh, by simpa using hb.symm⟩
    · rename_i hh; right; exact ⟨hh, hb⟩
  have hobn : h.ob h.next = none := (hr.fresh _ (Nat.le_refl _)).1
  have hgsn : h.gs.get h.next = none := (hr.fresh _ (Nat.le_refl _)).2
  have hoth : Oth base (σ.put h.next ⟨w.heap.size, 0, c.size⟩) (h.alloc cs t) w' := by
    refine hr.oth.step hle ?_ ?_ ?_
    · intro b e o h1 h2 h3
      rw [Hp.ob_alloc] at h2
      rcases hput b e h1 with ⟨rfl, rfl⟩ | ⟨h4, h5⟩
      · rw [if_pos rfl] at h2; cases h2; simp [Ob.isOth] at h3
      · rw [if_neg h4] at h2; exact ⟨h2, h5⟩
    · intro k o h1 _
      rw [hold k (Array.getElem?_eq_some_iff.1 h1).1]; exact h1
    · intro b e h1 h2
      rcases hput b e h1 with ⟨rfl, rfl⟩ | ⟨h4, h5⟩
      · left; exact ⟨.cells c el fr, by rw [hw.heap]; simp, rfl⟩
      · rw [h5] at h2; simp at h2
  refine ⟨⟨?_, ?_, ?_, ?_, ?_, ?_, ?_, ?_, ?_, hoth⟩, ⟨hle, hw.os, hw.tape, hw.output, ?_, ?_, ?_, ?_, ?_, ?_⟩, by simp [Sg.put]⟩
  · rw [hw.heap]; simp; have := hr.base_le; omega
  · intro b e hb
    rw [hw.heap, Hp.next_alloc]; simp
    rcases hput b e hb with ⟨rfl, rfl⟩ | ⟨_, h2⟩
    · simp
    · have := hr.dom _ _ h2; omega
  · intro b hb
    rw [Hp.next_alloc] at hb
    rw [Hp.ob_alloc, Hp.gs_alloc, if_neg (by omega)]
    exact hr.fresh b (by omega)
  · intro b e cs' t' g hb hob hl
    rw [Hp.ob_alloc] at hob
    rw [show (h.alloc cs t).live b g = h.live b g from Hp.live_congr fun _ _ => rfl] at hl
    rcases hput b e hb with ⟨rfl, rfl⟩ | ⟨h1, h2⟩
    · rw [if_pos rfl] at hob
      cases hob
      refine ⟨⟨c, el, fr, by rw [hw.heap]; simp, rfl, by simpa using hlen, ?_, fun _ => hfr⟩, hr.base_le⟩
      intro i v hv
      obtain ⟨v', h3, h4⟩ := hrel i v hv
      exact ⟨v', by simpa using h3, h4.mono hle⟩
    · rw [if_neg h1] at hob
      obtain ⟨⟨c0, el0, fr0, h3, h4, h5, h6, h7⟩, h8⟩ := hr.cell b e cs' t' g h2 hob hl
      refine ⟨⟨c0, el0, fr0, by rw [hold _ (hr.dom _ _ h2).2]; exact h3, h4, h5, ?_, h7⟩, h8⟩
      intro i v hv
      obtain ⟨v', h9, h10⟩ := h6 i v hv
      exact ⟨v', h9, h10.mono hle⟩
  · intro b cs' t' g hob
    rw [Hp.ob_alloc] at hob
    rw [Hp.next_alloc]
    split at hob
    · cases hob; omega
    · have := hr.grp b cs' t' g hob; omega
  · intro b e cs' t' g hb hob
    rw [Hp.ob_alloc] at hob
    rcases hput b e hb with ⟨rfl, rfl⟩ | ⟨h1, h2⟩
    · rw [if_pos rfl] at hob; cases hob; exact ⟨_, hb⟩
    · rw [if_neg h1] at hob
      obtain ⟨e', he'⟩ := hr.gdom b e cs' t' g h2 hob
      exact ⟨e', hle _ _ he'⟩
  · intro g l hg b hb
    rw [Hp.gs_alloc] at hg
    obtain ⟨cs', t', hob⟩ := hr.stack g l hg b hb
    refine ⟨cs', t', ?_⟩
    rw [Hp.ob_alloc, if_neg ?_]
    · exact hob
    · rintro rfl; rw [hobn] at hob; simp at hob
  · intro g l hg
    rw [Hp.gs_alloc] at hg
    refine (hr.nest g l hg).imp_of_mem fun {b1 b2} m1 m2 hp => ?_
    intro e1 e2 cs1 cs2 t1 t2 g1 g2 s1 s2 o1 o2
    have n1 : b1 ≠ h.next := by rintro rfl; obtain ⟨_, _, hx⟩ := hr.stack g l hg _ m1; rw [hobn] at hx; simp at hx
    have n2 : b2 ≠ h.next := by rintro rfl; obtain ⟨_, _, hx⟩ := hr.stack g l hg _ m2; rw [hobn] at hx; simp at hx
    rcases hput b1 e1 s1 with ⟨e, _⟩ | ⟨_, s1'⟩
    · exact absurd e n1
    · rcases hput b2 e2 s2 with ⟨e, _⟩ | ⟨_, s2'⟩
      · exact absurd e n2
      · rw [Hp.ob_alloc, if_neg n1] at o1
        rw [Hp.ob_alloc, if_neg n2] at o2
        exact hp e1 e2 cs1 cs2 t1 t2 g1 g2 s1' s2' o1 o2
  · intro b1 b2 e1 e2 cs1 cs2 t1 t2 g1 g2 s1 s2 o1 o2 l1 l2 hrb
    rw [show (h.alloc cs t).live b1 (some g1) = h.live b1 (some g1) from Hp.live_congr fun _ _ => rfl] at l1
    rw [show (h.alloc cs t).live b2 (some g2) = h.live b2 (some g2) from Hp.live_congr fun _ _ => rfl] at l2
    rw [Hp.ob_alloc] at o1 o2
    rcases hput b1 e1 s1 with ⟨rfl, rfl⟩ | ⟨n1, s1'⟩
    · rcases hput b2 e2 s2 with ⟨rfl, rfl⟩ | ⟨n2, s2'⟩
      · rw [if_pos rfl] at o1 o2; cases o1; cases o2; rfl
      · have := (hr.dom _ _ s2').2; simp at hrb; omega
    · rcases hput b2 e2 s2 with ⟨rfl, rfl⟩ | ⟨n2, s2'⟩
      · have := (hr.dom _ _ s1').2; simp at hrb; omega
      · rw [if_neg n1] at o1
        rw [if_neg n2] at o2
        exact hr.apart b1 b2 e1 e2 cs1 cs2 t1 t2 g1 g2 s1' s2' o1 o2 l1 l2 hrb
  · rw [hw.heap]; simp
  · intro k hk; exact hold k (by have := hr.base_le; omega)
  · intro k hk _; exact hold k hk
  · intro b e hs hb
    rcases hput b e hb with ⟨rfl, rfl⟩ | ⟨_, h2⟩
    · right; simp
    · rw [hs] at h2; simp at h2
  · rw [Hp.next_alloc]; omega
  · intro b hb hs
    refine ⟨?_, rfl, ?_⟩
    · rw [Hp.ob_alloc, if_neg (by omega)]
    · unfold Sg.put; rw [if_neg (by omega)]; exact hs

/-! ### 4. A store -/
/-- The world w' is w with one block's cells written. -/
structure WSet (w w' : World) (rb : Nat) (c' : Array Value) (el : TypeId) (fr : Nat × Nat) : Prop where
  at_ : w'.heap[rb]? = some (.cells c' el fr)
  ne : ∀ k, k ≠ rb → w'.heap[k]? = w.heap[k]?
  size : w'.heap.size = w.heap.size
  os : w'.os = w.os
  tape : w'.tape = w.tape
  output : w'.output = w.output

theorem WSet.setCells (b : Nat) : ∀ (vs : List Value) (o : Nat) (w : World) (c : Array Value) (el : TypeId) (fr : Nat × Nat), w.heap[b]? = some (.cells c el fr) → o + vs.length ≤ c.size →
    ∃ c', WSet w (w.setCells b o vs) b c' el fr ∧ c'.toList = splice c.toList o vs
  | [], o, w, c, el, fr, h, hl => ⟨c, ⟨h, fun _ _ => rfl, rfl, rfl, rfl, rfl⟩, by simp [splice]⟩
  | v :: vs, o, w, c, el, fr, h, hl => by
    simp only [List.length_cons] at hl
    have h1 : (w.setCell ⟨b, o, none⟩ v).heap[b]? = some (.cells (c.setIfInBounds o v) el fr) := by
      simp [World.setCell, Array.getElem?_modify, h]
    obtain ⟨c', hs, hc⟩ := WSet.setCells b vs (o + 1) (w.setCell ⟨b, o, none⟩ v) _ el fr h1 (by simp; omega)
    refine ⟨c', ⟨hs.at_, fun k hk => ?_, ?_, hs.os, hs.tape, hs.output⟩, ?_⟩
    · rw [World.setCells, hs.ne k hk]
      simp only [World.setCell, Array.getElem?_modify]
      rw [if_neg (fun e => hk e.symm)]
    · rw [World.setCells, hs.size]; simp [World.setCell]
    · rw [hc]
      apply List.ext_getElem?
      intro i
      rw [splice_get (by simp; omega), splice_get (by simp; omega)]
      simp only [List.length_cons]
      by_cases h2 : i = o
      · subst h2
        rw [if_neg (by omega), if_pos (by omega)]
        simp [show i < c.size by omega]
      · by_cases h3 : o ≤ i ∧ i < o + (vs.length + 1)
        · rw [if_pos (by omega), if_pos h3, show i - o = (i - (o + 1)) + 1 by omega, List.getElem?_cons_succ]
        · rw [if_neg (by omega), if_neg h3]
          simp [Array.toList_setIfInBounds, List.getElem?_set_ne (Ne.symm h2)]

theorem Hp.ob_only (h : Hp) (b g : Nat) : (h.only b g).ob = h.ob := by unfold Hp.only; split <;> rfl
theorem Hp.next_only (h : Hp) (b g : Nat) : (h.only b g).next = h.next := by unfold Hp.only; split <;> rfl
theorem Hp.gs_only (h : Hp) (b g g' : Nat) : (h.only b g).gs.get g' = if g' = g then (h.gs.get g).map fun _ => [b] else h.gs.get g' := by
  unfold Hp.only
  split
  · rename_i hg; split
    · rename_i e; subst e; rw [hg]; rfl
    · rfl
  · rename_i l hg
    rw [Hp.gs_setGs]
    split
    · rw [hg]; rfl
    · rfl

/-- What is alive behind a store was alive before it; of the group, the block alone. -/
theorem Hp.live_only {h : Hp} {b g b' : Nat} {g' : Option Nat} (hl : (h.only b g).live b' g' = true) (hb : h.live b (some g) = true) : h.live b' g' = true ∧ (g' = some g → b' = b) := by
  cases g' with
  | none => exact ⟨rfl, by simp⟩
  | some x =>
    simp only [Hp.live, Hp.gs_only] at hl ⊢
    by_cases hx : x = g
    · subst hx
      simp only [if_true] at hl
      simp only [Hp.live] at hb
      cases hg : h.gs.get x with
      | none =>
        simp [hg] at hl hb ⊢
        exact ⟨hl, by omega⟩
      | some l =>
        simp [hg] at hl hb ⊢
        exact ⟨by rw [hl]; exact hb, hl⟩
    · simp only [hx, if_false] at hl
      exact ⟨hl, fun e => absurd (by simpa using e) hx⟩

/-- A block's cells are written: in the canonical heap, and in the model's at the same places. -/
theorem HR.store {base : Nat} {σ : Sg} {h h' : Hp} {w : World} (hr : HR base σ h w) {b o : Nat} {vs vs' : List Value} (hs : h.store b o vs = some h') {e : En} (he : σ b = some e) (hv : LRel σ vs vs') :
    HR base σ h' (w.setCells e.rb (e.ro + o) vs') ∧ Ext base σ h w σ h' (w.setCells e.rb (e.ro + o) vs') ∧
    (∀ j, j < vs'.length → (w.cell? ⟨e.rb, e.ro + o + j, none⟩).isSome = true) ∧ (∀ j, j < vs'.length → w.frozen? ⟨e.rb, e.ro + o + j, none⟩ = false) ∧ vs.all isCell = true := by
  unfold Hp.store at hs
  split at hs
  · rename_i cs t g hob
    split at hs
    · rename_i hcond
      simp only [Bool.and_eq_true, decide_eq_true_eq] at hcond
      obtain ⟨⟨hl, hlen⟩, hcell⟩ := hcond
      simp at hs; subst hs
      obtain ⟨⟨c, el, fr, h1, h2, h3, h4, h5⟩, h6⟩ := hr.cell b e cs t (some g) he hob hl
      have h6 : base ≤ e.rb := h6
      have h5 := h5 rfl
      have hrb : e.rb < w.heap.size := (hr.dom _ _ he).2
      obtain ⟨c', hset, hc'⟩ := WSet.setCells e.rb vs' (e.ro + o) w c el fr h1 (by rw [← hv.1]; omega)
      have hcs : c'.size = c.size := by
        have := congrArg List.length hc'
        rw [splice_length (by simp; rw [← hv.1]; omega)] at this
        simpa using this
      have hget : ∀ i, c'[i]? = if e.ro + o ≤ i ∧ i < e.ro + o + vs'.length then vs'[i - (e.ro + o)]? else c[i]? := by
        intro i
        have : c'.toList[i]? = (splice c.toList (e.ro + o) vs')[i]? := by rw [hc']
        rw [splice_get (by simp; rw [← hv.1]; omega)] at this
        simpa using this
      have hoth : Oth base σ ((h.only b g).setOb b (.cells (splice cs o vs) t (some g))) (w.setCells e.rb (e.ro + o) vs') := by
        refine hr.oth.step (Sg.le_refl σ) ?_ ?_ (fun b e h1 h2 => by rw [h1] at h2; simp at h2)
        · intro b' e' o' k1 k2 k3
          rw [Hp.ob_setOb] at k2
          split at k2
          · cases k2; simp [Ob.isOth] at k3
          · rw [Hp.ob_only] at k2; exact ⟨k2, k1⟩
        · intro k o' k1 k2
          by_cases hk : k = e.rb
          · rw [hk, h1] at k1; cases k1; simp [Obj.rowOf] at k2
          · rw [hset.ne k hk]; exact k1
      refine ⟨⟨?_, ?_, ?_, ?_, ?_, ?_, ?_, ?_, ?_, hoth⟩, ⟨Sg.le_refl σ, hset.os, hset.tape, hset.output, by rw [hset.size]; exact Nat.le_refl _, ?_, ?_, fun b e s1 s2 => by rw [s1] at s2; simp at s2, ?_, ?_⟩, ?_, ?_, hcell⟩
      · rw [hset.size]; exact hr.base_le
      · intro b' e' hb'
        rw [Hp.next_setOb, Hp.next_only, hset.size]; exact hr.dom _ _ hb'
      · intro b' hb'
        rw [Hp.next_setOb, Hp.next_only] at hb'
        have hf := hr.fresh b' hb'
        have hne : b' ≠ b := by rintro rfl; rw [hf.1] at hob; simp at hob
        rw [Hp.ob_setOb, if_neg hne, Hp.ob_only, Hp.gs_setOb, Hp.gs_only]
        refine ⟨hf.1, ?_⟩
        have := hr.grp b cs t g hob
        rw [if_neg (by omega)]; exact hf.2
      · intro b' e' cs' t' g' hb' hob' hl'
        rw [show ((h.only b g).setOb b (.cells (splice cs o vs) t (some g))).live b' g' = (h.only b g).live b' g' from Hp.live_congr fun _ _ => rfl] at hl'
        obtain ⟨hl0, hl1⟩ := Hp.live_only hl' hl
        rw [Hp.ob_setOb] at hob'
        by_cases hbb : b' = b
        · subst hbb
          rw [if_pos rfl] at hob'
          rw [he] at hb'; cases hb'
          cases hob'
          refine ⟨⟨c', el, fr, hset.at_, by rw [hcs, h2], by rw [splice_length hlen]; exact h3, ?_, fun _ => h5⟩, h6⟩
          intro i v hiv
          rw [splice_get hlen] at hiv
          rw [hget]
          by_cases hin : o ≤ i ∧ i < o + vs.length
          · rw [if_pos hin] at hiv
            rw [if_pos (by rw [← hv.1]; omega), show e.ro + i - (e.ro + o) = i - o by omega]
            exact hv.get hiv
          · rw [if_neg hin] at hiv
            rw [if_neg (by rw [← hv.1]; omega)]
            exact h4 i v hiv
        · rw [if_neg hbb, Hp.ob_only] at hob'
          have hold := hr.cell b' e' cs' t' g' hb' hob' hl0
          have hne : e'.rb ≠ e.rb := by
            intro hrbe
            cases g' with
            | none => have : e'.rb < base := hold.side; omega
            | some g' =>
              have := hr.apart b' b e' e cs' cs t' t g' g hb' he hob' hob hl0 hl hrbe
              subst this
              exact hbb (hl1 rfl)
          obtain ⟨⟨c0, el0, fr0, k1, k2⟩, k3⟩ := hold
          exact ⟨⟨c0, el0, fr0, by rw [hset.ne _ hne]; exact k1, k2⟩, k3⟩
      · intro b' cs' t' g' hob'
        rw [Hp.ob_setOb] at hob'
        rw [Hp.next_setOb, Hp.next_only]
        split at hob'
        · cases hob'; exact hr.grp b cs t _ hob
        · rw [Hp.ob_only] at hob'; exact hr.grp b' cs' t' g' hob'
      · intro b' e' cs' t' g' hb' hob'
        rw [Hp.ob_setOb] at hob'
        split at hob'
        · rename_i e2; subst e2; cases hob'; exact hr.gdom _ _ cs t _ hb' hob
        · rw [Hp.ob_only] at hob'; exact hr.gdom _ _ _ _ _ hb' hob'
      · intro g' l hg b' hb'
        rw [Hp.gs_setOb, Hp.gs_only] at hg
        have key : ∃ cs0 t0, h.ob b' = some (.cells cs0 t0 (some g')) := by
          split at hg
          · rename_i e'; subst e'
            simp only [Option.map_eq_some_iff] at hg
            obtain ⟨l0, hl0, rfl⟩ := hg
            simp at hb'; subst hb'
            exact ⟨cs, t, hob⟩
          · exact hr.stack g' l hg b' hb'
        obtain ⟨cs0, t0, hob0⟩ := key
        rw [Hp.ob_setOb, Hp.ob_only]
        split
        · rename_i e'; subst e'
          rw [hob] at hob0; cases hob0
          exact ⟨_, _, rfl⟩
        · exact ⟨cs0, t0, hob0⟩
      · intro g' l hg
        rw [Hp.gs_setOb, Hp.gs_only] at hg
        split at hg
        · simp only [Option.map_eq_some_iff] at hg
          obtain ⟨l0, hl0, rfl⟩ := hg
          simp
        · rename_i hgne
          refine (hr.nest g' l hg).imp_of_mem fun {b1 b2} m1 m2 hp => ?_
          intro e1 e2 cs1 cs2 t1 t2 g1 g2 s1 s2 o1 o2
          have n1 : b1 ≠ b := by rintro rfl; obtain ⟨_, _, hx⟩ := hr.stack g' l hg _ m1; rw [hob] at hx; cases hx; exact hgne rfl
          have n2 : b2 ≠ b := by rintro rfl; obtain ⟨_, _, hx⟩ := hr.stack g' l hg _ m2; rw [hob] at hx; cases hx; exact hgne rfl
          rw [Hp.ob_setOb, if_neg n1, Hp.ob_only] at o1
          rw [Hp.ob_setOb, if_neg n2, Hp.ob_only] at o2
          exact hp e1 e2 cs1 cs2 t1 t2 g1 g2 s1 s2 o1 o2
      · intro b1 b2 e1 e2 cs1 cs2 t1 t2 g1 g2 s1 s2 o1 o2 l1 l2 hrbe
        rw [show ((h.only b g).setOb b (.cells (splice cs o vs) t (some g))).live b1 (some g1) = (h.only b g).live b1 (some g1) from Hp.live_congr fun _ _ => rfl] at l1
        rw [show ((h.only b g).setOb b (.cells (splice cs o vs) t (some g))).live b2 (some g2) = (h.only b g).live b2 (some g2) from Hp.live_congr fun _ _ => rfl] at l2
        have q1 := (Hp.live_only l1 hl).1
        have q2 := (Hp.live_only l2 hl).1
        have p1 : ∃ cs0 t0, h.ob b1 = some (.cells cs0 t0 (some g1)) := by
          rw [Hp.ob_setOb] at o1
          split at o1
          · rename_i e'; subst e'; cases o1; exact ⟨cs, t, hob⟩
          · rw [Hp.ob_only] at o1; exact ⟨_, _, o1⟩
        have p2 : ∃ cs0 t0, h.ob b2 = some (.cells cs0 t0 (some g2)) := by
          rw [Hp.ob_setOb] at o2
          split at o2
          · rename_i e'; subst e'; cases o2; exact ⟨cs, t, hob⟩
          · rw [Hp.ob_only] at o2; exact ⟨_, _, o2⟩
        obtain ⟨_, _, p1⟩ := p1
        obtain ⟨_, _, p2⟩ := p2
        exact hr.apart b1 b2 e1 e2 _ _ _ _ g1 g2 s1 s2 p1 p2 q1 q2 hrbe
      · intro k hk; exact hset.ne k (by omega)
      · intro k _ hno; exact hset.ne k (fun e' => hno _ _ he e'.symm)
      · rw [Hp.next_setOb, Hp.next_only]; exact Nat.le_refl _
      · intro b' hb' hs'
        have hne : b' ≠ b := by rintro rfl; rw [he] at hs'; simp at hs'
        refine ⟨by rw [Hp.ob_setOb, if_neg hne, Hp.ob_only], ?_, hs'⟩
        rw [Hp.gs_setOb, Hp.gs_only]
        obtain ⟨e', he'⟩ := hr.gdom b e cs t g he hob
        rw [if_neg ?_]
        rintro rfl; rw [he'] at hs'; simp at hs'
      · intro j hj
        rw [← hv.1] at hj
        have : e.ro + o + j < c.size := by omega
        simp [World.cell?, h1, this]
      · intro j hj
        rw [← hv.1] at hj
        have := h5 (e.ro + o + j) (by omega)
        simp only [World.frozen?, h1]
        simpa using this
    · simp at hs
  · simp at hs
end Go.Cn

/- The canonical semantics: an append makes a new block of the old one's group. -/
set_option linter.unusedVariables false
set_option linter.unusedSimpArgs false
namespace Go.Cn

structure Extended (h h' : Hp) (b o e : Nat) (new cs : List Value) (t : TypeId) (g : Nat) (rest : List Nat) : Prop where
  old : h.ob b = some (.cells cs t (some g))
  live : h.live b (some g) = true
  o_le : o ≤ e
  e_le : e ≤ cs.length
  ob : ∀ x, h'.ob x = if x = h.next then some (.cells ((cs.drop o).take (e - o) ++ new) t (some g)) else if x = b then some (.cells (cs.take e) t (some g)) else h.ob x
  gs : ∀ x, h'.gs.get x = if x = g then some (h.next :: rest) else h.gs.get x
  next : h'.next = h.next + 1
  rest : (e = cs.length ∧ rest = h.below b g) ∨ rest = [b]
  cell : new.all isCell = true

theorem Hp.extend_spec {h h' : Hp} {b o e : Nat} {new : List Value} (hx : h.extend b o e new = some h') (hlt : b ≠ h.next) : ∃ cs t g rest, Extended h h' b o e new cs t g rest := by
  unfold Hp.extend at hx
  split at hx
  · rename_i cs t g hob
    split at hx
    · rename_i hc
      simp only [Bool.and_eq_true, decide_eq_true_eq] at hc
      by_cases hf : e = cs.length
      · simp only [hf, if_true] at hx
        simp at hx; subst hx
        refine ⟨cs, t, g, h.below b g, hob, hc.1.1.1, hc.1.1.2, hc.1.2, ?_, ?_, rfl, .inl ⟨hf, rfl⟩, by simpa using hc.2⟩
        · intro x
          simp only [Hp.ob]
          rw [Tr.get_set _ _ _ _ _ (by omega)]
          split
          · rename_i e1; rw [hf]
          · split
            · rename_i e2; subst e2; rw [hf, List.take_length]; exact hob
            · rfl
        · intro x
          have := Hp.gs_setGs h g (h.next :: h.below b g) x
          exact this
      · simp only [hf, if_false] at hx
        simp at hx; subst hx
        refine ⟨cs, t, g, [b], hob, hc.1.1.1, hc.1.1.2, hc.1.2, ?_, ?_, rfl, .inr rfl, by simpa using hc.2⟩
        · intro x
          simp only [Hp.ob]
          rw [Tr.get_set _ _ _ _ _ (by omega)]
          split
          · rfl
          · have := Hp.ob_setOb (h.setGs g [h.next, b]) b (.cells (cs.take e) t (some g)) x
            simp only [Hp.ob] at this
            rw [this]; rfl
        · intro x
          have := Hp.gs_setGs h g [h.next, b] x
          exact this
    · simp at hx
  · simp at hx

theorem dropWhile_head (b : Nat) : ∀ (l : List Nat), b ∈ l → ∃ r, l.dropWhile (· != b) = b :: r
  | [], h => by simp at h
  | x :: l, h => by
    by_cases hx : x = b
    · subst hx; exact ⟨l, by simp⟩
    · have : b ∈ l := by simp at h; rcases h with h | h; exact absurd h.symm hx; exact h
      obtain ⟨r, hr⟩ := dropWhile_head b l this
      exact ⟨r, by simp [List.dropWhile_cons, hx, hr]⟩

/-- What stays of the group: alive, of the group, none reaches further than b. -/
theorem HR.below_spec {base : Nat} {σ : Sg} {h : Hp} {w : World} (hr : HR base σ h w) {b g : Nat} {cs : List Value} {t : TypeId} (hob : h.ob b = some (.cells cs t (some g))) (hl : h.live b (some g) = true) :
    ∃ r, h.below b g = b :: r ∧ (∀ x ∈ b :: r, h.live x (some g) = true ∧ ∃ csx tx, h.ob x = some (.cells csx tx (some g))) ∧
      (b :: r).Pairwise fun b1 b2 => ∀ e1 e2 cs1 cs2 t1 t2 g1 g2, σ b1 = some e1 → σ b2 = some e2 →
        h.ob b1 = some (.cells cs1 t1 g1) → h.ob b2 = some (.cells cs2 t2 g2) → e1.rb = e2.rb → e2.ro + cs2.length ≤ e1.ro + cs1.length := by
  unfold Hp.below
  cases hg : h.gs.get g with
  | none =>
    refine ⟨[], rfl, ?_, by simp⟩
    intro x hx
    simp at hx; subst hx
    exact ⟨hl, cs, t, hob⟩
  | some l =>
    have hb : b ∈ l := by simpa [Hp.live, hg] using hl
    obtain ⟨r, hr'⟩ := dropWhile_head b l hb
    refine ⟨r, hr', ?_, ?_⟩
    · intro x hx
      have hxl : x ∈ l := (List.dropWhile_suffix (· != b)).subset (hr' ▸ hx)
      exact ⟨by simpa [Hp.live, hg] using hxl, hr.stack g l hg x hxl⟩
    · have := hr.nest g l hg
      exact (this.sublist (List.dropWhile_suffix (· != b)).sublist) |> fun p => hr' ▸ p

theorem Hp.live_iff (h : Hp) (b g : Nat) : h.live b (some g) = true ↔ match h.gs.get g with
    | none => b = g
    | some l => b ∈ l := by
  cases hg : h.gs.get g <;> simp [Hp.live, hg]

/-- The canonical side of an append, whatever becomes of the model's memory. -/
theorem HR.extended {base : Nat} {σ : Sg} {h h' : Hp} {w w' : World} (hr : HR base σ h w) {b o e : Nat} {new cs : List Value} {t : TypeId} {g : Nat} {rest : List Nat}
    (hx : Extended h h' b o e new cs t g rest) {eb en : En} (hb : σ b = some eb) (hsz : w.heap.size ≤ w'.heap.size) (hen : en.rb < w'.heap.size)
    (hnew : Lies base (σ.put h.next en) w' en ((cs.drop o).take (e - o) ++ new) (some g))
    (hcut : Lies base (σ.put h.next en) w' eb (cs.take e) (some g))
    (hold : ∀ x ex csx tx gx, σ x = some ex → h.ob x = some (.cells csx tx gx) → x ≠ b → (gx = some g → x ∈ rest ∧ e = cs.length) → h.live x gx = true → Lies base σ w ex csx gx → Lies base (σ.put h.next en) w' ex csx gx)
    (hrb : en.rb = eb.rb ∨ ∀ x ex, σ x = some ex → ex.rb ≠ en.rb) (hro : en.rb = eb.rb → en.ro = eb.ro + o)
    (hrow : ∀ (k : Nat) (o : Obj), w.heap[k]? = some o → Obj.rowOf o = false → w'.heap[k]? = some o) :
    HR base (σ.put h.next en) h' w' := by
  have hσ : σ h.next = none := hr.none_next (Nat.le_refl _)
  have hle : σ.le (σ.put h.next en) := Sg.put_le hσ
  have hbn : b ≠ h.next := by have := (hr.dom _ _ hb).1; omega
  have hput : ∀ x ex, (σ.put h.next en) x = some ex → (x = h.next ∧ ex = en) ∨ (x ≠ h.next ∧ σ x = some ex) := by
    intro x ex hxx
    unfold Sg.put at hxx
    split at hxx
    · rename_i hh; left; exact ⟨hh, by simpa using hxx.symm⟩
    · rename_i hh; right; exact ⟨hh, hxx⟩
  have hgn : g ≠ h.next := by have := hr.grp b cs t g hx.old; omega
  obtain ⟨r, hbel, hmem, hpair⟩ := hr.below_spec hx.old hx.live
  have hrest : ∀ x ∈ rest, h.live x (some g) = true ∧ (∃ csx tx, h.ob x = some (.cells csx tx (some g))) ∧ (x ≠ b → e = cs.length) := by
    intro x hxr
    rcases hx.rest with ⟨hf, hreq⟩ | hreq
    · rw [hreq, hbel] at hxr
      exact ⟨(hmem x hxr).1, (hmem x hxr).2, fun _ => hf⟩
    · rw [hreq] at hxr; simp at hxr; subst hxr
      exact ⟨hx.live, ⟨cs, t, hx.old⟩, fun hne => absurd rfl hne⟩
  have hlive' : ∀ x gx, h'.live x gx = true → (x = h.next ∧ gx = some g) ∨ (h.live x gx = true ∧ (gx = some g → x ∈ rest)) := by
    intro x gx hl
    cases gx with
    | none => right; exact ⟨rfl, by simp⟩
    | some gx =>
      rw [Hp.live_iff, hx.gs] at hl
      by_cases hgx : gx = g
      · subst hgx
        simp at hl
        rcases hl with hl | hl
        · left; exact ⟨hl, rfl⟩
        · right; exact ⟨(hrest x hl).1, fun _ => hl⟩
      · rw [if_neg hgx] at hl
        right; exact ⟨by rw [Hp.live_iff]; exact hl, fun e' => absurd (by simpa using e') hgx⟩
  have hob' : ∀ x, x ≠ h.next → x ≠ b → h'.ob x = h.ob x := by
    intro x h1 h2; rw [hx.ob, if_neg h1, if_neg h2]
  have hobb : h'.ob b = some (.cells (cs.take e) t (some g)) := by rw [hx.ob, if_neg hbn, if_pos rfl]
  have hobn : h'.ob h.next = some (.cells ((cs.drop o).take (e - o) ++ new) t (some g)) := by rw [hx.ob, if_pos rfl]
  have holen : ((cs.drop o).take (e - o)).length = e - o := by have := hx.e_le; simp; omega
  -- what a block of the new heap was in the old one
  have was : ∀ x csx tx gx, x ≠ h.next → h'.ob x = some (.cells csx tx gx) → ∃ cs0, h.ob x = some (.cells cs0 tx gx) ∧ (x ≠ b → cs0 = csx) ∧ (x = b → csx = cs.take e ∧ cs0 = cs) := by
    intro x csx tx gx hne hobx
    by_cases hxb : x = b
    · subst hxb
      rw [hobb] at hobx; cases hobx
      exact ⟨cs, hx.old, fun h => absurd rfl h, fun _ => ⟨rfl, rfl⟩⟩
    · rw [hob' x hne hxb] at hobx
      exact ⟨csx, hobx, fun _ => rfl, fun h => absurd h hxb⟩
  have hoth : Oth base (σ.put h.next en) h' w' := by
    refine hr.oth.step hle ?_ hrow ?_
    · intro x ex ox h1 h2 h3
      rcases hput x ex h1 with ⟨rfl, rfl⟩ | ⟨h4, h5⟩
      · rw [hobn] at h2; cases h2; simp [Ob.isOth] at h3
      · by_cases hxb : x = b
        · subst hxb; rw [hobb] at h2; cases h2; simp [Ob.isOth] at h3
        · rw [hob' x h4 hxb] at h2; exact ⟨h2, h5⟩
    · intro x ex h1 h2
      rcases hput x ex h1 with ⟨rfl, rfl⟩ | ⟨h4, h5⟩
      · obtain ⟨⟨c, el, fr, k1, _⟩, _⟩ := hnew
        left; exact ⟨_, k1, rfl⟩
      · rw [h5] at h2; simp at h2
  refine ⟨Nat.le_trans hr.base_le hsz, ?_, ?_, ?_, ?_, ?_, ?_, ?_, ?_, hoth⟩
  · intro x ex hxx
    rw [hx.next]
    rcases hput x ex hxx with ⟨rfl, rfl⟩ | ⟨_, h2⟩
    · exact ⟨by omega, hen⟩
    · have := hr.dom _ _ h2; omega
  · intro x hxx
    rw [hx.next] at hxx
    have hf := hr.fresh x (by omega)
    have hxb : x ≠ b := by have := (hr.dom _ _ hb).1; omega
    rw [hob' x (by omega) hxb, hx.gs]
    have := hr.grp b cs t g hx.old
    rw [if_neg (by omega)]
    exact hf
  · intro x ex csx tx gx hxx hobx hlx
    rcases hput x ex hxx with ⟨rfl, rfl⟩ | ⟨hne, h2⟩
    · rw [hobn] at hobx; cases hobx; exact hnew
    · rcases hlive' x gx hlx with ⟨e1, _⟩ | ⟨hl0, hmemr⟩
      · exact absurd e1 hne
      · by_cases hxb : x = b
        · subst hxb
          rw [hobb] at hobx; cases hobx
          rw [hb] at h2; cases h2
          exact hcut
        · rw [hob' x hne hxb] at hobx
          exact hold x ex csx tx gx h2 hobx hxb (fun hg => ⟨hmemr hg, (hrest x (hmemr hg)).2.2 hxb⟩) hl0 (hr.cell x ex csx tx gx h2 hobx hl0)
  · intro x csx tx gx hobx
    rw [hx.next]
    by_cases hne : x = h.next
    · subst hne; rw [hobn] at hobx; cases hobx; have := hr.grp b cs t g hx.old; omega
    · obtain ⟨cs0, h0, _⟩ := was x csx tx _ hne hobx
      have := hr.grp x cs0 tx gx h0; omega
  · intro x ex csx tx gx hxx hobx
    rcases hput x ex hxx with ⟨rfl, rfl⟩ | ⟨hne, h2⟩
    · rw [hobn] at hobx; cases hobx
      obtain ⟨e', he'⟩ := hr.gdom b eb cs t g hb hx.old
      exact ⟨e', hle _ _ he'⟩
    · obtain ⟨cs0, h0, _⟩ := was x csx tx _ hne hobx
      obtain ⟨e', he'⟩ := hr.gdom x ex cs0 tx gx h2 h0
      exact ⟨e', hle _ _ he'⟩
  · intro gx l hgx x hxl
    rw [hx.gs] at hgx
    have key : x = h.next ∧ gx = g ∨ ∃ csx tx, h.ob x = some (.cells csx tx (some gx)) := by
      split at hgx
      · rename_i e1; subst e1
        simp at hgx; subst hgx
        simp at hxl
        rcases hxl with hxl | hxl
        · left; exact ⟨hxl, rfl⟩
        · right; exact (hrest x hxl).2.1
      · right; exact hr.stack gx l hgx x hxl
    rcases key with ⟨rfl, rfl⟩ | ⟨csx, tx, h0⟩
    · exact ⟨_, _, hobn⟩
    · by_cases hne : x = h.next
      · subst hne; rw [(hr.fresh _ (Nat.le_refl _)).1] at h0; simp at h0
      · by_cases hxb : x = b
        · subst hxb; rw [hx.old] at h0; cases h0; exact ⟨_, _, hobb⟩
        · exact ⟨csx, tx, by rw [hob' x hne hxb]; exact h0⟩
  · intro gx l hgx
    rw [hx.gs] at hgx
    split at hgx
    · rename_i e1; subst e1
      simp at hgx; subst hgx
      refine List.pairwise_cons.2 ⟨?_, ?_⟩
      · intro x hxr e1 e2 cs1 cs2 t1 t2 g1 g2 s1 s2 o1 o2 hrbe
        rw [hobn] at o1; cases o1
        have hxn : x ≠ h.next := by
          rintro rfl
          obtain ⟨_, _, hh⟩ := (hrest _ hxr).2.1
          rw [(hr.fresh _ (Nat.le_refl _)).1] at hh; simp at hh
        rcases hput _ _ s1 with ⟨_, rfl⟩ | ⟨hn, _⟩
        · rcases hput x e2 s2 with ⟨hn, _⟩ | ⟨_, s2'⟩
          · exact absurd hn hxn
          · rcases hrb with hrb | hrb
            · have hro' := hro hrb
              by_cases hxb : x = b
              · subst hxb
                rw [hobb] at o2; cases o2
                rw [hb] at s2'; cases s2'
                have h1 := hx.o_le; have h2 := hx.e_le
                simp; omega
              · rw [hob' x hxn hxb] at o2
                have hfull := (hrest x hxr).2.2 hxb
                rcases hx.rest with ⟨_, hreq⟩ | hreq
                · rw [hreq, hbel] at hxr
                  have hxr' : x ∈ r := by simp at hxr; rcases hxr with h | h; exact absurd h hxb; exact h
                  have := (List.pairwise_cons.1 hpair).1 x hxr' eb e2 cs cs2 t t2 _ _ hb s2' hx.old o2 (hrb ▸ hrbe)
                  have h1 := hx.o_le
                  simp [holen]; omega
                · rw [hreq] at hxr; simp at hxr; exact absurd hxr hxb
            · exact absurd hrbe.symm (hrb x e2 s2')
        · exact absurd rfl hn
      · rcases hx.rest with ⟨hf, hreq⟩ | hreq
        · rw [hreq, hbel]
          refine hpair.imp_of_mem fun {b1 b2} m1 m2 hp => ?_
          intro e1 e2 cs1 cs2 t1 t2 g1 g2 s1 s2 o1 o2
          have n1 : b1 ≠ h.next := by rintro rfl; obtain ⟨_, _, hh⟩ := (hmem _ m1).2; rw [(hr.fresh _ (Nat.le_refl _)).1] at hh; simp at hh
          have n2 : b2 ≠ h.next := by rintro rfl; obtain ⟨_, _, hh⟩ := (hmem _ m2).2; rw [(hr.fresh _ (Nat.le_refl _)).1] at hh; simp at hh
          rcases hput b1 e1 s1 with ⟨hh, _⟩ | ⟨_, s1'⟩
          · exact absurd hh n1
          · rcases hput b2 e2 s2 with ⟨hh, _⟩ | ⟨_, s2'⟩
            · exact absurd hh n2
            · obtain ⟨c1, w1, q1, p1⟩ := was b1 cs1 t1 g1 n1 o1
              obtain ⟨c2, w2, q2, p2⟩ := was b2 cs2 t2 g2 n2 o2
              have hlen1 : c1.length = cs1.length := by
                by_cases hbb : b1 = b
                · obtain ⟨x1, x2⟩ := p1 hbb; rw [x1, x2, hf, List.take_length]
                · rw [q1 hbb]
              have hlen2 : c2.length = cs2.length := by
                by_cases hbb : b2 = b
                · obtain ⟨x1, x2⟩ := p2 hbb; rw [x1, x2, hf, List.take_length]
                · rw [q2 hbb]
              intro hrbe
              have := hp e1 e2 c1 c2 t1 t2 g1 g2 s1' s2' w1 w2 hrbe
              omega
        · rw [hreq]; simp
    · rename_i hgne
      refine (hr.nest gx l hgx).imp_of_mem fun {b1 b2} m1 m2 hp => ?_
      intro e1 e2 cs1 cs2 t1 t2 g1 g2 s1 s2 o1 o2
      have n1 : b1 ≠ h.next := by rintro rfl; obtain ⟨_, _, hh⟩ := hr.stack gx l hgx _ m1; rw [(hr.fresh _ (Nat.le_refl _)).1] at hh; simp at hh
      have n2 : b2 ≠ h.next := by rintro rfl; obtain ⟨_, _, hh⟩ := hr.stack gx l hgx _ m2; rw [(hr.fresh _ (Nat.le_refl _)).1] at hh; simp at hh
      have k1 : b1 ≠ b := by rintro rfl; obtain ⟨_, _, hh⟩ := hr.stack gx l hgx _ m1; rw [hx.old] at hh; cases hh; exact hgne rfl
      have k2 : b2 ≠ b := by rintro rfl; obtain ⟨_, _, hh⟩ := hr.stack gx l hgx _ m2; rw [hx.old] at hh; cases hh; exact hgne rfl
      rw [hob' b1 n1 k1] at o1
      rw [hob' b2 n2 k2] at o2
      rcases hput b1 e1 s1 with ⟨hh, _⟩ | ⟨_, s1'⟩
      · exact absurd hh n1
      · rcases hput b2 e2 s2 with ⟨hh, _⟩ | ⟨_, s2'⟩
        · exact absurd hh n2
        · exact hp e1 e2 cs1 cs2 t1 t2 g1 g2 s1' s2' o1 o2
  · intro b1 b2 e1 e2 cs1 cs2 t1 t2 g1 g2 s1 s2 o1 o2 l1 l2 hrbe
    -- a block that shares the new block's memory is of its group
    have one : ∀ x ex csx tx gx, x ≠ h.next → σ x = some ex → h'.ob x = some (.cells csx tx (some gx)) → h'.live x (some gx) = true → en.rb = ex.rb → gx = g := by
      intro x ex csx tx gx hne s hobx hlx hrb'
      rcases hrb with hrb | hrb
      · obtain ⟨cs0, w0, _⟩ := was x csx tx _ hne hobx
        rcases hlive' x _ hlx with ⟨hh, _⟩ | ⟨hl0, _⟩
        · exact absurd hh hne
        · exact hr.apart x b ex eb cs0 cs tx t gx g s hb w0 hx.old hl0 hx.live (hrb'.symm.trans hrb)
      · exact absurd hrb'.symm (hrb x ex s)
    by_cases hn1 : b1 = h.next
    · subst hn1
      rw [hobn] at o1; cases o1
      by_cases hn2 : b2 = h.next
      · subst hn2; rw [hobn] at o2; cases o2; rfl
      · rcases hput _ _ s1 with ⟨_, rfl⟩ | ⟨hh, _⟩
        · rcases hput b2 e2 s2 with ⟨hh, _⟩ | ⟨_, s2'⟩
          · exact absurd hh hn2
          · exact (one b2 e2 cs2 t2 g2 hn2 s2' o2 l2 hrbe).symm
        · exact absurd rfl hh
    · rcases hput b1 e1 s1 with ⟨hh, _⟩ | ⟨_, s1'⟩
      · exact absurd hh hn1
      · by_cases hn2 : b2 = h.next
        · subst hn2
          rw [hobn] at o2; cases o2
          rcases hput _ _ s2 with ⟨_, rfl⟩ | ⟨hh, _⟩
          · exact one b1 e1 cs1 t1 g1 hn1 s1' o1 l1 hrbe.symm
          · exact absurd rfl hh
        · rcases hput b2 e2 s2 with ⟨hh, _⟩ | ⟨_, s2'⟩
          · exact absurd hh hn2
          · obtain ⟨c1, w1, _⟩ := was b1 cs1 t1 _ hn1 o1
            obtain ⟨c2, w2, _⟩ := was b2 cs2 t2 _ hn2 o2
            rcases hlive' b1 _ l1 with ⟨hh, _⟩ | ⟨k1, _⟩
            · exact absurd hh hn1
            · rcases hlive' b2 _ l2 with ⟨hh, _⟩ | ⟨k2, _⟩
              · exact absurd hh hn2
              · exact hr.apart b1 b2 e1 e2 c1 c2 t1 t2 g1 g2 s1' s2' w1 w2 k1 k2 hrbe

theorem Extended.untouched {base : Nat} {σ : Sg} {h h' : Hp} {w : World} (hr : HR base σ h w) {b o e : Nat} {new cs : List Value} {t : TypeId} {g : Nat} {rest : List Nat}
    (hx : Extended h h' b o e new cs t g rest) {eb en : En} (hb : σ b = some eb) : ∀ x, x < h.next → σ x = none → h'.ob x = h.ob x ∧ h'.gs.get x = h.gs.get x ∧ (σ.put h.next en) x = none := by
  intro x hxl hs
  have hxb : x ≠ b := by rintro rfl; rw [hb] at hs; simp at hs
  have hxg : x ≠ g := by
    rintro rfl
    obtain ⟨e', he'⟩ := hr.gdom b eb cs t x hb hx.old
    rw [he'] at hs; simp at hs
  refine ⟨by rw [hx.ob, if_neg (by omega), if_neg hxb], by rw [hx.gs, if_neg hxg], ?_⟩
  unfold Sg.put; rw [if_neg (by omega)]; exact hs

/-- The model made a new array. -/
theorem HR.extend_new {base : Nat} {σ : Sg} {h h' : Hp} {w w' : World} (hr : HR base σ h w) {b o e : Nat} {new new' : List Value} (hx : h.extend b o e new = some h') {eb : En} (hb : σ b = some eb)
    (hv : LRel σ new new') {c : Array Value} {el : TypeId} {fr : Nat × Nat} (hw : WNew w w' (.cells c el fr)) (hfr : ∀ j, j < c.size → ¬ (fr.1 ≤ j ∧ j < fr.2))
    (hold : ∀ j, j < e - o → ∀ v, w.cell? ⟨eb.rb, eb.ro + o + j, none⟩ = some v → c[j]? = some v) (hnew : ∀ (j : Nat) v, new'[j]? = some v → c[e - o + j]? = some v) (hsz : e - o + new.length ≤ c.size) :
    ∃ en, HR base (σ.put h.next en) h' w' ∧ Ext base σ h w (σ.put h.next en) h' w' ∧ en = ⟨w.heap.size, 0, c.size⟩ := by
  have hbn : b ≠ h.next := by have := (hr.dom _ _ hb).1; omega
  obtain ⟨cs, t, g, rest, hx⟩ := Hp.extend_spec hx hbn
  have hσ : σ h.next = none := hr.none_next (Nat.le_refl _)
  have hle : σ.le (σ.put h.next ⟨w.heap.size, 0, c.size⟩) := Sg.put_le hσ
  have hkeep : ∀ k, k < w.heap.size → w'.heap[k]? = w.heap[k]? := by
    intro k hk; rw [hw.heap, Array.getElem?_push, if_neg (by omega)]
  obtain ⟨⟨c0, el0, fr0, h1, h2, h3, h4, h5⟩, h6⟩ := hr.cell b eb cs t (some g) hb hx.old hx.live
  have ho := hx.o_le; have he := hx.e_le
  have hlen : ((cs.drop o).take (e - o)).length = e - o := by simp; omega
  refine ⟨_, hr.extended hx hb (by rw [hw.heap]; simp) (by rw [hw.heap]; simp) ?_ ?_ ?_ (.inr ?_) ?_ (fun k o h1 _ => by rw [hkeep k (Array.getElem?_eq_some_iff.1 h1).1]; exact h1), ⟨hle, hw.os, hw.tape, hw.output, by rw [hw.heap]; simp, ?_, ?_, ?_, by rw [hx.next]; omega, hx.untouched hr hb⟩, rfl⟩
  · refine ⟨⟨c, el, fr, by rw [hw.heap]; simp, rfl, by simp; omega, ?_, fun _ => hfr⟩, hr.base_le⟩
    intro i v hv'
    rw [List.getElem?_append] at hv'
    split at hv'
    · rename_i hi
      rw [hlen] at hi
      rw [List.getElem?_take, if_pos hi, List.getElem?_drop] at hv'
      obtain ⟨v', k1, k2⟩ := h4 _ _ hv'
      refine ⟨v', ?_, k2.mono hle⟩
      simp only [Nat.zero_add]
      refine hold i hi v' ?_
      simp only [World.cell?, h1]
      rw [show eb.ro + o + i = eb.ro + (o + i) by omega]; simpa using k1
    · rename_i hi
      rw [hlen] at hi hv'
      obtain ⟨v', k1, k2⟩ := hv.get hv'
      refine ⟨v', ?_, k2.mono hle⟩
      have := hnew _ _ k1
      rw [show e - o + (i - (e - o)) = i by omega] at this
      simpa using this
  · refine ⟨⟨c0, el0, fr0, by rw [hkeep _ (hr.dom _ _ hb).2]; exact h1, h2, by simp; omega, ?_, h5⟩, h6⟩
    intro i v hv'
    rw [List.getElem?_take] at hv'
    split at hv'
    · obtain ⟨v', k1, k2⟩ := h4 _ _ hv'; exact ⟨v', k1, k2.mono hle⟩
    · simp at hv'
  · intro x ex csx tx gx s _ _ _ _ hl
    obtain ⟨⟨c1, el1, fr1, q1, q2, q3, q4, q5⟩, q6⟩ := hl
    refine ⟨⟨c1, el1, fr1, by rw [hkeep _ (hr.dom _ _ s).2]; exact q1, q2, q3, ?_, q5⟩, q6⟩
    intro i v hv'
    obtain ⟨v', k1, k2⟩ := q4 i v hv'; exact ⟨v', k1, k2.mono hle⟩
  · intro x ex s
    have := (hr.dom _ _ s).2
    simp; omega
  · intro hh
    have := (hr.dom _ _ hb).2
    simp at hh; omega
  · intro k hk; exact hkeep k (by have := hr.base_le; omega)
  · intro k hk _; exact hkeep k hk
  · intro x ex s hxx
    unfold Sg.put at hxx
    split at hxx
    · right; simp at hxx; subst hxx; simp
    · rw [s] at hxx; simp at hxx

/-- The model wrote behind the old cells. -/
theorem HR.extend_in {base : Nat} {σ : Sg} {h h' : Hp} {w : World} (hr : HR base σ h w) {b o e : Nat} {new new' : List Value} (hx : h.extend b o e new = some h') {eb : En} (hb : σ b = some eb)
    (hv : LRel σ new new') (hroom : eb.ro + e + new'.length ≤ eb.rs) :
    (∃ en, HR base (σ.put h.next en) h' (w.setCells eb.rb (eb.ro + e) new') ∧ Ext base σ h w (σ.put h.next en) h' (w.setCells eb.rb (eb.ro + e) new') ∧ en = ⟨eb.rb, eb.ro + o, eb.rs⟩) ∧
    (∀ j, j < new'.length → (w.cell? ⟨eb.rb, eb.ro + e + j, none⟩).isSome = true) ∧ (∀ j, j < new'.length → w.frozen? ⟨eb.rb, eb.ro + e + j, none⟩ = false) := by
  have hbn : b ≠ h.next := by have := (hr.dom _ _ hb).1; omega
  obtain ⟨cs, t, g, rest, hx⟩ := Hp.extend_spec hx hbn
  have hσ : σ h.next = none := hr.none_next (Nat.le_refl _)
  have hle : σ.le (σ.put h.next ⟨eb.rb, eb.ro + o, eb.rs⟩) := Sg.put_le hσ
  obtain ⟨⟨c0, el0, fr0, h1, h2, h3, h4, h5⟩, h6⟩ := hr.cell b eb cs t (some g) hb hx.old hx.live
  have h6 : base ≤ eb.rb := h6
  have ho := hx.o_le; have he := hx.e_le
  have hlen : ((cs.drop o).take (e - o)).length = e - o := by simp; omega
  have hnl := hv.1
  obtain ⟨c', hset, hc'⟩ := WSet.setCells eb.rb new' (eb.ro + e) w c0 el0 fr0 h1 (by omega)
  have hcs : c'.size = c0.size := by
    have := congrArg List.length hc'
    rw [splice_length (by simp; omega)] at this
    simpa using this
  have hget : ∀ i, c'[i]? = if eb.ro + e ≤ i ∧ i < eb.ro + e + new'.length then new'[i - (eb.ro + e)]? else c0[i]? := by
    intro i
    have : c'.toList[i]? = (splice c0.toList (eb.ro + e) new')[i]? := by rw [hc']
    rw [splice_get (by simp; omega)] at this
    simpa using this
  have hrbl := (hr.dom _ _ hb).2
  refine ⟨⟨⟨eb.rb, eb.ro + o, eb.rs⟩, hr.extended hx hb (by rw [hset.size]; exact Nat.le_refl _) (by rw [hset.size]; exact hrbl) ?_ ?_ ?_ (.inl rfl) (fun _ => rfl) (fun k o k1 k2 => by
      by_cases hk : k = eb.rb
      · rw [hk, h1] at k1; cases k1; simp [Obj.rowOf] at k2
      · rw [hset.ne k hk]; exact k1), ⟨hle, hset.os, hset.tape, hset.output, by rw [hset.size]; exact Nat.le_refl _, ?_, ?_, ?_, by rw [hx.next]; omega, hx.untouched hr hb⟩, rfl⟩, ?_, ?_⟩
  · refine ⟨⟨c', el0, fr0, hset.at_, by rw [hcs]; exact h2, by simp; omega, ?_, h5⟩, h6⟩
    intro i v hv'
    rw [List.getElem?_append] at hv'
    rw [hget]
    split at hv'
    · rename_i hi
      rw [hlen] at hi
      rw [List.getElem?_take, if_pos hi, List.getElem?_drop] at hv'
      obtain ⟨v', k1, k2⟩ := h4 _ _ hv'
      simp only
      rw [if_neg (by omega), show eb.ro + o + i = eb.ro + (o + i) by omega]
      exact ⟨v', k1, k2.mono hle⟩
    · rename_i hi
      rw [hlen] at hi hv'
      obtain ⟨v', k1, k2⟩ := hv.get hv'
      have hil : i - (e - o) < new'.length := (List.getElem?_eq_some_iff.1 k1).1
      simp only
      rw [if_pos (by omega), show eb.ro + o + i - (eb.ro + e) = i - (e - o) by omega]
      exact ⟨v', k1, k2.mono hle⟩
  · refine ⟨⟨c', el0, fr0, hset.at_, by rw [hcs]; exact h2, by simp; omega, ?_, h5⟩, h6⟩
    intro i v hv'
    rw [List.getElem?_take] at hv'
    split at hv'
    · obtain ⟨v', k1, k2⟩ := h4 _ _ hv'
      rw [hget, if_neg (by omega)]; exact ⟨v', k1, k2.mono hle⟩
    · simp at hv'
  · intro x ex csx tx gx s hobx hxb hgx hlx hl
    obtain ⟨⟨c1, el1, fr1, q1, q2, q3, q4, q5⟩, q6⟩ := hl
    by_cases hrbe : ex.rb = eb.rb
    · -- it shares the memory: it is older, of the same group, and reaches no further
      cases gx with
      | none => have q6 : ex.rb < base := q6; omega
      | some gx =>
        have hgg := hr.apart x b ex eb csx cs tx t gx g s hb hobx hx.old hlx hx.live hrbe
        subst hgg
        obtain ⟨hmr, hf⟩ := hgx rfl
        obtain ⟨r, hbel, hmem, hpair⟩ := hr.below_spec hx.old hx.live
        have hxr : x ∈ r := by
          rcases hx.rest with ⟨_, hreq⟩ | hreq
          · rw [hreq, hbel] at hmr; simp at hmr; rcases hmr with h | h; exact absurd h hxb; exact h
          · rw [hreq] at hmr; simp at hmr; exact absurd hmr hxb
        have hle' := (List.pairwise_cons.1 hpair).1 x hxr eb ex cs csx t tx _ _ hb s hx.old hobx hrbe.symm
        rw [hrbe, h1] at q1; cases q1
        refine ⟨⟨c', el0, fr0, by rw [hrbe]; exact hset.at_, by rw [hcs]; exact q2, q3, ?_, q5⟩, q6⟩
        intro i v hv'
        have hil := (List.getElem?_eq_some_iff.1 hv').1
        obtain ⟨v', k1, k2⟩ := q4 i v hv'
        rw [hget, if_neg (by omega)]; exact ⟨v', k1, k2.mono hle⟩
    · refine ⟨⟨c1, el1, fr1, by rw [hset.ne _ hrbe]; exact q1, q2, q3, ?_, q5⟩, q6⟩
      intro i v hv'
      obtain ⟨v', k1, k2⟩ := q4 i v hv'; exact ⟨v', k1, k2.mono hle⟩
  · intro k hk; exact hset.ne k (by omega)
  · intro k _ hno; exact hset.ne k (fun e' => hno _ _ hb e'.symm)
  · intro x ex s hxx
    unfold Sg.put at hxx
    split at hxx
    · left; simp at hxx; subst hxx; exact ⟨b, eb, hb, rfl⟩
    · rw [s] at hxx; simp at hxx
  · intro j hj
    have : eb.ro + e + j < c0.size := by omega
    simp [World.cell?, h1, this]
  · intro j hj
    have := h5 rfl (eb.ro + e + j) (by omega)
    simp only [World.frozen?, h1]
    simpa using this
end Go.Cn
