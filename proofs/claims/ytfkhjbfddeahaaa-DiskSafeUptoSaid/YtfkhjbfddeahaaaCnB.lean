/- The canonical semantics: the relation between a canonical state and a state of the model, and its first laws. -/
import Derived.Test.YtfkhjbfddeahaaaCnA
import Derived.Laws.IdiomCopy
import Derived.ChangeKeysEq
set_option linter.unusedVariables false
set_option linter.unusedSimpArgs false
namespace Go.Cn

/-! ### 1. The trie -/
theorem Tr.get_set {α : Type} (a : α) : ∀ (f n : Nat) (t : Tr α) (m : Nat), n < f → (Tr.set a f n t).get m = if m = n then some a else t.get m
  | 0, _, _, _, h => absurd h (by omega)
  | f + 1, n, .leaf, m, h => by
    unfold Tr.set
    by_cases hn : n = 0
    · subst hn; by_cases hm : m = 0
      · simp [Tr.get, hm]
      · simp [Tr.get, hm]
    · simp only [hn, if_false]
      by_cases hp : n % 2 = 1
      · simp only [hp, if_true]
        have ih := Tr.get_set a f (n / 2) .leaf
        by_cases hm : m = 0
        · subst hm; have : ¬ 0 = n := fun e => hn e.symm
          simp [Tr.get, this]
        · by_cases hq : m % 2 = 1
          · simp only [Tr.get, hm, if_false, hq, if_true, ih (m / 2) (by omega)]
            by_cases e : m = n
            · subst e; simp
            · rw [if_neg (by omega), if_neg e]
          · simp only [Tr.get, hm, if_false, hq]
            rw [if_neg (by rintro rfl; exact hq hp)]
      · simp only [hp, if_false]
        have ih := Tr.get_set a f (n / 2 - 1) .leaf
        by_cases hm : m = 0
        · subst hm; have : ¬ 0 = n := fun e => hn e.symm
          simp [Tr.get, this]
        · by_cases hq : m % 2 = 1
          · simp only [Tr.get, hm, if_false, hq, if_true]
            rw [if_neg (by rintro rfl; exact hp hq)]
          · simp only [Tr.get, hm, if_false, hq, ih (m / 2 - 1) (by omega)]
            by_cases e : m = n
            · subst e; simp
            · rw [if_neg (by omega), if_neg e]
  | f + 1, n, .node o l r, m, h => by
    unfold Tr.set
    by_cases hn : n = 0
    · subst hn; by_cases hm : m = 0
      · simp [Tr.get, hm]
      · simp [Tr.get, hm]
    · simp only [hn, if_false]
      by_cases hp : n % 2 = 1
      · simp only [hp, if_true]
        have ih := Tr.get_set a f (n / 2) l
        by_cases hm : m = 0
        · subst hm; have : ¬ 0 = n := fun e => hn e.symm
          simp [Tr.get, this]
        · by_cases hq : m % 2 = 1
          · simp only [Tr.get, hm, if_false, hq, if_true, ih (m / 2) (by omega)]
            by_cases e : m = n
            · subst e; simp
            · rw [if_neg (by omega), if_neg e]
          · simp only [Tr.get, hm, if_false, hq]
            rw [if_neg (by rintro rfl; exact hq hp)]
      · simp only [hp, if_false]
        have ih := Tr.get_set a f (n / 2 - 1) r
        by_cases hm : m = 0
        · subst hm; have : ¬ 0 = n := fun e => hn e.symm
          simp [Tr.get, this]
        · by_cases hq : m % 2 = 1
          · simp only [Tr.get, hm, if_false, hq, if_true]
            rw [if_neg (by rintro rfl; exact hp hq)]
          · simp only [Tr.get, hm, if_false, hq, ih (m / 2 - 1) (by omega)]
            by_cases e : m = n
            · subst e; simp
            · rw [if_neg (by omega), if_neg e]

theorem Hp.ob_setOb (h : Hp) (b : Nat) (o : Ob) (b' : Nat) : (h.setOb b o).ob b' = if b' = b then some o else h.ob b' := by
  unfold Hp.setOb Hp.ob; exact Tr.get_set _ _ _ _ _ (by omega)
theorem Hp.gs_setOb (h : Hp) (b : Nat) (o : Ob) : (h.setOb b o).gs = h.gs := rfl
theorem Hp.next_setOb (h : Hp) (b : Nat) (o : Ob) : (h.setOb b o).next = h.next := rfl
theorem Hp.gs_setGs (h : Hp) (g : Nat) (l : List Nat) (g' : Nat) : (h.setGs g l).gs.get g' = if g' = g then some l else h.gs.get g' := by
  unfold Hp.setGs; exact Tr.get_set _ _ _ _ _ (by omega)
theorem Hp.ob_setGs (h : Hp) (g : Nat) (l : List Nat) : (h.setGs g l).ob = h.ob := rfl
theorem Hp.next_setGs (h : Hp) (g : Nat) (l : List Nat) : (h.setGs g l).next = h.next := rfl
theorem Hp.ob_alloc (h : Hp) (cs : List Value) (e : TypeId) (b : Nat) : (h.alloc cs e).ob b = if b = h.next then some (.cells cs e (some h.next)) else h.ob b := by
  unfold Hp.alloc Hp.ob; exact Tr.get_set _ _ _ _ _ (by omega)
theorem Hp.gs_alloc (h : Hp) (cs : List Value) (e : TypeId) : (h.alloc cs e).gs = h.gs := rfl
theorem Hp.next_alloc (h : Hp) (cs : List Value) (e : TypeId) : (h.alloc cs e).next = h.next + 1 := rfl

/-! ### 2. Values -/
/-- Where a canonical block lies: the model's block, from which cell on, how many cells that block has. -/
structure En where
  rb : Nat
  ro : Nat
  rs : Nat

abbrev Sg := Nat → Option En
def Sg.le (σ σ' : Sg) : Prop := ∀ b e, σ b = some e → σ' b = some e
theorem Sg.le_refl (σ : Sg) : σ.le σ := fun _ _ h => h
theorem Sg.le_trans {a b c : Sg} (h : a.le b) (k : b.le c) : a.le c := fun _ _ e => k _ _ (h _ _ e)

inductive VRel (σ : Sg) : Value → Value → Prop where
  | unk (v : Value) : VRel σ unk v
  | bool (b : Bool) : VRel σ (.bool b) (.bool b)
  | int (k : IntKind) (n : Int) : VRel σ (.int k n) (.int k n)
  | float (k : FloatKind) (n : Nat) : VRel σ (.float k n) (.float k n)
  | complex (k : FloatKind) (n m : Nat) : VRel σ (.complex k n m) (.complex k n m)
  | string (s : ByteArray) : VRel σ (.string s) (.string s)
  | nilFunc : VRel σ .nilFunc .nilFunc
  | nilIface : VRel σ .nilIface .nilIface
  | pnil : VRel σ (.pointer none) (.pointer none)
  | ptr (b o : Nat) (e : En) : σ b = some e → VRel σ (.pointer (some ⟨b, o, none⟩)) (.pointer (some ⟨e.rb, e.ro + o, none⟩))
  | snil : VRel σ (.slice none 0 0) (.slice none 0 0)
  | sexact (b o l c : Nat) (e : En) (a : Addr) : σ b = some e → l ≤ c → (c = 0 ∨ a = ⟨e.rb, e.ro + o, none⟩) → VRel σ (.slice (some ⟨b, o, none⟩) l c) (.slice (some a) l c)
  | sopen (b o n l c c' : Nat) (e : En) (a : Addr) : σ b = some e → l ≤ c → c ≤ c' → (c' = 0 ∨ (a = ⟨e.rb, e.ro + o, none⟩ ∧ e.ro + o + c' * n ≤ e.rs)) →
      VRel σ (.slice (some ⟨b, o, some n⟩) l c) (.slice (some a) l c')
  | mnil : VRel σ (.map none) (.map none)
  | map (b : Nat) (e : En) : σ b = some e → VRel σ (.map (some b)) (.map (some e.rb))
  | func (fn : Fn) (a b a' b' : Array Value) : a.size = a'.size → b.size = b'.size → (∀ (i : Nat) x y, a[i]? = some x → a'[i]? = some y → VRel σ x y) →
      (∀ (i : Nat) x y, b[i]? = some x → b'[i]? = some y → VRel σ x y) → VRel σ (.func fn a b) (.func fn a' b')
  | iface (t : TypeId) (v v' : Value) : VRel σ v v' → VRel σ (.iface t v) (.iface t v')
  | agg (a a' : Array Value) : a.size = a'.size → (∀ (i : Nat) x y, a[i]? = some x → a'[i]? = some y → VRel σ x y) → VRel σ (.agg a) (.agg a')
  | tuple (a a' : Array Value) : a.size = a'.size → a.size ≠ 1 → (∀ (i : Nat) x y, a[i]? = some x → a'[i]? = some y → VRel σ x y) → VRel σ (.tuple a) (.tuple a')

theorem VRel.mono {σ σ' : Sg} (h : σ.le σ') {x y : Value} (hv : VRel σ x y) : VRel σ' x y := by
  induction hv with
  | unk v => exact .unk v
  | bool b => exact .bool b
  | int k n => exact .int k n
  | float k n => exact .float k n
  | complex k n m => exact .complex k n m
  | string s => exact .string s
  | nilFunc => exact .nilFunc
  | nilIface => exact .nilIface
  | pnil => exact .pnil
  | ptr b o e hb => exact .ptr b o e (h _ _ hb)
  | snil => exact .snil
  | sexact b o l c e a hb hl ha => exact .sexact b o l c e a (h _ _ hb) hl ha
  | sopen b o n l c c' e a hb hl hc ha => exact .sopen b o n l c c' e a (h _ _ hb) hl hc ha
  | mnil => exact .mnil
  | map b e hb => exact .map b e (h _ _ hb)
  | func fn a b a' b' ha hb h1 h2 ih1 ih2 => exact .func fn a b a' b' ha hb (fun i x y hx hy => ih1 i x y hx hy) (fun i x y hx hy => ih2 i x y hx hy)
  | iface t v v' hv ih => exact .iface t v v' ih
  | agg a a' ha h1 ih => exact .agg a a' ha (fun i x y hx hy => ih i x y hx hy)
  | tuple a a' ha h1 h2 ih => exact .tuple a a' ha h1 (fun i x y hx hy => ih i x y hx hy)

theorem VRel.undef (σ : Sg) : VRel σ undef undef := .tuple #[] #[] rfl (by simp) (by simp)

def LRel (σ : Sg) (xs ys : List Value) : Prop := xs.length = ys.length ∧ ∀ (i : Nat) x y, xs[i]? = some x → ys[i]? = some y → VRel σ x y
def TRel (σ : Sg) (tm : List Value) (tmps : Array Value) : Prop := tm.length = tmps.size ∧ ∀ (i : Nat), VRel σ (tm.getD i undef) (tmps.getD i undef)

theorem LRel.mono {σ σ' : Sg} (h : σ.le σ') {xs ys : List Value} (hv : LRel σ xs ys) : LRel σ' xs ys := ⟨hv.1, fun i x y hx hy => (hv.2 i x y hx hy).mono h⟩
theorem TRel.mono {σ σ' : Sg} (h : σ.le σ') {xs : List Value} {ys : Array Value} (hv : TRel σ xs ys) : TRel σ' xs ys := ⟨hv.1, fun i => (hv.2 i).mono h⟩

theorem LRel.nil (σ : Sg) : LRel σ [] [] := ⟨rfl, by simp⟩
theorem LRel.cons {σ : Sg} {x y : Value} {xs ys : List Value} (h : VRel σ x y) (hl : LRel σ xs ys) : LRel σ (x :: xs) (y :: ys) := by
  refine ⟨by simp [hl.1], fun i a b ha hb => ?_⟩
  cases i with
  | zero => simp at ha hb; subst ha; subst hb; exact h
  | succ i => simp at ha hb; exact hl.2 i a b ha hb
theorem LRel.append {σ : Sg} {xs ys xs' ys' : List Value} (h : LRel σ xs ys) (h' : LRel σ xs' ys') : LRel σ (xs ++ xs') (ys ++ ys') := by
  refine ⟨by simp [h.1, h'.1], fun i a b ha hb => ?_⟩
  by_cases hi : i < xs.length
  · rw [List.getElem?_append_left hi] at ha
    rw [List.getElem?_append_left (by rw [← h.1]; exact hi)] at hb
    exact h.2 i a b ha hb
  · rw [List.getElem?_append_right (by omega)] at ha
    rw [List.getElem?_append_right (by rw [← h.1]; omega), ← h.1] at hb
    exact h'.2 _ a b ha hb
theorem LRel.get {σ : Sg} {xs ys : List Value} (h : LRel σ xs ys) {i : Nat} {x : Value} (hx : xs[i]? = some x) : ∃ y, ys[i]? = some y ∧ VRel σ x y := by
  have hi : i < ys.length := by rw [← h.1]; exact (List.getElem?_eq_some_iff.1 hx).1
  exact ⟨ys[i], List.getElem?_eq_getElem hi, h.2 i x _ hx (List.getElem?_eq_getElem hi)⟩
theorem LRel.get' {σ : Sg} {xs ys : List Value} (h : LRel σ xs ys) {i : Nat} {y : Value} (hy : ys[i]? = some y) : ∃ x, xs[i]? = some x ∧ VRel σ x y := by
  have hi : i < xs.length := by rw [h.1]; exact (List.getElem?_eq_some_iff.1 hy).1
  exact ⟨xs[i], List.getElem?_eq_getElem hi, h.2 i _ y (List.getElem?_eq_getElem hi) hy⟩
theorem LRel.take {σ : Sg} {xs ys : List Value} (h : LRel σ xs ys) (n : Nat) : LRel σ (xs.take n) (ys.take n) := by
  refine ⟨by simp [h.1], fun i a b ha hb => ?_⟩
  rw [List.getElem?_take] at ha hb
  split at ha
  · rename_i hi; rw [if_pos hi] at hb; exact h.2 i a b ha hb
  · simp at ha
theorem LRel.drop {σ : Sg} {xs ys : List Value} (h : LRel σ xs ys) (n : Nat) : LRel σ (xs.drop n) (ys.drop n) := by
  refine ⟨by simp [h.1], fun i a b ha hb => ?_⟩
  rw [List.getElem?_drop] at ha hb
  exact h.2 _ a b ha hb
theorem LRel.of_agg {σ : Sg} {a a' : Array Value} (h1 : a.size = a'.size) (h2 : ∀ (i : Nat) x y, a[i]? = some x → a'[i]? = some y → VRel σ x y) : LRel σ a.toList a'.toList :=
  ⟨by simpa using h1, fun i x y hx hy => h2 i x y (by simpa using hx) (by simpa using hy)⟩
theorem LRel.to_agg {σ : Sg} {xs ys : List Value} (h : LRel σ xs ys) : VRel σ (.agg xs.toArray) (.agg ys.toArray) :=
  .agg _ _ (by simpa using h.1) (fun i x y hx hy => h.2 i x y (by simpa using hx) (by simpa using hy))

theorem TRel.put {σ : Sg} {tm : List Value} {a : Act} (h : TRel σ tm a.tmps) (d : Option Tmp) {v v' : Value} (hv : VRel σ v v') : TRel σ (put tm d v) (a.put d v').tmps := by
  cases d with
  | none => exact h
  | some d =>
    refine ⟨by simp [Cn.put, Act.put, h.1], fun i => ?_⟩
    simp only [Cn.put, Act.put]
    by_cases hi : i = d
    · subst hi
      by_cases hl : i < tm.length
      · rw [List.getD_eq_getElem?_getD, List.getElem?_set_self hl, Array.getD_eq_getD_getElem?, Array.getElem?_setIfInBounds_self_of_lt (by rw [← h.1]; exact hl)]
        exact hv
      · have := h.2 i
        rw [List.getD_eq_getElem?_getD, Array.getD_eq_getD_getElem?] at this ⊢
        rw [List.set_eq_of_length_le (by omega)]
        have hs : ¬ i < a.tmps.size := by rw [← h.1]; exact hl
        simpa [Array.getElem?_setIfInBounds, hs] using this
    · have := h.2 i
      rw [List.getD_eq_getElem?_getD, Array.getD_eq_getD_getElem?] at this ⊢
      rw [List.getElem?_set_ne (fun e => hi e.symm), Array.getElem?_setIfInBounds_ne (fun e => hi e.symm)]
      exact this

theorem Act.put_defers' (a : Act) (d : Option Tmp) (v : Value) : (a.put d v).defers = a.defers := by cases d <;> rfl

theorem plainV_rel (σ : Sg) : ∀ (n : Nat) (v : Value), plainV n v = true → VRel σ v v := by
  intro n
  induction n with
  | zero =>
    intro v h
    cases v with
    | bool b => exact .bool b
    | int k n => exact .int k n
    | float k n => exact .float k n
    | complex k n m => exact .complex k n m
    | string s => exact .string s
    | nilFunc => exact .nilFunc
    | nilIface => exact .nilIface
    | pointer a => cases a with
      | none => exact .pnil
      | some a => simp [plainV] at h
    | map a => cases a with
      | none => exact .mnil
      | some a => simp [plainV] at h
    | slice a l c =>
      cases a with
      | some a => simp [plainV] at h
      | none => cases l with
        | succ l => simp [plainV] at h
        | zero => cases c with
          | succ c => simp [plainV] at h
          | zero => exact .snil
    | _ => simp [plainV] at h
  | succ n ih =>
    intro v h
    cases v with
    | bool b => exact .bool b
    | int k n => exact .int k n
    | float k n => exact .float k n
    | complex k n m => exact .complex k n m
    | string s => exact .string s
    | nilFunc => exact .nilFunc
    | nilIface => exact .nilIface
    | pointer a => cases a with
      | none => exact .pnil
      | some a => simp [plainV] at h
    | map a => cases a with
      | none => exact .mnil
      | some a => simp [plainV] at h
    | slice a l c =>
      cases a with
      | some a => simp [plainV] at h
      | none => cases l with
        | succ l => simp [plainV] at h
        | zero => cases c with
          | succ c => simp [plainV] at h
          | zero => exact .snil
    | agg cs =>
      simp only [plainV, List.all_eq_true] at h
      refine .agg _ _ rfl fun i x y hx hy => ?_
      rw [hx] at hy; cases hy
      exact ih x (h x (by simpa using Array.mem_of_getElem? hx))
    | tuple cs =>
      simp only [plainV, Bool.and_eq_true, List.all_eq_true] at h
      refine .tuple _ _ rfl (by simpa using h.1) fun i x y hx hy => ?_
      rw [hx] at hy; cases hy
      exact ih x (h.2 x (by simpa using Array.mem_of_getElem? hx))
    | iface t v => exact .iface t v v (ih v (by simpa [plainV] using h))
    | _ => simp [plainV] at h

theorem ev_rel {σ : Sg} {tm : List Value} {a : Act} (h : TRel σ tm a.tmps) (x : Operand) : VRel σ (ev tm x) (a.eval x) := by
  cases x with
  | tmp t => exact h.2 t
  | const v =>
    simp only [ev, Act.eval]
    split
    · rename_i hp; exact plainV_rel σ 100 v hp
    · exact .unk v
  | global g => exact .unk _
  | func f => exact .func _ _ _ _ _ rfl rfl (by simp) (by simp)

theorem VRel.cells {σ : Sg} {x y : Value} (h : VRel σ x y) (hu : isUnk x = false) : LRel σ x.cells.toList y.cells.toList := by
  have one : ∀ {a b : Value}, VRel σ a b → LRel σ [a] [b] := fun h => LRel.cons h (LRel.nil σ)
  cases h with
  | unk v => simp [isUnk, Cn.unk] at hu
  | agg a a' h1 h2 => exact LRel.of_agg h1 h2
  | _ => refine one ?_; constructor <;> assumption

end Go.Cn
