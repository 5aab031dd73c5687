/- Conditions for a symbolic run: what an operation answers where its operands are known in shape, and on which condition. -/
import Derived.Test.YtfkhjbfddeahaaaCnV
set_option linter.unusedVariables false
set_option linter.unusedSimpArgs false
namespace Go.Cn

def blk : Option Addr → Nat
  | some a => a.block
  | none => 0
def off : Option Addr → Nat
  | some a => a.off
  | none => 0
/-- A plain place. -/
def plainA : Option Addr → Bool
  | some ⟨_, _, none⟩ => true
  | _ => false
def spotOk (n : Nat) : Option Addr → Prop
  | none => True
  | some a => a.spot = none ∨ a.spot = some n
def cutA (l : Int) (n : Nat) (a : Option Addr) : Option Addr := a.map fun a => ⟨a.block, a.off + l.toNat * n, a.spot⟩
def cutE (l : Int) (n : Nat) (a : Option Addr) : Option Addr := a.map fun a => ⟨a.block, a.off + l.toNat * n, none⟩
/-- A letter of a string. -/
def byteAt (s : ByteArray) (i : Int) : Int := ((s[i.toNat]?).getD 0).toNat

/-! Leaves: what stays as it is written in a symbolic run. -/
def addW (k : IntKind) (a b : Int) : Int := k.wrap (a + b)
def subW (k : IntKind) (a b : Int) : Int := k.wrap (a - b)
def mulW (k : IntKind) (a b : Int) : Int := k.wrap (a * b)
def quoW (k : IntKind) (a b : Int) : Int := k.wrap (a.tdiv b)
def remW (a b : Int) : Int := a.tmod b
def andW (k : IntKind) (a b : Int) : Int := k.wrap (BitVec.ofInt k.bits a &&& BitVec.ofInt k.bits b).toNat
def orW (k : IntKind) (a b : Int) : Int := k.wrap (BitVec.ofInt k.bits a ||| BitVec.ofInt k.bits b).toNat
def xorW (k : IntKind) (a b : Int) : Int := k.wrap (BitVec.ofInt k.bits a ^^^ BitVec.ofInt k.bits b).toNat
def andNotW (k : IntKind) (a b : Int) : Int := k.wrap (BitVec.ofInt k.bits a &&& ~~~BitVec.ofInt k.bits b).toNat
def shlW (k : IntKind) (a b : Int) : Int := k.wrap (a * 2 ^ min b.toNat k.bits)
def shrW (k : IntKind) (a b : Int) : Int := a.fdiv (2 ^ min b.toNat k.bits)
def negW (k : IntKind) (a : Int) : Int := k.wrap (0 - a)
def comW (k : IntKind) (a : Int) : Int := k.wrap (BitVec.ofInt k.bits (if k.signed then -1 else k.max) ^^^ BitVec.ofInt k.bits a).toNat
def toW (k : IntKind) (a : Int) : Int := k.wrap a
def eqI (a b : Int) : Bool := a == b
def neI (a b : Int) : Bool := a != b
def ltI (a b : Int) : Bool := a < b
def leI (a b : Int) : Bool := a ≤ b
def gtI (a b : Int) : Bool := a > b
def geI (a b : Int) : Bool := a ≥ b
def natI (n : Nat) : Int := n
def eqB (a b : Bool) : Bool := a == b
def notB (a : Bool) : Bool := !a
def andB (a b : Bool) : Bool := a && b
def sel {α : Type} (b : Bool) (x y : α) : α := bif b then x else y
def strEq (s u : ByteArray) : Bool := s.toList == u.toList
def strSame (s u : ByteArray) : Bool := s == u
def strLt (s u : ByteArray) : Bool := Op.bytesLess s.toList u.toList
def strLe (s u : ByteArray) : Bool := Op.bytesLess s.toList u.toList || s.toList == u.toList
def strCat (s u : ByteArray) : ByteArray := s ++ u
def strSub (s : ByteArray) (l h : Int) : ByteArray := s.extract l.toNat h.toNat
def catOk (s u : ByteArray) : Prop := ((s.size + u.size : Nat) : Int) ≤ IntKind.i64.max
def subOk (s : ByteArray) (l h : Int) : Prop := 0 ≤ l ∧ l ≤ h ∧ h ≤ s.size
def lenS (s : ByteArray) : Nat := s.size
def plusN (o n : Nat) : Nat := o + n
def plusI (o : Nat) (i : Int) (n : Nat) : Nat := o + i.toNat * n
def inR (i : Int) (n : Nat) : Prop := 0 ≤ i ∧ i < (n : Int)
def nonneg (i : Int) : Prop := 0 ≤ i
def nonzero (i : Int) : Prop := i ≠ 0
def diffN (h l : Int) : Nat := h.toNat - l.toNat
/-- The bounds of a slice of a slice. -/
def cutOk (l h m cap : Int) : Prop := 0 ≤ l ∧ l ≤ h ∧ h ≤ m ∧ m ≤ cap
def maxI (a b : Int) : Int := if a ≥ b then a else b
def minI (a b : Int) : Int := if a ≤ b then a else b

section
variable (P : Program)

def isN (a : Option Addr) : Bool := a.isNone

/-- == as a Bool. -/
def vceq : (depth : Nat) → TypeId → Value → Value → Option Bool
  | 0, _, _, _ => none
  | d + 1, t, x, y =>
    match P.underlying t, x, y with
    | some .bool, .bool a, .bool b => some (eqB a b)
    | some (.int _), .int k a, .int k' b => if k = k' then some (eqI a b) else none
    | some .string, .string a, .string b => some (strSame a b)
    | some (.slice _), .slice a _ _, .slice none _ _ => some (isN a)
    | some (.pointer _), .pointer a, .pointer none => some (isN a)
    | some (.struct fs), .agg xs, .agg ys =>
      if noStood P t = false then none else
      fs.toList.foldr (fun f acc =>
        if f.name ≠ "_" then
          match part? P f.type xs f.offset, part? P f.type ys f.offset with
          | some a, some b => match vceq d f.type a b, acc with
            | some r, some s => some (andB r s)
            | _, _ => none
          | _, _ => none
        else acc) (some true)
    | _, _, _ => ceq P (d + 1) t x y

def boundI (x : Option Value) (dflt : Int) : Option Int :=
  match x with
  | none => some dflt
  | some (.int _ i) => some i
  | some _ => none

/-- A condition, or none. -/
def cnd : Option Prop → Prop
  | none => True
  | some p => p

/-- A slice of a slice. -/
def vslice (elem : TypeId) (a : Option Addr) (len cap : Nat) (lo hi mx : Option Value) : Option (Value × Option Prop) :=
  match size? P elem, boundI lo 0, boundI hi (natI len), boundI mx (natI cap) with
  | some n, some l, some h, some m =>
    match mx, hi with
    | none, _ => some (.slice (cutA l n a) (diffN h l) (diffN m l), some (cutOk l h m (natI cap) ∧ spotOk n a))
    | some _, some _ => some (.slice (cutE l n a) (diffN h l) (diffN m l), some (cutOk l h m (natI cap)))
    | some _, none => none
  | _, _, _, _ => none

/-- A part of a string. -/
def vsub (s : ByteArray) (lo hi : Option Value) : Option (Value × Option Prop) :=
  match boundI lo 0, boundI hi (natI (lenS s)) with
  | some l, some h => some (.string (strSub s l h), some (subOk s l h))
  | _, _ => none

def vint (op : BinOp) (k : IntKind) (a b : Int) : Option (Value × Option Prop) :=
  match op with
  | .add => some (.int k (addW k a b), none)
  | .sub => some (.int k (subW k a b), none)
  | .mul => some (.int k (mulW k a b), none)
  | .quo => some (.int k (quoW k a b), some (nonzero b))
  | .rem => some (.int k (remW a b), some (nonzero b))
  | .and => some (.int k (andW k a b), none)
  | .or => some (.int k (orW k a b), none)
  | .xor => some (.int k (xorW k a b), none)
  | .andNot => some (.int k (andNotW k a b), none)
  | .eql => some (.bool (eqI a b), none)
  | .neq => some (.bool (neI a b), none)
  | .lss => some (.bool (ltI a b), none)
  | .leq => some (.bool (leI a b), none)
  | .gtr => some (.bool (gtI a b), none)
  | .geq => some (.bool (geI a b), none)
  | _ => none

def vstr (op : BinOp) (s u : ByteArray) : Option (Value × Option Prop) :=
  match op with
  | .add => some (.string (strCat s u), some (catOk s u))
  | .eql => some (.bool (strEq s u), none)
  | .neq => some (.bool (notB (strEq s u)), none)
  | .lss => some (.bool (strLt s u), none)
  | .leq => some (.bool (strLe s u), none)
  | .gtr => some (.bool (notB (strLe s u)), none)
  | .geq => some (.bool (notB (strLt s u)), none)
  | _ => none

def vbin (op : BinOp) (t : TypeId) (x y : Operand) (a b : Value) : Option (Value × Option Prop) :=
  match a, b with
  | .int k m, .int k' n =>
    match op with
    | .shl => some (.int k (shlW k m n), some (nonneg n))
    | .shr => some (.int k (shrW k m n), some (nonneg n))
    | _ => if k = k' then vint op k m n else none
  | .string s, .string u => vstr op s u
  | .float _ _, _ | .complex _ _ _, _ => none
  | a, b =>
    match op with
    | .eql => if eqPlain P t x y a b then (vceq P Op.maxDepth t a b).map fun r => (.bool r, none) else none
    | .neq => if eqPlain P t x y a b then (vceq P Op.maxDepth t a b).map fun r => (.bool (notB r), none) else none
    | _ => none

/-- An operation that looks at its operands alone: its value, and on which condition. -/
def vpop (tm : List Value) (op : Op) : Option (Value × Option Prop) :=
  match op with
  | .nilCheck x => match ev tm x with
    | .pointer a => some (.pointer a, some (a.isSome = true))
    | .iface t v => some (.iface t v, none)
    | .func (.func f) a b => some (.func (.func f) a b, none)
    | _ => none
  | .binOp o t x y _ => vbin P o t x y (ev tm x) (ev tm y)
  | .unOp o _ x =>
    match o, ev tm x with
    | .neg, .int k n => some (.int k (negW k n), none)
    | .xor, .int k n => some (.int k (comW k n), none)
    | .not, .bool b => some (.bool (notB b), none)
    | _, _ => none
  | .convert s d x =>
    match P.underlying s, P.underlying d, ev tm x with
    | some _, some (.int k), .int _ n => some (.int k (toW k n), none)
    | some _, some .string, .string u => some (.string u, none)
    | _, _, _ => none
  | .slice t x lo hi mx =>
    match P.underlying t, ev tm x, mx with
    | some .string, .string s, none => vsub s (lo.map (ev tm)) (hi.map (ev tm))
    | some (.slice elem), .slice a len cap, _ => vslice P elem a len cap (lo.map (ev tm)) (hi.map (ev tm)) (mx.map (ev tm))
    | _, _, _ => none
  | .fieldAddr s x f =>
    match P.underlying s, ev tm x with
    | some (.struct fs), .pointer a =>
      match fs[f]? with
      | some fd => match size? P fd.type with
        | some n => if n = 0 then none else some (ptr (blk a) (plusN (off a) fd.offset), some (plainA a = true))
        | none => none
      | none => none
    | _, _ => none
  | .indexAddr t x ix =>
    match ev tm ix with
    | .int _ i =>
      match P.underlying t, ev tm x with
      | some (.array len elem), .pointer a => (size? P elem).map fun n => (ptr (blk a) (plusI (off a) i n), some (plainA a = true ∧ inR i len))
      | some (.slice elem), .slice a len _ => (size? P elem).map fun n => (ptr (blk a) (plusI (off a) i n), some (a.isSome = true ∧ inR i len))
      | _, _ => none
    | _ => none
  | .index t x ix =>
    match ev tm ix, P.underlying t, ev tm x with
    | .int _ i, some .string, .string s => some (.int .u8 (byteAt s i), some (inR i (lenS s)))
    | _, _, _ => none
  | .call { callee := .builtin .len, args, argTypes } =>
    match argTypes.toList, args.toList with
    | t :: _, x :: _ =>
      match P.underlying t, ev tm x with
      | some .string, .string s => some (.int .i64 (natI (lenS s)), none)
      | some (.slice _), .slice _ n _ => some (.int .i64 (natI n), none)
      | _, _ => (clen P t (ev tm x)).map fun v => (v, none)
    | _, _ => none
  | .call { callee := .builtin .max, args, .. } =>
    match args.toList with
    | [x, y] => match ev tm x, ev tm y with
      | .int k a, .int k' b => if k = k' then some (.int k (maxI a b), none) else none
      | _, _ => none
    | _ => none
  | .call { callee := .builtin .min, args, .. } =>
    match args.toList with
    | [x, y] => match ev tm x, ev tm y with
      | .int k a, .int k' b => if k = k' then some (.int k (minI a b), none) else none
      | _, _ => none
    | _ => none
  | .pick _ _ _ => none
  | op => (pop P tm op).map fun v => (v, none)
end

section
variable {P : Program}

theorem plainA_inv {a : Option Addr} (h : plainA a = true) : a = some ⟨blk a, off a, none⟩ := by
  match a, h with
  | some ⟨b, o, none⟩, _ => rfl

theorem isSome_inv {a : Option Addr} (h : a.isSome = true) : ∃ s, a = some ⟨blk a, off a, s⟩ := by
  match a, h with
  | some ⟨b, o, s⟩, _ => exact ⟨s, rfl⟩

theorem vceq_sound : ∀ (d : Nat) {t : TypeId} {x y : Value} {r : Bool}, vceq P d t x y = some r → ceq P d t x y = some r
  | 0, t, x, y, r, h => by simp [vceq] at h
  | d + 1, t, x, y, r, h => by
    unfold vceq at h
    split at h
    · rename_i hu; simp only [ceq, hu]; exact h
    · rename_i hu; simp only [ceq, hu]; exact h
    · rename_i hu; simp only [ceq, hu]; exact h
    · rename_i a _ _ _ _ hu; cases a <;> (simp only [ceq, hu]; exact h)
    · rename_i a hu; cases a <;> (simp only [ceq, hu]; exact h)
    · rename_i fs xs ys hu
      unfold ceq
      simp only [hu]
      split at h
      · simp at h
      · rename_i hs
        rw [if_neg (by simpa [noStood] using hs)]
        generalize fs.toList = l0 at h ⊢
        induction l0 generalizing r with
        | nil => simpa using h
        | cons f l ih =>
          simp only [List.foldr_cons] at h ⊢
          split at h
          · rename_i hn
            rw [if_pos hn]
            split at h
            · rename_i a b ha hb
              simp only [ha, hb]
              split at h
              · rename_i r1 s1 h1 h2
                rw [vceq_sound d h1]
                simp only [Option.some.injEq, andB] at h; subst h
                cases r1 with
                | true => simpa using ih (r := s1) h2
                | false => simp
              · simp at h
            · simp at h
          · rename_i hn; rw [if_neg hn]; exact ih (r := r) h
    · exact h

theorem vint_sound {op : BinOp} {k : IntKind} {a b : Int} {v : Value} {c : Option Prop} (h : vint op k a b = some (v, c)) (hc : cnd c) : intOp op k a b = some v := by
  cases op <;> simp only [vint, Option.some.injEq, Prod.mk.injEq, reduceCtorEq] at h <;> obtain ⟨rfl, rfl⟩ := h <;> first | rfl | (simp only [cnd, nonzero] at hc; simp [intOp, hc, quoW, remW])

theorem vstr_sound {op : BinOp} {a b : ByteArray} {v : Value} {c : Option Prop} (h : vstr op a b = some (v, c)) (hc : cnd c) : strOp op a b = some v := by
  cases op <;> simp only [vstr, Option.some.injEq, Prod.mk.injEq, reduceCtorEq] at h <;> obtain ⟨rfl, rfl⟩ := h <;> first | rfl | (simp only [cnd, catOk] at hc; simp only [strOp, strCat]; rw [if_neg (by omega)])

theorem vbin_sound {op : BinOp} {t : TypeId} {x y : Operand} {a b v : Value} {c : Option Prop} (h : vbin P op t x y a b = some (v, c)) (hc : cnd c) : cbin P op t x y a b = some v := by
  unfold vbin at h
  split at h
  · rename_i k m k' n
    unfold cbin
    simp only
    split at h
    · simp only [Option.some.injEq, Prod.mk.injEq] at h; obtain ⟨rfl, rfl⟩ := h; simp [shift, Int.not_lt.2 hc, shlW]
    · simp only [Option.some.injEq, Prod.mk.injEq] at h; obtain ⟨rfl, rfl⟩ := h; simp [shift, Int.not_lt.2 hc, shrW]
    · rename_i h1 h2
      split at h
      · rename_i hk
        have := vint_sound h hc
        cases op <;> simp_all
      · simp at h
  · rename_i s u
    unfold cbin
    simp only
    exact vstr_sound h hc
  · simp at h
  · simp at h
  · rename_i n1 n2 n3 n4
    have e : cbin P op t x y a b = (match op with
        | .eql => if eqPlain P t x y a b then (ceq P Op.maxDepth t a b).map .bool else none
        | .neq => if eqPlain P t x y a b then (ceq P Op.maxDepth t a b).map fun r => .bool !r else none
        | _ => none) := by
      unfold cbin
      split
      · exact (n3 _ _ _ _ rfl rfl).elim
      · exact (n4 _ _ rfl rfl).elim
      · exact (n1 _ _ rfl).elim
      · exact (n2 _ _ _ rfl).elim
      · cases op <;> rfl
    rw [e]
    split at h
    · simp only at h ⊢
      split at h
      · rename_i hp
        rw [if_pos hp]
        simp only [Option.map_eq_some_iff, Prod.mk.injEq] at h ⊢
        obtain ⟨r, hr, rfl, _⟩ := h
        exact ⟨r, vceq_sound _ hr, rfl⟩
      · simp at h
    · simp only at h ⊢
      split at h
      · rename_i hp
        rw [if_pos hp]
        simp only [Option.map_eq_some_iff, Prod.mk.injEq] at h ⊢
        obtain ⟨r, hr, rfl, _⟩ := h
        exact ⟨r, vceq_sound _ hr, rfl⟩
      · simp at h
    · simp at h

theorem boundI_inv {x : Option Value} {d i : Int} (h : boundI x d = some i) : (x = none ∧ i = d) ∨ ∃ k, x = some (.int k i) := by
  unfold boundI at h
  split at h
  · simp at h; exact .inl ⟨rfl, h.symm⟩
  · simp at h; subst h; exact .inr ⟨_, rfl⟩
  · simp at h

theorem bound_of {x : Option Value} {d most : Nat} {i : Int} (h : boundI x (d : Int) = some i) (h0 : 0 ≤ i) (hm : i ≤ most) : bound x d most = some i.toNat := by
  rcases boundI_inv h with ⟨rfl, rfl⟩ | ⟨k, rfl⟩
  · simp [bound]
  · simp [bound, h0, hm]

theorem bounds_of {len cap : Nat} {lo hi mx : Option Value} {l h m : Int} (el : boundI lo 0 = some l) (eh : boundI hi (natI len) = some h) (em : boundI mx (natI cap) = some m) (hc : cutOk l h m (natI cap)) (hh : mx = none ∨ hi ≠ none) :
    bounds len cap lo hi mx = some (l.toNat, h.toNat, m.toNat) := by
  obtain ⟨h1, h2, h3, h4⟩ := hc
  simp only [natI] at eh em h4
  have a1 := bound_of em (by omega) h4
  have a3 : bound lo 0 h.toNat = some l.toNat := bound_of (d := 0) el h1 (by omega)
  unfold bounds
  rw [a1]
  simp only
  have a2 : bound hi len (if mx.isSome = true then m.toNat else cap) = some h.toNat := by
    refine bound_of eh (by omega) ?_
    split <;> omega
  split
  · rename_i y
    rcases hh with hh | hh
    · simp at hh
    · exact absurd rfl hh
  · rw [a2]
    simp only
    rw [a3]

theorem vslice_sound {t elem : TypeId} {a : Option Addr} {len cap : Nat} {lo hi mx : Option Value} {v : Value} {c : Option Prop} (hu : P.underlying t = some (.slice elem))
    (h : vslice P elem a len cap lo hi mx = some (v, c)) (hc : cnd c) : cslice P t (.slice a len cap) lo hi mx = some v := by
  unfold vslice at h
  split at h
  · rename_i n l hh m hn el eh em
    split at h
    · simp only [Option.some.injEq, Prod.mk.injEq] at h; obtain ⟨rfl, rfl⟩ := h
      have hb := bounds_of el eh em hc.1 (.inl rfl)
      match a with
      | none => simp only [cslice, hu, hb, hn]; rfl
      | some ⟨b, o, sp⟩ =>
        have hs : sp = none ∨ sp = some n := hc.2
        simp only [cslice, hu, hb, hn]
        simp [cutA, hs, diffN]
    · simp only [Option.some.injEq, Prod.mk.injEq] at h; obtain ⟨rfl, rfl⟩ := h
      have hb := bounds_of el eh em hc (.inr (by simp))
      match a with
      | none => simp only [cslice, hu, hb, hn]; rfl
      | some ⟨b, o, sp⟩ =>
        simp only [cslice, hu, hb, hn]
        simp [cutE, diffN]
    · simp at h
  · simp at h

theorem vsub_sound {t : TypeId} {s : ByteArray} {lo hi : Option Value} {v : Value} {c : Option Prop} (hu : P.underlying t = some .string) (h : vsub s lo hi = some (v, c)) (hc : cnd c) : cslice P t (.string s) lo hi none = some v := by
  unfold vsub at h
  split at h
  · rename_i l hh el eh
    simp only [Option.some.injEq, Prod.mk.injEq] at h; obtain ⟨rfl, rfl⟩ := h
    obtain ⟨h1, h2, h3⟩ := hc
    have hb : bounds s.size s.size lo hi none = some (l.toNat, hh.toNat, s.size) := by
      have := bounds_of (len := s.size) (cap := s.size) (mx := none) el eh (m := natI s.size) rfl ⟨h1, h2, h3, Int.le_refl _⟩ (.inl rfl)
      simpa [natI] using this
    simp only [cslice, hu, hb]
    rfl
  · simp at h

theorem vpop_sound {tm : List Value} {op : Op} {v : Value} {c : Option Prop} (h : vpop P tm op = some (v, c)) (hc : cnd c) : pop P tm op = some v := by
  unfold vpop at h
  split at h
  · rename_i x
    unfold pop
    simp only
    split at h
    · rename_i a he
      simp only [Option.some.injEq, Prod.mk.injEq] at h; obtain ⟨rfl, rfl⟩ := h
      match a, hc with
      | some a, _ => simp [he]
    · rename_i he; simp only [Option.some.injEq, Prod.mk.injEq] at h; obtain ⟨rfl, rfl⟩ := h; simp [he]
    · rename_i he; simp only [Option.some.injEq, Prod.mk.injEq] at h; obtain ⟨rfl, rfl⟩ := h; simp [he]
    · simp at h
  · unfold pop; simp only; exact vbin_sound h hc
  · rename_i o t x
    unfold pop; simp only
    split at h <;> first | (simp at h; done) | skip
    all_goals
      rename_i he
      simp only [Option.some.injEq, Prod.mk.injEq] at h; obtain ⟨rfl, rfl⟩ := h
      rw [he]; rfl
  · rename_i s d x
    unfold pop; simp only [cconv]
    split at h <;> first | (simp at h; done) | skip
    all_goals
      rename_i h1 h2 he
      simp only [Option.some.injEq, Prod.mk.injEq] at h; obtain ⟨rfl, rfl⟩ := h
      rw [h1, h2, he]; try rfl
  · rename_i t x lo hi mx
    unfold pop; simp only
    split at h
    · rename_i s hu he
      rw [he]; exact vsub_sound hu h hc
    · rename_i mx elem a len cap hu he
      rw [he]; exact vslice_sound hu h hc
    · simp at h
  · rename_i s x f
    unfold pop; simp only [cfieldAddr]
    split at h
    · rename_i fs a hu he
      split at h
      · rename_i fd hf
        split at h
        · rename_i n hn
          split at h
          · simp at h
          · rename_i h0
            simp only [Option.some.injEq, Prod.mk.injEq] at h; obtain ⟨rfl, rfl⟩ := h
            rw [he, plainA_inv hc]
            simp [hu, hf, hn, h0, blk, off, plusN]
        · simp at h
      · simp at h
    · simp at h
  · rename_i t x ix
    unfold pop; simp only [cindexAddr]
    split at h
    · rename_i k i hi
      rw [hi]
      split at h
      · rename_i len elem a hu he
        simp only [Option.map_eq_some_iff, Prod.mk.injEq] at h
        obtain ⟨n, hn, rfl, rfl⟩ := h
        obtain ⟨h1, h2, h3⟩ := hc
        rw [he, plainA_inv h1]
        simp [hu, hn, h2, h3, blk, off, plusI]
      · rename_i elem a len cap hu he
        simp only [Option.map_eq_some_iff, Prod.mk.injEq] at h
        obtain ⟨n, hn, rfl, rfl⟩ := h
        obtain ⟨h1, h2, h3⟩ := hc
        obtain ⟨s, hs⟩ := isSome_inv h1
        rw [he, hs]
        simp [hu, hn, h2, h3, blk, off, plusI]
      · simp at h
    · simp at h
  · rename_i t x ix
    unfold pop; simp only [cindex]
    split at h
    · rename_i k i s hi hu he
      simp only [Option.some.injEq, Prod.mk.injEq] at h; obtain ⟨rfl, rfl⟩ := h
      obtain ⟨h1, h2⟩ := hc
      simp only [lenS] at h2
      have hlt : i.toNat < s.size := by omega
      simp [hi, hu, he, h1, byteAt, hlt]
    · simp at h
  · rename_i args argTypes
    unfold pop; simp only
    split at h
    · rename_i t ts x xs e1 e2
      rw [e1, e2]
      simp only
      split at h
      · rename_i s hu he
        simp only [Option.some.injEq, Prod.mk.injEq] at h; obtain ⟨rfl, rfl⟩ := h
        rw [he]; simp [clen, hu, natI, lenS]
      · rename_i el a n cp hu he
        simp only [Option.some.injEq, Prod.mk.injEq] at h; obtain ⟨rfl, rfl⟩ := h
        rw [he]; simp [clen, hu, natI]
      · simp only [Option.map_eq_some_iff, Prod.mk.injEq] at h
        obtain ⟨w, hw, rfl, _⟩ := h
        exact hw
    · simp at h
  · rename_i args argTypes
    unfold pop; simp only
    split at h
    · rename_i x y e1
      rw [e1]
      simp only
      split at h
      · rename_i k a k' b e2 e3
        split at h
        · rename_i hk
          simp only [Option.some.injEq, Prod.mk.injEq] at h; obtain ⟨rfl, rfl⟩ := h
          rw [e2, e3]; simp [cmax, hk, maxI]
        · simp at h
      · simp at h
    · simp at h
  · rename_i args argTypes
    unfold pop; simp only
    split at h
    · rename_i x y e1
      rw [e1]
      simp only
      split at h
      · rename_i k a k' b e2 e3
        split at h
        · rename_i hk
          simp only [Option.some.injEq, Prod.mk.injEq] at h; obtain ⟨rfl, rfl⟩ := h
          rw [e2, e3]; simp [cmin, hk, minI]
        · simp at h
      · simp at h
    · simp at h
  · simp at h
  · simp only [Option.map_eq_some_iff, Prod.mk.injEq] at h
    obtain ⟨w, hw, rfl, _⟩ := h
    exact hw
end
end Go.Cn
