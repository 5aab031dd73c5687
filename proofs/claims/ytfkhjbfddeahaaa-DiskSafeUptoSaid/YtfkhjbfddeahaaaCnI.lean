/- The canonical semantics: the operations that read the heap; those that change it. -/
import Derived.Test.YtfkhjbfddeahaaaCnH
import Derived.Laws.IdiomStrings
import Derived.Laws.BytesArg
import Derived.Laws.BytesString
set_option linter.unusedVariables false
set_option linter.unusedSimpArgs false
namespace Go.Cn
section
variable {P : Program} {σ : Sg} {base : Nat} {h : Hp} {w : World}

/-! ### Reading -/
theorem cload_run (hr : HR base σ h w) {t : TypeId} {x x' v : Value} (hl : cload P t x h = some v) (hx : VRel σ x x') : ∃ v', (Instr.loadAt t x').run P w = .ok v' w ∧ VRel σ v v' := by
  unfold cload at hl
  split at hl
  · rename_i b o
    obtain ⟨_, e, he, rfl⟩ := hx.ptr_inv
    split at hl
    · rename_i n ha hs
      simp only [Option.map_eq_some_iff] at hl
      obtain ⟨cs, hc, rfl⟩ := hl
      obtain ⟨h1, cs', h2, h3, h4⟩ := hr.cellsAt hc he
      refine ⟨.agg cs'.toArray, ?_, h3.to_agg⟩
      have := run_loadCells_list (P := P) w ⟨e.rb, e.ro + o, none⟩ cs' h4
      rw [h2] at this
      simp [Instr.loadAt, Instr.sureAddr, loadVar, run_agg ha, run_size hs, this]
    · rename_i n ha hs
      split at hl
      · rename_i v0 hc
        simp at hl; subst hl
        obtain ⟨h1, cs', h2, h3, h4⟩ := hr.cellsAt hc he
        obtain ⟨y, hy, hv⟩ := h3.get (i := 0) (x := v0) (by simp)
        have h5 := h4 0 y hy
        rw [add_plain, Nat.add_zero] at h5
        exact ⟨y, by simp [Instr.loadAt, Instr.sureAddr, loadVar, run_agg ha, h5], hv⟩
      · simp at hl
    · simp at hl
  · simp at hl

theorem bytesOf_spec : ∀ {cs : List Value} {l : List UInt8}, bytesOf cs = some l → ∃ xs : List Int, cs = xs.map (fun n => .int .u8 n) ∧ l = xs.map fun n => UInt8.ofNat n.toNat
  | [], l, hb => by simp [bytesOf] at hb; subst hb; exact ⟨[], rfl, rfl⟩
  | v :: cs, l, hb => by
    cases v with
    | int k n =>
      cases k <;> simp only [bytesOf] at hb <;> first | (simp at hb; done) | skip
      simp only [Option.map_eq_some_iff] at hb
      obtain ⟨l', hl', rfl⟩ := hb
      obtain ⟨xs, rfl, rfl⟩ := bytesOf_spec hl'
      exact ⟨n :: xs, rfl, rfl⟩
    | _ => simp [bytesOf] at hb

theorem rop_run (hr : HR base σ h w) {tm : List Value} {a : Act} (ht : TRel σ tm a.tmps) (o : Oper) {v : Value} (hv : rop P tm o.op h = some v) :
    ∃ v', (execOp a.eval o).run P w = .ok (.value v') w ∧ VRel σ v v' := by
  obtain ⟨dst, op, ty, pos, after, guard⟩ := o
  have ev := fun x => ev_rel ht x
  unfold rop at hv
  simp only at hv
  split at hv
  · rename_i t x
    obtain ⟨v', h1, h2⟩ := cload_run hr hv (ev x)
    exact ⟨v', by simp [execOp, h1], h2⟩
  · rename_i src dst x
    have hx := ev x
    split at hv
    · rename_i e n c hs hd hx0
      rw [hx0] at hx
      obtain ⟨_, _, hx1⟩ := hx.snil_inv
      split at hv
      · rename_i he
        simp at hv; subst hv
        have := run_convert_bytes_nil (P := P) w src e hs he 0 0 dst hd
        exact ⟨_, by simp [execOp, hx1, this], .string _⟩
      · simp at hv
    · rename_i e b o sp n c hs hd hx0
      rw [hx0] at hx
      obtain ⟨a', c', en, hx1, hen, hlc, hcc, ha, _⟩ := hx.slice_inv
      simp only at hen ha
      split at hv
      · rename_i he
        split at hv
        · rename_i cs hc
          simp only [Option.map_eq_some_iff] at hv
          obtain ⟨l, hl, rfl⟩ := hv
          obtain ⟨xs, rfl, rfl⟩ := bytesOf_spec hl
          obtain ⟨h1, cs', h2, h3, h4⟩ := hr.cellsAt hc hen
          simp at h1
          refine ⟨.string ⟨(xs.map fun n => UInt8.ofNat n.toNat).toArray⟩, ?_, .string _⟩
          by_cases h0 : n = 0
          · subst h0
            have hxs : xs = [] := List.eq_nil_of_length_eq_zero h1
            subst hxs
            have := run_convert_bytes_back (P := P) w src dst e a' c' [] hs he hd (by simp)
            simp at this
            simp [execOp, hx1, this]
          · have ha' : a' = ⟨en.rb, en.ro + o, none⟩ := by
              rcases ha with h00 | h00
              · exfalso
                omega
              · exact h00
            subst ha'
            have := run_convert_bytes_arg (P := P) w src e hs he en.rb (en.ro + o) n c' xs h1 (fun i hi => by
              have hxi : (xs.map (fun n => (Value.int .u8 n)))[i]? = some (.int .u8 (xs.getD i 0)) := by
                simp [List.getElem?_eq_getElem (show i < xs.length by omega)]
              obtain ⟨y, hy, hvy⟩ := h3.get hxi
              have := h4 i y hy
              rw [hvy.int_inv, add_plain] at this
              exact this) dst hd
            simp [execOp, hx1, this, strOfNums]
        · simp at hv
      · simp at hv
    · simp at hv
  · simp at hv

/-! ### Changing -/
/-- What lies in the model where canonical data lies. -/
structure Src (P : Program) (hp : Array Obj) (size : Nat) (x' : Value) (n : Nat) (new' : List Value) : Prop where
  len : ∀ w : World, w.heap = hp → (Builtin.lenOf x').run P w = .ok n w
  cells : ∀ w : World, w.heap = hp → ∀ m, m ≤ n → (Builtin.firstCells size m x').run P w = .ok (new'.take (m * size)).toArray w
  cells_len : new'.length = n * size

theorem LRel.refl_of {σ : Sg} {l : List Value} (h : ∀ v ∈ l, VRel σ v v) : LRel σ l l :=
  ⟨rfl, fun i x y hx hy => by rw [hx] at hy; cases hy; exact h x (List.mem_of_getElem? hx)⟩

theorem dataOf_run (hr : HR base σ h w) {size : Nat} {x x' : Value} {n : Nat} {new : List Value} (hd : dataOf size x h = some (n, new)) (hx : VRel σ x x') :
    ∃ new', LRel σ new new' ∧ Src P w.heap size x' n new' := by
  unfold dataOf at hd
  split at hd
  · rename_i n' c
    obtain ⟨rfl, rfl, rfl⟩ := hx.snil_inv
    simp at hd; obtain ⟨rfl, rfl⟩ := hd
    exact ⟨[], LRel.nil σ, ⟨fun w1 _ => by simp [Builtin.lenOf], fun w1 _ m hm => by simp [Builtin.firstCells], by simp⟩⟩
  · rename_i b o sp n' c
    obtain ⟨a', c', e, rfl, he, hlc, hcc, ha, _⟩ := hx.slice_inv
    simp only at he ha
    split at hd
    · rename_i h0
      subst h0
      simp at hd; obtain ⟨rfl, rfl⟩ := hd
      refine ⟨[], LRel.nil σ, ⟨fun w1 _ => by simp [Builtin.lenOf], fun w1 hw1 m hm => ?_, by simp⟩⟩
      have : m = 0 := by omega
      subst this
      simp [Builtin.firstCells, loadCells, loadCellsFrom]
    · rename_i h0
      simp only [Option.map_eq_some_iff, Prod.mk.injEq] at hd
      obtain ⟨cs, hc, rfl, rfl⟩ := hd
      have ha' : a' = ⟨e.rb, e.ro + o, none⟩ := by rcases ha with h00 | h00 <;> first | omega | exact h00
      subst ha'
      obtain ⟨h1, cs', h2, h3, h4⟩ := hr.cellsAt hc he
      refine ⟨cs', h3, ⟨fun w1 _ => by simp [Builtin.lenOf], fun w1 hw1 m hm => ?_, h2⟩⟩
      have hml : m * size ≤ n' * size := Nat.mul_le_mul_right _ hm
      have := run_loadCells_list (P := P) w1 ⟨e.rb, e.ro + o, none⟩ (cs'.take (m * size)) (fun j v hj => by
        rw [List.getElem?_take] at hj
        split at hj
        · have := h4 j v hj; simp only [World.cell?, hw1]; exact this
        · simp at hj)
      rw [List.length_take, h2, Nat.min_eq_left hml] at this
      simp [Builtin.firstCells, this]
  · rename_i s
    obtain rfl := hx.string_inv
    split at hd
    · rename_i h1
      subst h1
      simp at hd; obtain ⟨rfl, rfl⟩ := hd
      refine ⟨s.data.toList.map fun b => .int .u8 b.toNat, LRel.refl_of (by simp; intro b _; exact .int _ _), ⟨fun w1 _ => by simp [Builtin.lenOf], fun w1 hw1 m hm => ?_, by simp⟩⟩
      simp only [Builtin.firstCells, Sem.run_pure, Nat.mul_one]
      congr 1
      apply Array.ext'
      simp [ByteArray.data_extract, List.map_take]
    · simp at hd
  · simp at hd

theorem grownCap_le (w : World) (need old : Nat) (e : TypeId) : need ≤ grownCap w need old e := by
  simp [grownCap, Question.cut]

theorem growBy_le (newLen : Nat) : ∀ (r c : Nat), c ≤ 2 * newLen + 1024 → Builtin.growBy newLen r c ≤ 2 * newLen + 1024
  | 0, c, h => h
  | r + 1, c, h => by
    simp only [Builtin.growBy]
    split
    · exact h
    · exact growBy_le newLen r _ (by omega)

theorem nextslicecap_le (need old : Nat) (h : old < need) : Builtin.nextslicecap need old ≤ 2 * need + 1024 := by
  unfold Builtin.nextslicecap
  split
  · omega
  · split
    · omega
    · exact growBy_le _ _ _ (by omega)

/-- The second type of an append. -/
def notInt (P : Program) (xt : TypeId) : Prop := ∃ d, P.underlying xt = some d ∧ ∀ k, d ≠ .int k

theorem append_in {t xt ty elem : TypeId} {i : TypeInfo} (hu : P.underlying t = some (.slice elem)) (hi : P.info? elem = some i) (hx : notInt P xt) {x' : Value} {n : Nat} {new' : List Value}
    (hs : Src P w.heap i.size x' n new') {a : Option Addr} {l c : Nat} (hc : l + n ≤ c) {w' : World} (hst : ∀ b, a = some b → (storeCells (b.add (l * i.size)) new').run P w = .ok () w') (hn : a = none → w' = w) :
    (Builtin.append_ #[t, xt] ty #[.slice a l c, x']).run P w = .ok (.slice a (l + n) c) w' := by
  obtain ⟨d, hd, hdk⟩ := hx
  have hz : ((underlying xt).run P w) = .ok d w := run_underlying hd w
  have hf := hs.cells w rfl n (Nat.le_refl _)
  have hlen := hs.len w rfl
  rw [← hs.cells_len, List.take_length] at hf
  have hzero : (d matches .int _) = false := by cases d <;> first | rfl | exact absurd rfl (hdk _)
  have hsize : (sizeOf elem).run P w = .ok i.size w := run_size (by simp [size?, hi]) w
  cases a with
  | none =>
    have := hn rfl; subst this
    simp [Builtin.append_, run_underlying hu, hsize, hz, hzero, hlen, hc, hf]
  | some b =>
    simp [Builtin.append_, run_underlying hu, hsize, hz, hzero, hlen, hc, hf, hst b rfl]

theorem append_grow {t xt ty elem : TypeId} {i : TypeInfo} {z : Value} (hu : P.underlying t = some (.slice elem)) (hi : P.info? elem = some i) (hz : i.zero = some z) (hx : notInt P xt) {x' : Value} {n : Nat} {new' : List Value}
    (hs' : Src P w.heap i.size x' n new') {a : Option Addr} {l c : Nat} (hc : c < l + n) (hroom : roomy (l + n) i.bytes = true) (hb : i.bytes ≠ 0) {old : List Value}
    (hold : (Builtin.firstCells i.size l (.slice a l c)).run P w.drew = .ok old.toArray w.drew) :
    (Builtin.append_ #[t, xt] ty #[.slice a l c, x']).run P w = .ok (.slice (some ⟨w.heap.size, 0, none⟩) (l + n) (grownCap w (l + n) c elem))
      (w.drew.alloc (.cells (old.toArray ++ new'.toArray ++ Builtin.zeroCells z.cells (grownCap w (l + n) c elem - (l + n))) elem)) := by
  obtain ⟨d, hd, hdk⟩ := hx
  have hzz : ∀ w : World, ((underlying xt).run P w) = .ok d w := fun w => run_underlying hd w
  have hf := hs'.cells w.drew rfl n (Nat.le_refl _)
  rw [← hs'.cells_len, List.take_length] at hf
  have hzero : (d matches .int _) = false := by cases d <;> first | rfl | exact absurd rfl (hdk _)
  have hsize : ∀ w : World, (sizeOf elem).run P w = .ok i.size w := fun w => run_size (by simp [size?, hi]) w
  have hty : ∀ w : World, (typeInfo elem).run P w = .ok i w := fun w => run_typeInfo w hi
  have hzv : ∀ w : World, (zeroValue elem).run P w = .ok z w := fun w => run_zero (by simp [zero?, hi, hz]) w
  have hnl : ¬ (l + n ≤ c) := by omega
  have hr : (2 * (l + n) + 1024) * i.bytes ≤ 2 ^ 47 := by simpa [roomy] using hroom
  have h1 : l + n ≤ 2 ^ 47 := by
    have : (2 * (l + n) + 1024) * 1 ≤ (2 * (l + n) + 1024) * i.bytes := Nat.mul_le_mul_left _ (by omega)
    omega
  have h63 : ¬ (((l + n : Nat) : Int) > IntKind.i64.max) := by simp [IntKind.max, IntKind.signed, IntKind.bits]; omega
  have hcap := nextslicecap_le (l + n) c hc
  have h48 : ¬ (Builtin.nextslicecap (l + n) c * i.bytes > 2 ^ 48) := by
    have := Nat.mul_le_mul_right i.bytes hcap
    omega
  have hmark : ∀ (k : Nat) (w : World), (askRoom k).run P w = .ok () w := by
    intro k w; unfold askRoom; split <;> simp [mark, Sem.run]
  have h63' : ¬ ((9223372036854775807 : Int) < (l : Int) + (n : Int)) := by omega
  have h48' : ¬ (281474976710656 < Builtin.nextslicecap (l + n) c * i.bytes) := by omega
  simp [Builtin.append_, run_underlying hu, hsize, hzz, hzero, hs'.len w rfl, hnl, h63', h48', hty, Question.forced, hmark, hold, hf, hzv, newRow, grownCap]
  rw [← Array.append_assoc]; simp

theorem zeroCells_eq (z : Array Value) (n : Nat) : ((Array.range (n * z.size)).map fun i => z[i % z.size]!).toList = Cn.zeroCells z.toList n := by
  induction n with
  | zero => simp [Cn.zeroCells]
  | succ n ih =>
    have e1 : Cn.zeroCells z.toList (n + 1) = Cn.zeroCells z.toList n ++ z.toList := by
      simp [Cn.zeroCells, List.replicate_succ']
    rw [e1, ← ih]
    apply List.ext_getElem?
    intro j
    by_cases hj : j < n * z.size
    · rw [List.getElem?_append_left (by simpa using hj)]
      simp [hj, show j < (n + 1) * z.size by rw [Nat.add_mul]; omega]
    · rw [List.getElem?_append_right (by simpa using hj)]
      by_cases hj2 : j < (n + 1) * z.size
      · have hz : 0 < z.size := by
          rcases Nat.eq_zero_or_pos z.size with h0 | h0
          · rw [h0] at hj2; simp at hj2
          · exact h0
        have hm : j % z.size = j - n * z.size := by
          have : j = (j - n * z.size) + n * z.size := by omega
          rw [this, Nat.add_mul_mod_self_right, Nat.mod_eq_of_lt (by rw [Nat.add_mul] at hj2; omega)]
          omega
        have hlt : j - n * z.size < z.size := by rw [Nat.add_mul] at hj2; omega
        simp [hj2, hm, hlt]
      · have : ¬ j - n * z.size < z.size := by rw [Nat.add_mul] at hj2; omega
        simp [hj2, this]

theorem zeroCells_len (z : List Value) (n : Nat) : (Cn.zeroCells z n).length = n * z.length := by simp [Cn.zeroCells]

theorem zeroCells_mem {z : List Value} {n : Nat} {v : Value} (h : v ∈ Cn.zeroCells z n) : v ∈ z := by
  simp only [Cn.zeroCells, List.mem_flatten, List.mem_replicate] at h
  obtain ⟨l, ⟨_, rfl⟩, hv⟩ := h
  exact hv

theorem plain_cells {z : Value} (h : plainV 100 z = true) : ∀ v ∈ z.cells.toList, VRel σ v v := by
  intro v hv
  have hz : LRel σ z.cells.toList z.cells.toList := zero_rel h
  obtain ⟨i, hi⟩ := List.getElem?_of_mem hv
  exact hz.2 i v v hi hi

theorem isCell_one {v v' : Value} (h : VRel σ v v') (hc : isCell v = true) : v'.oneCell' = true := by
  cases h <;> first | rfl | (simp [isCell, Cn.unk] at hc; done)
end
end Go.Cn
