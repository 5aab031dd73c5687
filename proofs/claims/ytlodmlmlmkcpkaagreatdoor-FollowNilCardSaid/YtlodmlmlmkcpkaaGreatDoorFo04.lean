/- Joined: CnI, CnJ. -/
import Derived.Test.YtlodmlmlmkcpkaaGreatDoorFo03
import Derived.Laws.IdiomStrings
import Derived.Laws.BytesArg
import Derived.Laws.BytesString
/- The canonical semantics: the operations that read the heap; those that change it. -/
set_option linter.unusedVariables false
set_option linter.unusedSimpArgs false
namespace Go.Cn
section
variable {P : Program} {σ : Sg} {base : Nat} {h : Hp} {w : World}

/-! ### Reading -/
theorem cload_run (hr : HR base σ h w) {t : TypeId} {x x' v : Value} (hl : cload P t x h = some v) (hx : VRel σ x x') : ∃ v', (Instr.loadAt t x').run P w = .ok v' w ∧ VRel σ v v' := by
  unfold cload at hl
  split at hl
  · rename_i b o
    obtain ⟨_, e, he, rfl⟩ := hx.ptr_inv
    split at hl
    · rename_i n ha hs
      simp only [Option.map_eq_some_iff] at hl
      obtain ⟨cs, hc, rfl⟩ := hl
      obtain ⟨h1, cs', h2, h3, h4⟩ := hr.cellsAt hc he
      refine ⟨.agg cs'.toArray, ?_, h3.to_agg⟩
      have := run_loadCells_list (P := P) w ⟨e.rb, e.ro + o, none⟩ cs' h4
      rw [h2] at this
      simp [Instr.loadAt, Instr.sureAddr, loadVar, run_agg ha, run_size hs, this]
    · rename_i n ha hs
      split at hl
      · rename_i v0 hc
        simp at hl; subst hl
        obtain ⟨h1, cs', h2, h3, h4⟩ := hr.cellsAt hc he
        obtain ⟨y, hy, hv⟩ := h3.get (i := 0) (x := v0) (by simp)
        have h5 := h4 0 y hy
        rw [add_plain, Nat.add_zero] at h5
        exact ⟨y, by simp [Instr.loadAt, Instr.sureAddr, loadVar, run_agg ha, h5], hv⟩
      · simp at hl
    · simp at hl
  · simp at hl

theorem bytesOf_spec : ∀ {cs : List Value} {l : List UInt8}, bytesOf cs = some l → ∃ xs : List Int, cs = xs.map (fun n => .int .u8 n) ∧ l = xs.map fun n => UInt8.ofNat n.toNat
  | [], l, hb => by simp [bytesOf] at hb; subst hb; exact ⟨[], rfl, rfl⟩
  | v :: cs, l, hb => by
    cases v with
    | int k n =>
      cases k <;> simp only [bytesOf] at hb <;> first | (simp at hb; done) | skip
      simp only [Option.map_eq_some_iff] at hb
      obtain ⟨l', hl', rfl⟩ := hb
      obtain ⟨xs, rfl, rfl⟩ := bytesOf_spec hl'
      exact ⟨n :: xs, rfl, rfl⟩
    | _ => simp [bytesOf] at hb

theorem rop_run (hr : HR base σ h w) {tm : List Value} {a : Act} (ht : TRel σ tm a.tmps) (o : Oper) {v : Value} (hv : rop P tm o.op h = some v) :
    ∃ v', (execOp a.eval o).run P w = .ok (.value v') w ∧ VRel σ v v' := by
  obtain ⟨dst, op, ty, pos, after, guard⟩ := o
  have ev := fun x => ev_rel ht x
  unfold rop at hv
  simp only at hv
  split at hv
  · rename_i t x
    obtain ⟨v', h1, h2⟩ := cload_run hr hv (ev x)
    exact ⟨v', by simp [execOp, h1], h2⟩
  · rename_i t x ix ok
    obtain ⟨v', h1, h2⟩ := clookup_run hr hv (ev x) (ev ix)
    exact ⟨v', by simp [execOp, h1], h2⟩
  · rename_i it
    obtain ⟨v', h1, h2⟩ := centry_run (P := P) hr hv (ev it)
    exact ⟨v', by simp [execOp, h1], h2⟩
  · rename_i args ats
    split at hv
    · rename_i hl
      split at hv
      · rename_i x xs e2
        simp only [Option.map_eq_some_iff] at hv
        obtain ⟨es, hes, rfl⟩ := hv
        have hx0 : (args.map a.eval)[0]? = some (a.eval x) := by rw [Array.getElem?_map, ← Array.getElem?_toList, e2]; rfl
        have ht0 : ∃ t, ats[0]? = some t := by
          unfold lenOfMap at hl
          split at hl
          · rename_i t l e1; exact ⟨t, by rw [← Array.getElem?_toList, e1]; rfl⟩
          · simp at hl
        obtain ⟨t, ht0⟩ := ht0
        exact ⟨_, by simp [execOp, resolve, invoke, builtin, clenMap_run hr ht0 hx0 hl hes (ev x)], .int _ _⟩
      · simp at hv
    · simp at hv
  · rename_i src dst x
    have hx := ev x
    split at hv
    · rename_i e n c hs hd hx0
      rw [hx0] at hx
      obtain ⟨_, _, hx1⟩ := hx.snil_inv
      split at hv
      · rename_i he
        simp at hv; subst hv
        have := run_convert_bytes_nil (P := P) w src e hs he 0 0 dst hd
        exact ⟨_, by simp [execOp, hx1, this], .string _⟩
      · simp at hv
    · rename_i e b o sp n c hs hd hx0
      rw [hx0] at hx
      obtain ⟨a', c', en, hx1, hen, hlc, hcc, ha, _⟩ := hx.slice_inv
      simp only at hen ha
      split at hv
      · rename_i he
        split at hv
        · rename_i cs hc
          simp only [Option.map_eq_some_iff] at hv
          obtain ⟨l, hl, rfl⟩ := hv
          obtain ⟨xs, rfl, rfl⟩ := bytesOf_spec hl
          obtain ⟨h1, cs', h2, h3, h4⟩ := hr.cellsAt hc hen
          simp at h1
          refine ⟨.string ⟨(xs.map fun n => UInt8.ofNat n.toNat).toArray⟩, ?_, .string _⟩
          by_cases h0 : n = 0
          · subst h0
            have hxs : xs = [] := List.eq_nil_of_length_eq_zero h1
            subst hxs
            have := run_convert_bytes_back (P := P) w src dst e a' c' [] hs he hd (by simp)
            simp at this
            simp [execOp, hx1, this]
          · have ha' : a' = ⟨en.rb, en.ro + o, none⟩ := by
              rcases ha with h00 | h00
              · exfalso
                omega
              · exact h00
            subst ha'
            have := run_convert_bytes_arg (P := P) w src e hs he en.rb (en.ro + o) n c' xs h1 (fun i hi => by
              have hxi : (xs.map (fun n => (Value.int .u8 n)))[i]? = some (.int .u8 (xs.getD i 0)) := by
                simp [List.getElem?_eq_getElem (show i < xs.length by omega)]
              obtain ⟨y, hy, hvy⟩ := h3.get hxi
              have := h4 i y hy
              rw [hvy.int_inv, add_plain] at this
              exact this) dst hd
            simp [execOp, hx1, this, strOfNums]
        · simp at hv
      · simp at hv
    · simp at hv
  · simp at hv

/-! ### Changing -/
/-- What lies in the model where canonical data lies. -/
structure Src (P : Program) (hp : Array Obj) (size : Nat) (x' : Value) (n : Nat) (new' : List Value) : Prop where
  len : ∀ w : World, w.heap = hp → (Builtin.lenOf x').run P w = .ok n w
  cells : ∀ w : World, w.heap = hp → ∀ m, m ≤ n → (Builtin.firstCells size m x').run P w = .ok (new'.take (m * size)).toArray w
  cells_len : new'.length = n * size

theorem LRel.refl_of {σ : Sg} {l : List Value} (h : ∀ v ∈ l, VRel σ v v) : LRel σ l l :=
  ⟨rfl, fun i x y hx hy => by rw [hx] at hy; cases hy; exact h x (List.mem_of_getElem? hx)⟩

theorem dataOf_run (hr : HR base σ h w) {size : Nat} {x x' : Value} {n : Nat} {new : List Value} (hd : dataOf size x h = some (n, new)) (hx : VRel σ x x') :
    ∃ new', LRel σ new new' ∧ Src P w.heap size x' n new' := by
  unfold dataOf at hd
  split at hd
  · rename_i n' c
    obtain ⟨rfl, rfl, rfl⟩ := hx.snil_inv
    simp at hd; obtain ⟨rfl, rfl⟩ := hd
    exact ⟨[], LRel.nil σ, ⟨fun w1 _ => by simp [Builtin.lenOf], fun w1 _ m hm => by simp [Builtin.firstCells], by simp⟩⟩
  · rename_i b o sp n' c
    obtain ⟨a', c', e, rfl, he, hlc, hcc, ha, _⟩ := hx.slice_inv
    simp only at he ha
    split at hd
    · rename_i h0
      subst h0
      simp at hd; obtain ⟨rfl, rfl⟩ := hd
      refine ⟨[], LRel.nil σ, ⟨fun w1 _ => by simp [Builtin.lenOf], fun w1 hw1 m hm => ?_, by simp⟩⟩
      have : m = 0 := by omega
      subst this
      simp [Builtin.firstCells, loadCells, loadCellsFrom]
    · rename_i h0
      simp only [Option.map_eq_some_iff, Prod.mk.injEq] at hd
      obtain ⟨cs, hc, rfl, rfl⟩ := hd
      have ha' : a' = ⟨e.rb, e.ro + o, none⟩ := by rcases ha with h00 | h00 <;> first | omega | exact h00
      subst ha'
      obtain ⟨h1, cs', h2, h3, h4⟩ := hr.cellsAt hc he
      refine ⟨cs', h3, ⟨fun w1 _ => by simp [Builtin.lenOf], fun w1 hw1 m hm => ?_, h2⟩⟩
      have hml : m * size ≤ n' * size := Nat.mul_le_mul_right _ hm
      have := run_loadCells_list (P := P) w1 ⟨e.rb, e.ro + o, none⟩ (cs'.take (m * size)) (fun j v hj => by
        rw [List.getElem?_take] at hj
        split at hj
        · have := h4 j v hj; simp only [World.cell?, hw1]; exact this
        · simp at hj)
      rw [List.length_take, h2, Nat.min_eq_left hml] at this
      simp [Builtin.firstCells, this]
  · rename_i s
    obtain rfl := hx.string_inv
    split at hd
    · rename_i h1
      subst h1
      simp at hd; obtain ⟨rfl, rfl⟩ := hd
      refine ⟨s.data.toList.map fun b => .int .u8 b.toNat, LRel.refl_of (by simp; intro b _; exact .int _ _), ⟨fun w1 _ => by simp [Builtin.lenOf], fun w1 hw1 m hm => ?_, by simp⟩⟩
      simp only [Builtin.firstCells, Sem.run_pure, Nat.mul_one]
      congr 1
      apply Array.ext'
      simp [ByteArray.data_extract, List.map_take]
    · simp at hd
  · simp at hd

theorem grownCap_le (w : World) (need old : Nat) (e : TypeId) : need ≤ grownCap w need old e := by
  simp [grownCap, Question.cut]

theorem growBy_le (newLen : Nat) : ∀ (r c : Nat), c ≤ 2 * newLen + 1024 → Builtin.growBy newLen r c ≤ 2 * newLen + 1024
  | 0, c, h => h
  | r + 1, c, h => by
    simp only [Builtin.growBy]
    split
    · exact h
    · exact growBy_le newLen r _ (by omega)

theorem nextslicecap_le (need old : Nat) (h : old < need) : Builtin.nextslicecap need old ≤ 2 * need + 1024 := by
  unfold Builtin.nextslicecap
  split
  · omega
  · split
    · omega
    · exact growBy_le _ _ _ (by omega)

/-- The second type of an append. -/
def notInt (P : Program) (xt : TypeId) : Prop := ∃ d, P.underlying xt = some d ∧ ∀ k, d ≠ .int k

theorem append_in {t xt ty elem : TypeId} {i : TypeInfo} (hu : P.underlying t = some (.slice elem)) (hi : P.info? elem = some i) (hx : notInt P xt) {x' : Value} {n : Nat} {new' : List Value}
    (hs : Src P w.heap i.size x' n new') {a : Option Addr} {l c : Nat} (hc : l + n ≤ c) {w' : World} (hst : ∀ b, a = some b → (storeCells (b.add (l * i.size)) new').run P w = .ok () w') (hn : a = none → w' = w) :
    (Builtin.append_ #[t, xt] ty #[.slice a l c, x']).run P w = .ok (.slice a (l + n) c) w' := by
  obtain ⟨d, hd, hdk⟩ := hx
  have hz : ((underlying xt).run P w) = .ok d w := run_underlying hd w
  have hf := hs.cells w rfl n (Nat.le_refl _)
  have hlen := hs.len w rfl
  rw [← hs.cells_len, List.take_length] at hf
  have hzero : (d matches .int _) = false := by cases d <;> first | rfl | exact absurd rfl (hdk _)
  have hsize : (sizeOf elem).run P w = .ok i.size w := run_size (by simp [size?, hi]) w
  cases a with
  | none =>
    have := hn rfl; subst this
    simp [Builtin.append_, run_underlying hu, hsize, hz, hzero, hlen, hc, hf]
  | some b =>
    simp [Builtin.append_, run_underlying hu, hsize, hz, hzero, hlen, hc, hf, hst b rfl]

theorem append_grow {t xt ty elem : TypeId} {i : TypeInfo} {z : Value} (hu : P.underlying t = some (.slice elem)) (hi : P.info? elem = some i) (hz : i.zero = some z) (hx : notInt P xt) {x' : Value} {n : Nat} {new' : List Value}
    (hs' : Src P w.heap i.size x' n new') {a : Option Addr} {l c : Nat} (hc : c < l + n) (hroom : roomy (l + n) i.bytes = true) (hb : i.bytes ≠ 0) {old : List Value}
    (hold : (Builtin.firstCells i.size l (.slice a l c)).run P w.drew = .ok old.toArray w.drew) :
    (Builtin.append_ #[t, xt] ty #[.slice a l c, x']).run P w = .ok (.slice (some ⟨w.heap.size, 0, none⟩) (l + n) (grownCap w (l + n) c elem))
      (w.drew.alloc (.cells (old.toArray ++ new'.toArray ++ Builtin.zeroCells z.cells (grownCap w (l + n) c elem - (l + n))) elem)) := by
  obtain ⟨d, hd, hdk⟩ := hx
  have hzz : ∀ w : World, ((underlying xt).run P w) = .ok d w := fun w => run_underlying hd w
  have hf := hs'.cells w.drew rfl n (Nat.le_refl _)
  rw [← hs'.cells_len, List.take_length] at hf
  have hzero : (d matches .int _) = false := by cases d <;> first | rfl | exact absurd rfl (hdk _)
  have hsize : ∀ w : World, (sizeOf elem).run P w = .ok i.size w := fun w => run_size (by simp [size?, hi]) w
  have hty : ∀ w : World, (typeInfo elem).run P w = .ok i w := fun w => run_typeInfo w hi
  have hzv : ∀ w : World, (zeroValue elem).run P w = .ok z w := fun w => run_zero (by simp [zero?, hi, hz]) w
  have hnl : ¬ (l + n ≤ c) := by omega
  have hr : (2 * (l + n) + 1024) * i.bytes ≤ 2 ^ 47 := by simpa [roomy] using hroom
  have h1 : l + n ≤ 2 ^ 47 := by
    have : (2 * (l + n) + 1024) * 1 ≤ (2 * (l + n) + 1024) * i.bytes := Nat.mul_le_mul_left _ (by omega)
    omega
  have h63 : ¬ (((l + n : Nat) : Int) > IntKind.i64.max) := by simp [IntKind.max, IntKind.signed, IntKind.bits]; omega
  have hcap := nextslicecap_le (l + n) c hc
  have h48 : ¬ (Builtin.nextslicecap (l + n) c * i.bytes > 2 ^ 48) := by
    have := Nat.mul_le_mul_right i.bytes hcap
    omega
  have hmark : ∀ (k : Nat) (w : World), (askRoom k).run P w = .ok () w := by
    intro k w; unfold askRoom; split <;> simp [mark, Sem.run]
  have h63' : ¬ ((9223372036854775807 : Int) < (l : Int) + (n : Int)) := by omega
  have h48' : ¬ (281474976710656 < Builtin.nextslicecap (l + n) c * i.bytes) := by omega
  simp [Builtin.append_, run_underlying hu, hsize, hzz, hzero, hs'.len w rfl, hnl, h63', h48', hty, Question.forced, hmark, hold, hf, hzv, newRow, grownCap]
  rw [← Array.append_assoc]; simp

theorem zeroCells_eq (z : Array Value) (n : Nat) : ((Array.range (n * z.size)).map fun i => z[i % z.size]!).toList = Cn.zeroCells z.toList n := by
  induction n with
  | zero => simp [Cn.zeroCells]
  | succ n ih =>
    have e1 : Cn.zeroCells z.toList (n + 1) = Cn.zeroCells z.toList n ++ z.toList := by
      simp [Cn.zeroCells, List.replicate_succ']
    rw [e1, ← ih]
    apply List.ext_getElem?
    intro j
    by_cases hj : j < n * z.size
    · rw [List.getElem?_append_left (by simpa using hj)]
      simp [hj, show j < (n + 1) * z.size by rw [Nat.add_mul]; omega]
    · rw [List.getElem?_append_right (by simpa using hj)]
      by_cases hj2 : j < (n + 1) * z.size
      · have hz : 0 < z.size := by
          rcases Nat.eq_zero_or_pos z.size with h0 | h0
          · rw [h0] at hj2; simp at hj2
          · exact h0
        have hm : j % z.size = j - n * z.size := by
          have : j = (j - n * z.size) + n * z.size := by omega
          rw [this, Nat.add_mul_mod_self_right, Nat.mod_eq_of_lt (by rw [Nat.add_mul] at hj2; omega)]
          omega
        have hlt : j - n * z.size < z.size := by rw [Nat.add_mul] at hj2; omega
        simp [hj2, hm, hlt]
      · have : ¬ j - n * z.size < z.size := by rw [Nat.add_mul] at hj2; omega
        simp [hj2, this]

theorem zeroCells_len (z : List Value) (n : Nat) : (Cn.zeroCells z n).length = n * z.length := by simp [Cn.zeroCells]

theorem zeroCells_mem {z : List Value} {n : Nat} {v : Value} (h : v ∈ Cn.zeroCells z n) : v ∈ z := by
  simp only [Cn.zeroCells, List.mem_flatten, List.mem_replicate] at h
  obtain ⟨l, ⟨_, rfl⟩, hv⟩ := h
  exact hv

theorem plain_cells {z : Value} (h : plainV 100 z = true) : ∀ v ∈ z.cells.toList, VRel σ v v := by
  intro v hv
  have hz : LRel σ z.cells.toList z.cells.toList := zero_rel h
  obtain ⟨i, hi⟩ := List.getElem?_of_mem hv
  exact hz.2 i v v hi hi

theorem isCell_one {v v' : Value} (h : VRel σ v v') (hc : isCell v = true) : v'.oneCell' = true := by
  cases h <;> first | rfl | (simp [isCell, Cn.unk] at hc; done)
end
end Go.Cn

/- The canonical semantics: the law of the operations that change the heap. -/
set_option linter.unusedVariables false
set_option linter.unusedSimpArgs false
namespace Go.Cn
section
variable {P : Program} {σ : Sg} {base : Nat} {h h' : Hp} {w : World}

/-- What an operation that changes the heap comes to. -/
def Eff (P : Program) (base : Nat) (σ : Sg) (h : Hp) (w : World) (r : Result Next) (v : Value) (h' : Hp) : Prop :=
  ∃ σ' nx v' w', r = .ok nx w' ∧ (nx = .value v' ∨ (nx = .skip ∧ v' = undef)) ∧ VRel σ' v v' ∧ HR base σ' h' w' ∧ Ext base σ h w σ' h' w'

/-- What a builtin that changes the heap comes to. -/
def EffV (P : Program) (base : Nat) (σ : Sg) (h : Hp) (w : World) (r : Result Value) (v : Value) (h' : Hp) : Prop :=
  ∃ σ' v' w', r = .ok v' w' ∧ VRel σ' v v' ∧ HR base σ' h' w' ∧ Ext base σ h w σ' h' w'

theorem EffV.eff {r : Result Value} {v : Value} (hr : EffV P base σ h w r v h') : Eff P base σ h w (r.andThen fun v w => .ok (.value v) w) v h' := by
  obtain ⟨σ', v', w', rfl, h1, h2, h3⟩ := hr
  exact ⟨σ', .value v', v', w', rfl, .inl rfl, h1, h2, h3⟩

theorem EffV.same (hr : HR base σ h w) {r : Result Value} {v v' : Value} (hv : VRel σ v v') (he : r = .ok v' w) : EffV P base σ h w r v h :=
  ⟨σ, v', w, he, hv, hr, Ext.refl _ _ _ _⟩

/-- A new block. -/
theorem EffV.alloc (hr : HR base σ h w) {w' : World} {cs : List Value} {t : TypeId} {c : Array Value} {el : TypeId} {fr : Nat × Nat}
    (hw : WNew w w' (.cells c el fr)) (hlen : cs.length ≤ c.size) (hrel : ∀ (i : Nat) v, cs[i]? = some v → ∃ v', c[i]? = some v' ∧ VRel σ v v') (hfr : ∀ j, j < c.size → ¬ (fr.1 ≤ j ∧ j < fr.2))
    {v v' : Value} (hv : ∀ σ' : Sg, σ' h.next = some ⟨w.heap.size, 0, c.size⟩ → VRel σ' v v') {r : Result Value} (he : r = .ok v' w') : EffV P base σ h w r v (h.alloc cs t) := by
  obtain ⟨h1, h2, h3⟩ := hr.alloc (t := t) hw hlen hrel hfr
  exact ⟨_, v', w', he, hv _ h3, h1, h2⟩

theorem WNew.alloc (w : World) (o : Obj) : WNew w (w.alloc o) o := ⟨rfl, rfl, rfl, rfl⟩
theorem WNew.drew (w : World) (o : Obj) : WNew w (w.drew.alloc o) o := ⟨rfl, rfl, rfl, rfl⟩

theorem LRel.rel {cs : List Value} {c : Array Value} (hl : LRel σ cs c.toList) : ∀ (i : Nat) v, cs[i]? = some v → ∃ v', c[i]? = some v' ∧ VRel σ v v' := by
  intro i v hv
  obtain ⟨y, hy, hvy⟩ := hl.get hv
  exact ⟨y, by simpa using hy, hvy⟩

theorem LRel.prefix {cs : List Value} {c : Array Value} {ys zs : List Value} (hl : LRel σ cs ys) (hc : c.toList = ys ++ zs) : ∀ (i : Nat) v, cs[i]? = some v → ∃ v', c[i]? = some v' ∧ VRel σ v v' := by
  intro i v hv
  obtain ⟨y, hy, hvy⟩ := hl.get hv
  refine ⟨y, ?_, hvy⟩
  have hi := (List.getElem?_eq_some_iff.1 hy).1
  rw [← Array.getElem?_toList, hc, List.getElem?_append_left hi]; exact hy

/-- A store into cells. -/
theorem store_eff (hr : HR base σ h w) {b o : Nat} {vs vs' : List Value} (hs : h.store b o vs = some h') {e : En} (he : σ b = some e) (hv : LRel σ vs vs') :
    ∃ w', (storeCells ⟨e.rb, e.ro + o, none⟩ vs').run P w = .ok () w' ∧ HR base σ h' w' ∧ Ext base σ h w σ h' w' := by
  obtain ⟨h1, h2, h3, h4, h5⟩ := hr.store hs he hv
  refine ⟨_, ?_, h1, h2⟩
  have := run_storeCells_cells (P := P) e.rb (e.ro + o) vs' 0 w (by simpa using h3) (by simpa using h4) (fun v hvm => by
    obtain ⟨i, hi⟩ := List.getElem?_of_mem hvm
    obtain ⟨x, hx, hxv⟩ := hv.get' hi
    exact isCell_one hxv (by have := List.all_eq_true.1 h5 x (List.mem_of_getElem? hx); exact this))
  simpa using this

theorem Hp.store_cell {b o : Nat} {vs : List Value} (hs : h.store b o vs = some h') : vs.all isCell = true := by
  unfold Hp.store at hs
  split at hs
  · split at hs
    · rename_i hc; simp only [Bool.and_eq_true] at hc; exact hc.2
    · simp at hs
  · simp at hs

theorem cstore_run (hr : HR base σ h w) {t : TypeId} {x x' y y' : Value} {b o n : Nat} (hx : VRel σ x x') (hy : VRel σ y y') (hxa : x = .pointer (some ⟨b, o, none⟩)) (hn : size? P t = some n)
    (hsz : y.cells.size = n) (hs : h.store b o y.cells.toList = some h') : ∃ w', (Instr.storeAt t x' y').run P w = .ok () w' ∧ HR base σ h' w' ∧ Ext base σ h w σ h' w' := by
  subst hxa
  obtain ⟨_, e, he, rfl⟩ := hx.ptr_inv
  have hu : isUnk y = false := by
    cases y <;> first | rfl | skip
    have := Hp.store_cell hs
    simp [Value.cells, isCell] at this
  have hcells := hy.cells hu
  obtain ⟨w', h1, h2, h3⟩ := store_eff (P := P) hr hs he hcells
  refine ⟨w', ?_, h2, h3⟩
  have hys : y'.cells.size = n := by rw [← hsz]; simpa using hcells.1.symm
  simp [Instr.storeAt, Instr.sureAddr, storeVar, run_size hn, hys, h1]

theorem cells_size_int {i : TypeInfo} {z : Value} : True := trivial

theorem cappend_run (hr : HR base σ h w) {t xt ty : TypeId} {s s' x x' v : Value} (hv : cappend P t xt s x h = some (v, h')) (hs : VRel σ s s') (hx : VRel σ x x') :
    EffV P base σ h w ((Builtin.append_ #[t, xt] ty #[s', x']).run P w) v h' := by
  unfold cappend at hv
  split at hv
  · rename_i elem hu
    split at hv
    · simp at hv
    · rename_i i d hdk hi hd
      have hnot : notInt P xt := ⟨d, hd, fun k e => hdk k (by rw [e])⟩
      split at hv
      · simp at hv
      · rename_i n new hdata
        obtain ⟨new', hnn, hsrc⟩ := dataOf_run (P := P) hr hdata hx
        have hnl : new.length = n * i.size := by rw [hnn.1, hsrc.cells_len]
        split at hv
        · -- nothing is appended
          rename_i hn0
          subst hn0
          have hn0' : new' = [] := List.eq_nil_of_length_eq_zero (by rw [hsrc.cells_len]; simp)
          subst hn0'
          split at hv
          · rename_i a l c
            split at hv
            · simp at hv
              obtain ⟨rfl, rfl⟩ := hv
              cases a with
              | none =>
                obtain ⟨rfl, rfl, rfl⟩ := hs.snil_inv
                exact EffV.same hr .snil (append_in hu hi hnot hsrc (by omega) (by simp) (fun _ => rfl))
              | some a =>
                obtain ⟨a', c', e, rfl, _, hlc, hcc, _⟩ := hs.slice_inv
                exact EffV.same hr hs (append_in hu hi hnot hsrc (by omega) (fun b hb => by simp [storeCells]) (fun e => by simp at e))
            · simp at hv
          · simp at hv
        · rename_i hn0
          split at hv
          · simp at hv
          · rename_i hcond
            simp only [Bool.or_eq_true, decide_eq_true_eq, Bool.not_eq_true', not_or, Bool.not_eq_false, decide_eq_false_iff_not, Decidable.not_not] at hcond
            obtain ⟨⟨⟨hz, hroom⟩, hsz0⟩, hb0⟩ := hcond
            obtain ⟨z, hz, hzs⟩ : ∃ z, i.zero = some z ∧ z.cells.size = i.size := by
              simp only [Option.map_eq_some_iff] at hz
              exact hz
            have hzl : ∀ k, (Builtin.zeroCells z.cells k).size = k * i.size := fun k => by rw [size_zeroCells, hzs]
            have hrs : ∀ (cap need k : Nat), need ≤ cap → k = need * i.size → k + (cap - need) * i.size = cap * i.size := by
              intro cap need k h1 h2
              rw [h2, ← Nat.add_mul]; congr 1; omega
            split at hv
            · -- of nil
              simp at hv
              obtain ⟨rfl, rfl⟩ := hv
              obtain ⟨_, _, rfl⟩ := hs.snil_inv
              have hrm : roomy (0 + n) i.bytes = true := by simpa [slen] using hroom
              have := append_grow (P := P) (w := w) (ty := ty) (a := none) (l := 0) (c := 0) (old := []) hu hi hz hnot hsrc (by omega) hrm hb0 (by simp [Builtin.firstCells])
              have hcap := grownCap_le w (0 + n) 0 elem
              refine EffV.alloc hr (WNew.drew w _) ?_ ?_ (by simp) ?_ this
              · simp; rw [hnl]; rw [hsrc.cells_len]; omega
              · refine LRel.prefix hnn ?_ (zs := (Builtin.zeroCells z.cells (grownCap w (0 + n) 0 elem - (0 + n))).toList)
                simp
              · intro σ' he
                rw [Nat.zero_add]
                refine .sopen h.next 0 i.size n n _ _ _ he (Nat.le_refl _) (by simpa using hcap) (.inr ⟨rfl, ?_⟩)
                simp only [Nat.zero_add, Array.size_append, List.size_toArray, List.length_append, List.nil_append, List.length_nil, hzl, hsrc.cells_len] at hcap ⊢
                exact Nat.le_of_eq (hrs _ _ _ hcap rfl).symm
            · rename_i b o sp l c
              obtain ⟨a', c', e, rfl, he, hlc, hcc, ha, hx'⟩ := hs.slice_inv
              simp only at he ha hx'
              have hstr : roomy (l + n) i.bytes = true := by simpa [slen] using hroom
              split at hv
              · -- room that is known
                rename_i hfit
                simp only [Option.map_eq_some_iff, Prod.mk.injEq] at hv
                obtain ⟨h1, hst, rfl, rfl⟩ := hv
                have ha' : a' = ⟨e.rb, e.ro + o, none⟩ := by rcases ha with h00 | h00 <;> first | omega | exact h00
                subst ha'
                obtain ⟨w', k1, k2, k3⟩ := store_eff (P := P) hr hst he hnn
                refine ⟨σ, _, w', append_in hu hi hnot hsrc (by omega) (fun b hb => ?_) (fun e => by simp at e), ?_, k2, k3⟩
                · cases hb
                  rw [add_plain]
                  rw [show e.ro + o + l * i.size = e.ro + (o + l * i.size) by omega]
                  exact k1
                · rcases hx' with ⟨rfl, rfl⟩ | ⟨k, rfl, hk⟩
                  · exact .sexact b o (l + n) c e _ he hfit (.inr rfl)
                  · exact .sopen b o k (l + n) c c' e _ he hfit hcc (by rcases hk with hk | hk <;> first | omega | exact .inr ⟨rfl, hk⟩)
              · rename_i hfit
                split at hv
                · -- the capacity is known: a new array
                  rcases hx' with ⟨_, rfl⟩ | ⟨k, hk, _⟩
                  · split at hv
                    · rename_i hl0
                      subst hl0
                      simp at hv
                      obtain ⟨rfl, rfl⟩ := hv
                      have := append_grow (P := P) (w := w) (ty := ty) (a := some a') (l := 0) (c := c) (old := []) hu hi hz hnot hsrc (by omega) hstr hb0 (by simp [Builtin.firstCells, loadCells, loadCellsFrom])
                      have hcap := grownCap_le w (0 + n) c elem
                      refine EffV.alloc hr (WNew.drew w _) ?_ ?_ (by simp) ?_ this
                      · simp; rw [hnl, hsrc.cells_len]; omega
                      · refine LRel.prefix hnn ?_ (zs := (Builtin.zeroCells z.cells (grownCap w (0 + n) c elem - (0 + n))).toList)
                        simp
                      · intro σ' he
                        rw [Nat.zero_add]
                        refine .sopen h.next 0 i.size n n _ _ _ he (Nat.le_refl _) (by simpa using hcap) (.inr ⟨rfl, ?_⟩)
                        simp only [Nat.zero_add, Array.size_append, List.size_toArray, List.length_append, List.nil_append, List.length_nil, hzl, hsrc.cells_len] at hcap ⊢
                        exact Nat.le_of_eq (hrs _ _ _ hcap rfl).symm
                    · rename_i hl0
                      simp only [Option.map_eq_some_iff, Prod.mk.injEq] at hv
                      obtain ⟨old, hold, rfl, rfl⟩ := hv
                      have ha' : a' = ⟨e.rb, e.ro + o, none⟩ := by rcases ha with h00 | h00 <;> first | omega | exact h00
                      subst ha'
                      obtain ⟨q1, old', q2, q3, q4⟩ := hr.cellsAt hold he
                      have hl := run_loadCells_list (P := P) w.drew ⟨e.rb, e.ro + o, none⟩ old' (fun j v hj => q4 j v hj)
                      rw [q2] at hl
                      have := append_grow (P := P) (w := w) (ty := ty) (a := some ⟨e.rb, e.ro + o, none⟩) (l := l) (c := c) (old := old') hu hi hz hnot hsrc (by omega) hstr hb0 (by simp [Builtin.firstCells, hl])
                      have hcap := grownCap_le w (l + n) c elem
                      refine EffV.alloc hr (WNew.drew w _) ?_ ?_ (by simp) ?_ this
                      · simp; rw [hnl, hsrc.cells_len, q1, q2]; omega
                      · refine LRel.prefix (q3.append hnn) ?_ (zs := (Builtin.zeroCells z.cells (grownCap w (l + n) c elem - (l + n))).toList)
                        simp
                      · intro σ' he
                        refine .sopen h.next 0 i.size (l + n) (l + n) _ _ _ he (Nat.le_refl _) hcap (.inr ⟨rfl, ?_⟩)
                        simp only [Nat.zero_add, Array.size_append, List.size_toArray, List.length_append, hzl, hsrc.cells_len, q2]
                        exact Nat.le_of_eq (hrs _ _ _ hcap (by rw [Nat.add_mul])).symm
                  · simp at hk
                · rename_i k
                  split at hv
                  · rename_i hki
                    subst hki
                    simp only [Option.map_eq_some_iff, Prod.mk.injEq] at hv
                    obtain ⟨h1, hext, rfl, rfl⟩ := hv
                    rcases hx' with ⟨hk, _⟩ | ⟨k, hk, hbnd⟩
                    · simp at hk
                    · simp at hk; subst hk
                      have hbn : b ≠ h.next := by have := (hr.dom _ _ he).1; omega
                      obtain ⟨cs0, t0, g0, rest0, hxt⟩ := Hp.extend_spec hext hbn
                      have hnc := hxt.cell
                      by_cases hin : l + n ≤ c'
                      · -- the model writes behind the old cells
                        have ha' : a' = ⟨e.rb, e.ro + o, none⟩ := by rcases ha with h00 | h00 <;> first | omega | exact h00
                        subst ha'
                        have hbnd' : e.ro + o + c' * i.size ≤ e.rs := by rcases hbnd with h00 | h00 <;> first | omega | exact h00
                        have hmul : (l + n) * i.size ≤ c' * i.size := Nat.mul_le_mul_right _ hin
                        rw [Nat.add_mul] at hmul
                        obtain ⟨⟨en, k1, k2, k3⟩, k4, k5⟩ := hr.extend_in hext he hnn (by rw [hsrc.cells_len]; omega)
                        have hst := run_storeCells_cells (P := P) e.rb (e.ro + (o + l * i.size)) new' 0 w (by simpa using k4) (by simpa using k5) (fun v hvm => by
                          obtain ⟨j, hj⟩ := List.getElem?_of_mem hvm
                          obtain ⟨y, hy, hyv⟩ := hnn.get' hj
                          exact isCell_one hyv (List.all_eq_true.1 hnc y (List.mem_of_getElem? hy)))
                        refine ⟨_, _, _, append_in hu hi hnot hsrc hin (fun bb hbb => ?_) (fun e => by simp at e), ?_, k1, k2⟩
                        · cases hbb
                          rw [add_plain, show e.ro + o + l * i.size = e.ro + (o + l * i.size) by omega]
                          simpa using hst
                        · refine .sopen h.next 0 i.size (l + n) (l + n) c' en _ (by simp [Sg.put]) (Nat.le_refl _) hin (.inr ?_)
                          subst k3
                          exact ⟨by simp, by simpa using hbnd'⟩
                      · -- the model makes a new array
                        have hgt : c' < l + n := by omega
                        obtain ⟨⟨c0, el0, fr0, q1, q2, q3, q4, q5⟩, q6⟩ := hr.cell b e cs0 t0 (some g0) he hxt.old hxt.live
                        have hole := hxt.e_le
                        -- the old cells
                        have hcells : h.cellsAt b o (l * i.size) = some ((cs0.drop o).take (l * i.size)) := by
                          unfold Hp.cellsAt
                          rw [hxt.old]
                          simp only [hxt.live, Bool.true_and]
                          rw [if_pos (by simpa using hole)]
                        obtain ⟨r1, old', r2, r3, r4⟩ := hr.cellsAt hcells he
                        have hfirst : (Builtin.firstCells i.size l (.slice (some a') l c')).run P w.drew = .ok old'.toArray w.drew := by
                          by_cases hl0 : l = 0
                          · subst hl0
                            have : old' = [] := List.eq_nil_of_length_eq_zero (by rw [r2]; simp)
                            subst this
                            simp [Builtin.firstCells, loadCells, loadCellsFrom]
                          · have ha' : a' = ⟨e.rb, e.ro + o, none⟩ := by rcases ha with h00 | h00 <;> first | omega | exact h00
                            subst ha'
                            have := run_loadCells_list (P := P) w.drew ⟨e.rb, e.ro + o, none⟩ old' (fun j v hj => r4 j v hj)
                            rw [r2] at this
                            simp [Builtin.firstCells, this]
                        have := append_grow (P := P) (w := w) (ty := ty) (a := some a') (l := l) (c := c') (old := old') hu hi hz hnot hsrc hgt hstr hb0 hfirst
                        have hcap := grownCap_le w (l + n) c' elem
                        have hsub : o + l * i.size - o = l * i.size := by omega
                        have hcsz : ((old' ++ new').toArray ++ Builtin.zeroCells z.cells (grownCap w (l + n) c' elem - (l + n))).size = grownCap w (l + n) c' elem * i.size := by
                          simp only [Array.size_append, List.size_toArray, List.length_append, hzl, hsrc.cells_len, r2]
                          exact hrs _ _ _ hcap (by rw [Nat.add_mul])
                        obtain ⟨en, k1, k2, k3⟩ := hr.extend_new hext he hnn (WNew.drew w (.cells ((old' ++ new').toArray ++ Builtin.zeroCells z.cells (grownCap w (l + n) c' elem - (l + n))) elem)) (by simp)
                          (fun j hj v hv => by
                            rw [hsub] at hj
                            have hjl : j < old'.length := by rw [r2]; exact hj
                            have := r4 j _ (List.getElem?_eq_getElem hjl)
                            rw [add_plain] at this
                            rw [this] at hv; cases hv
                            rw [Array.getElem?_append_left (by simp; omega)]
                            simp [List.getElem?_append_left hjl])
                          (fun j v hv => by
                            have hjl := (List.getElem?_eq_some_iff.1 hv).1
                            rw [hsub, Array.getElem?_append_left (by simp; omega)]
                            simp only [List.getElem?_toArray]
                            rw [List.getElem?_append_right (by omega), r2, show l * i.size + j - l * i.size = j by omega]
                            exact hv)
                          (by rw [hcsz, hsub, hnl, ← Nat.add_mul]; exact Nat.mul_le_mul_right _ hcap)
                        refine ⟨_, .slice (some ⟨w.heap.size, 0, none⟩) (l + n) (grownCap w (l + n) c' elem), _, by simpa using this, ?_, k1, k2⟩
                        · subst k3
                          refine .sopen h.next 0 i.size (l + n) (l + n) _ ⟨w.heap.size, 0, ((old' ++ new').toArray ++ Builtin.zeroCells z.cells (grownCap w (l + n) c' elem - (l + n))).size⟩ _ (by unfold Sg.put; rw [if_pos rfl]) (Nat.le_refl _) hcap (.inr ⟨rfl, ?_⟩)
                          simp only [Nat.zero_add]
                          exact Nat.le_of_eq hcsz.symm
                  · simp at hv
            · simp at hv
    · simp at hv
  · simp at hv

theorem ccopy_run (hr : HR base σ h w) {t xt ty : TypeId} {d d' x x' v : Value} (hv : ccopy P t d x h = some (v, h')) (hd : VRel σ d d') (hx : VRel σ x x') {ts : Array TypeId} (ht : ts[0]? = some t) :
    EffV P base σ h w ((Builtin.copy_ ts ty #[d', x']).run P w) v h' := by
  unfold ccopy at hv
  split at hv
  · rename_i elem hu
    split at hv
    · rename_i size a l c hs
      split at hv
      · simp at hv
      · rename_i n new hdata
        obtain ⟨new', hnn, hsrc⟩ := dataOf_run (P := P) hr hdata hx
        have hf := hsrc.cells w rfl (Nat.min n l) (Nat.min_le_left _ _)
        have hlen := hsrc.len w rfl
        simp only at hv
        split at hv
        · rename_i hm
          simp at hv
          obtain ⟨rfl, rfl⟩ := hv
          have hm' : Nat.min n l = 0 := hm
          rw [hm'] at hf
          simp at hf
          cases a with
          | none =>
            obtain ⟨rfl, rfl, rfl⟩ := hd.snil_inv
            refine EffV.same hr (.int .i64 0) ?_
            simp [Builtin.copy_, ht, run_underlying hu, hlen, run_size hs, hf, goInt, hm']
          | some a =>
            obtain ⟨a', c', e, rfl, _⟩ := hd.slice_inv
            refine EffV.same hr (.int .i64 0) ?_
            simp [Builtin.copy_, ht, run_underlying hu, hlen, run_size hs, goInt, hm', hf, storeCells]
        · rename_i hm
          split at hv
          · rename_i b o sp
            simp only [Option.map_eq_some_iff, Prod.mk.injEq] at hv
            obtain ⟨h1, hst, rfl, rfl⟩ := hv
            obtain ⟨a', c', e, rfl, he, hlc, hcc, ha, _⟩ := hd.slice_inv
            simp only at he ha
            have hl0 : 0 < l := Nat.pos_of_ne_zero fun h0 => hm (by rw [h0]; exact Nat.min_zero n)
            have ha' : a' = ⟨e.rb, e.ro + o, none⟩ := by rcases ha with h00 | h00 <;> first | omega | exact h00
            subst ha'
            obtain ⟨w', k1, k2, k3⟩ := store_eff (P := P) hr hst he (hnn.take _)
            refine ⟨σ, .int .i64 (min n l : Nat), w', ?_, .int _ _, k2, k3⟩
            have hf' : (Builtin.firstCells size (min n l) x').run P w = .ok (new'.take (min n l * size)).toArray w := hf
            simp [Builtin.copy_, ht, run_underlying hu, hlen, run_size hs, goInt, hf', k1]
          · simp at hv
    · simp at hv
  · simp at hv

theorem mark_run (k : Nat) (w : World) : (askRoom k).run P w = .ok () w := by
  unfold askRoom; split <;> simp [mark, Sem.run]

theorem wrap_i64 {n : Int} (h0 : 0 ≤ n) (h1 : n ≤ IntKind.i64.max) : IntKind.i64.wrap n = n := by
  simp only [IntKind.max, IntKind.signed, IntKind.bits, if_true] at h1
  have e : n % 2 ^ 64 = n := Int.emod_eq_of_lt h0 (by omega)
  simp only [IntKind.wrap, IntKind.bits, IntKind.signed, Bool.true_and, e, decide_eq_true_eq, Nat.add_one_sub_one]
  rw [if_neg (by omega)]

theorem cmakeSlice_run (hr : HR base σ h w) {t : TypeId} {l l' c c' v : Value} (hv : cmakeSlice P t l c h = some (v, h')) (hl : VRel σ l l') (hc : VRel σ c c') :
    EffV P base σ h w ((Instr.makeSlice t l' c').run P w) v h' := by
  unfold cmakeSlice at hv
  split at hv
  · rename_i elem k1 len k2 cap hu
    obtain rfl := hl.int_inv
    obtain rfl := hc.int_inv
    split at hv
    · rename_i i hi
      split at hv
      · rename_i hcond
        obtain ⟨h0, h1, h2, h3⟩ := hcond
        split at hv
        · rename_i z hz
          split at hv
          · rename_i hzc
            simp only [Bool.and_eq_true, decide_eq_true_eq, Bool.not_eq_true', decide_eq_false_iff_not] at hzc
            obtain ⟨⟨hzs, hz0⟩, hzp⟩ := hzc
            simp at hv
            obtain ⟨rfl, rfl⟩ := hv
            have hsize : ∀ w : World, (sizeOf elem).run P w = .ok i.size w := fun w => run_size (by simp [size?, hi]) w
            have hty : ∀ w : World, (typeInfo elem).run P w = .ok i w := fun w => run_typeInfo w hi
            have hzv : ∀ w : World, (zeroValue elem).run P w = .ok z w := fun w => run_zero (by simp [zero?, hi, hz]) w
            have e1 : IntKind.i64.wrap len = len := wrap_i64 h0 (by omega)
            have e2 : IntKind.i64.wrap cap = cap := wrap_i64 (by omega) h3
            have htl : ¬ ((cap < 0 ∨ 281474976710656 < (i.bytes : Int) * cap) ∨ len < 0 ∨ cap < len) := by omega
            have hzeq := zeroCells_eq z.cells cap.toNat
            rw [hzs] at hzeq
            refine EffV.alloc (w' := w.alloc (.cells ((Array.range (cap.toNat * i.size)).map fun j => (if cap.toNat * i.size = 0 then #[] else z.cells)[j % (if cap.toNat * i.size = 0 then #[] else z.cells).size]!) elem)) hr (WNew.alloc w _) ?_ ?_ (by simp) ?_
              (v' := .slice (some ⟨w.heap.size, 0, none⟩) len.toNat cap.toNat) ?_
            · rw [zeroCells_len]; simp [hzs]
            · by_cases hc0 : cap.toNat * i.size = 0
              · have : cap.toNat = 0 := by
                  rcases Nat.mul_eq_zero.1 hc0 with h | h
                  · exact h
                  · exact absurd h hz0
                rw [this]; simp [Cn.zeroCells]
              · simp only [hc0, if_false]
                refine LRel.rel ?_
                rw [hzs, hzeq]
                exact LRel.refl_of fun v hv => plain_cells hzp v (zeroCells_mem hv)
            · intro σ' he
              exact .sexact h.next 0 len.toNat cap.toNat _ _ he (by omega) (.inr (by simp))
            · by_cases hc0 : cap.toNat * i.size = 0
              · simp [Instr.makeSlice, run_underlying hu, asInt, asIntOf, hty, e1, e2, htl, mark_run, hsize, hc0, newRow]
                intro hh; omega
              · simp [Instr.makeSlice, run_underlying hu, asInt, asIntOf, hty, e1, e2, htl, mark_run, hsize, hc0, hzv, newRow]
                intro hh; omega
          · simp at hv
        · simp at hv
      · simp at hv
    · simp at hv
  · simp at hv

theorem cclear_run (hr : HR base σ h w) {t ty : TypeId} {x x' v : Value} (hv : cclear P t x h = some (v, h')) (hx : VRel σ x x') {ts : Array TypeId} (ht : ts[0]? = some t) :
    EffV P base σ h w ((Builtin.clear_ ts ty #[x']).run P w) v h' := by
  unfold cclear at hv
  split at hv
  · rename_i elem n c hu
    obtain ⟨rfl, rfl, rfl⟩ := hx.snil_inv
    simp at hv; obtain ⟨rfl, rfl⟩ := hv
    refine EffV.same hr (VRel.undef σ) ?_
    simp [Builtin.clear_, ht, run_underlying hu, undef]
  · rename_i elem b o sp n c hu
    obtain ⟨a', c', e, rfl, he, hlc, hcc, ha, _⟩ := hx.slice_inv
    simp only at he ha
    split at hv
    · rename_i hn
      subst hn
      simp at hv; obtain ⟨rfl, rfl⟩ := hv
      refine EffV.same hr (VRel.undef σ) ?_
      simp [Builtin.clear_, ht, run_underlying hu, undef]
    · rename_i hn
      split at hv
      · rename_i z hz
        split at hv
        · rename_i hzp
          simp only [Option.map_eq_some_iff, Prod.mk.injEq] at hv
          obtain ⟨h1, hst, rfl, rfl⟩ := hv
          have ha' : a' = ⟨e.rb, e.ro + o, none⟩ := by rcases ha with h00 | h00 <;> first | omega | exact h00
          subst ha'
          obtain ⟨w', k1, k2, k3⟩ := store_eff (P := P) hr hst he (LRel.refl_of fun v hv => plain_cells hzp v (zeroCells_mem hv))
          have hzeq : (Builtin.zeroCells z.cells n).toList = Cn.zeroCells z.cells.toList n := zeroCells_eq z.cells n
          refine ⟨σ, undef, w', ?_, VRel.undef σ, k2, k3⟩
          obtain ⟨n, rfl⟩ : ∃ m, n = m + 1 := ⟨n - 1, by omega⟩
          simp [Builtin.clear_, ht, run_underlying hu, run_zero hz, hzeq, k1, undef]
        · simp at hv
      · simp at hv
  · simp at hv

theorem box_eff (hr : HR base σ h w) {x x' : Value} (hx : VRel σ x x') (hu : isUnk x = false) (e : TypeId) :
    EffV P base σ h w ((Instr.box e x').run P w) (ptr h.next 0) (h.alloc x.cells.toList e) := by
  have hc := hx.cells hu
  refine EffV.alloc (w' := w.alloc (.cells x'.cells e)) hr (WNew.alloc w _) (by have := hc.1; simp at this; simp; omega) hc.rel (by simp) (v' := .pointer (some ⟨w.heap.size, 0, none⟩)) ?_ ?_
  · intro σ' he
    exact .ptr h.next 0 _ he
  · simp [Instr.box, newVar, newRow]

theorem alloc_eff (hr : HR base σ h w) {e : TypeId} {z : Value} (hz : zero? P e = some z) (hp : plainV 100 z = true) :
    EffV P base σ h w ((Instr.alloc e true (.tuple #[])).run P w) (ptr h.next 0) (h.alloc z.cells.toList e) := by
  have hc : LRel σ z.cells.toList z.cells.toList := zero_rel hp
  refine EffV.alloc (w' := w.alloc (.cells z.cells e)) hr (WNew.alloc w _) (by simp) hc.rel (by simp) (v' := .pointer (some ⟨w.heap.size, 0, none⟩)) ?_ ?_
  · intro σ' he
    exact .ptr h.next 0 _ he
  · simp [Instr.alloc, run_zero hz, newVar, newRow]

theorem LRel.length_eq {xs ys : List Value} (h : LRel σ xs ys) : xs.length = ys.length := h.1

theorem fillL_length {place : Nat → Option (Nat × Nat)} : ∀ {parts : List (Nat × Value)} {cells l : List Value}, fillL place cells parts = some l → l.length = cells.length
  | [], cells, l, h => by simp [fillL] at h; rw [h]
  | (i, x) :: ps, cells, l, h => by
    simp only [fillL] at h
    split at h
    · simp at h
    · split at h
      · simp at h
      · rename_i hc
        simp only [Bool.or_eq_true, decide_eq_true_eq, not_or] at hc
        rw [fillL_length h, splice_length (by simp; omega)]

/-- The model's object that is made. -/
def MkRel (σ : Sg) (c : Option (List Value × TypeId)) (r : Obj) : Prop :=
  match c with
  | some (cs, _) => ∃ cc el, r = .cells cc el ∧ LRel σ cs cc.toList
  | none => r = .map #[] 0
def objSize : Obj → Nat
  | .cells c _ _ => c.size
  | _ => 0

/-- What a making comes to: a block with the cells that the operands say; an empty map. -/
theorem mkOf_run (w : World) {tm : List Value} {a : Act} (ht : TRel σ tm a.tmps) (o : Oper) {m : Option (List Value × TypeId) × (Nat → Value)} (hm : mkOf P tm o.op = some m) :
    ∃ (v' : Value) (r : Obj), (execOp a.eval o).run P w = .ok (.value v') (w.alloc r) ∧ MkRel σ m.1 r ∧ ∀ (id : Nat) (σ' : Sg), σ' id = some ⟨w.heap.size, 0, objSize r⟩ → VRel σ' (m.2 id) v' := by
  obtain ⟨dst, op, ty, pos, after, guard⟩ := o
  have ev := fun x => ev_rel ht x
  unfold mkOf at hm
  simp only at hm
  split at hm
  · rename_i e x
    split at hm
    · simp at hm
    · rename_i hu
      simp at hm; subst hm
      have hc := (ev x).cells (by simpa using hu)
      exact ⟨.pointer (some ⟨w.heap.size, 0, none⟩), .cells (a.eval x).cells e, by simp [execOp, Instr.box, newVar, newRow], ⟨_, _, rfl, hc⟩, fun id σ' he => .ptr id 0 _ he⟩
  · rename_i t len parts
    split at hm
    · rename_i e hu
      split at hm
      · rename_i i hi
        split at hm
        · rename_i z hz
          split at hm
          · simp at hm
          · rename_i hc
            simp only [Bool.or_eq_true, decide_eq_true_eq, not_or, Bool.not_eq_true', Bool.not_eq_false, ne_eq, Decidable.not_not] at hc
            obtain ⟨⟨⟨h24, hzs⟩, hz0⟩, hzp⟩ := hc
            simp only [Option.map_eq_some_iff] at hm
            obtain ⟨cs, hf, rfl⟩ := hm
            have hsize : (sizeOf e).run P w = .ok i.size w := run_size (by simp [size?, hi]) w
            have hzv : (zeroValue e).run P w = .ok z w := run_zero (by simp [zero?, hi, hz]) w
            have hzeq := zeroCells_eq z.cells len
            rw [hzs] at hzeq
            have hzr : LRel σ (Cn.zeroCells z.cells.toList len) (((Array.range (len * i.size)).map fun j => (if len * i.size = 0 then #[] else z.cells)[j % (if len * i.size = 0 then #[] else z.cells).size]!)).toList := by
              by_cases hc0 : len * i.size = 0
              · have : len = 0 := by
                  rcases Nat.mul_eq_zero.1 hc0 with h | h
                  · exact h
                  · exact absurd h hz0
                rw [this]; simp [Cn.zeroCells]; exact LRel.nil σ
              · simp only [hc0, if_false]
                rw [hzs, hzeq]
                exact LRel.refl_of fun v hv => plain_cells hzp v (zeroCells_mem hv)
            obtain ⟨l', k1, k2⟩ := fill_rel hf hzr (ev_parts ht parts.toList)
            refine ⟨.slice (some ⟨w.heap.size, 0, none⟩) len len, .cells l' e, ?_, ⟨_, _, rfl, k2⟩, fun id σ' he => .sexact id 0 len len _ _ he (Nat.le_refl _) (.inr (by simp))⟩
            have h24' : ¬ (16777216 < len * i.size) := by simpa using h24
            have : (Instr.buildSlice t len (parts.map fun (j, x) => (j, a.eval x))).run P w = .ok (.slice (some ⟨w.heap.size, 0, none⟩) len len) (w.alloc (.cells l' e)) := by
              by_cases hc0 : len * i.size = 0
              · simp only [hc0, if_true] at k1
                simp [Instr.buildSlice, run_underlying hu, hsize, hc0, newRow]
                try simp at k1
                simp [k1]
              · simp only [hc0, if_false] at k1
                simp [Instr.buildSlice, run_underlying hu, hsize, h24', hc0, hzv, newRow]
                try simp at k1
                simp [k1]
            simp [execOp, this]
        · simp at hm
      · simp at hm
    · simp at hm
  · simp at hm; subst hm
    exact ⟨.map (some w.heap.size), .map #[] 0, by simp [execOp, Instr.makeMap], rfl, fun id σ' he => .map id _ he⟩
  · simp at hm

theorem mkop_run (hr : HR base σ h w) {tm : List Value} {a : Act} (ht : TRel σ tm a.tmps) (o : Oper) {v : Value} (hv : mkop P tm o.op h = some (v, h')) :
    ∃ σ' v' w', (execOp a.eval o).run P w = .ok (.value v') w' ∧ VRel σ' v v' ∧ HR base σ' h' w' ∧ Ext base σ h w σ' h' w' := by
  unfold mkop at hv
  simp only [Option.map_eq_some_iff, Prod.mk.injEq] at hv
  obtain ⟨m, hm, rfl, rfl⟩ := hv
  obtain ⟨v', r, h1, h2, h3⟩ := mkOf_run (P := P) w ht o hm
  obtain ⟨c, vf⟩ := m
  cases c with
  | some ce =>
    obtain ⟨cs, e⟩ := ce
    obtain ⟨cc, el, rfl, h2⟩ := h2
    have hlen := h2.1
    obtain ⟨g1, g2, g3⟩ := hr.alloc (t := e) (WNew.alloc w (.cells cc el)) (by simp at hlen; omega) h2.rel (by simp)
    exact ⟨_, v', _, h1, h3 _ _ g3, g1, g2⟩
  | none =>
    have h2 : r = .map #[] 0 := h2
    subst h2
    obtain ⟨g1, g2, g3⟩ := hr.newOth (o := .map [] 0) (r := .map #[] 0) rfl (WNew.push w _) ⟨rfl, .nil⟩
    exact ⟨_, v', _, h1, h3 _ _ g3, g1, g2⟩

/-- ALL OPERATIONS THAT CHANGE THE HEAP. -/
theorem eop_run (hr : HR base σ h w) {tm : List Value} {a : Act} (ht : TRel σ tm a.tmps) (o : Oper) {v : Value} (hv : eop P tm o.op h = some (v, h')) :
    Eff P base σ h w ((execOp a.eval o).run P w) v h' := by
  obtain ⟨dst, op, ty, pos, after, guard⟩ := o
  have ev := fun x => ev_rel ht x
  unfold eop at hv
  simp only at hv
  split at hv
  · rename_i e
    split at hv
    · rename_i z hz
      split at hv
      · rename_i hp
        simp at hv; obtain ⟨rfl, rfl⟩ := hv
        have := (alloc_eff (P := P) hr hz hp).eff
        simpa [execOp] using this
      · simp at hv
    · simp at hv
  · rename_i t x y
    split at hv
    · rename_i b o n hx hn
      split at hv
      · rename_i hsz
        simp only [Option.map_eq_some_iff, Prod.mk.injEq] at hv
        obtain ⟨h1, hst, rfl, rfl⟩ := hv
        obtain ⟨w', k1, k2, k3⟩ := cstore_run (P := P) hr (ev x) (ev y) hx hn hsz hst
        exact ⟨σ, .skip, undef, w', by simp [execOp, k1], .inr ⟨rfl, rfl⟩, VRel.undef σ, k2, k3⟩
      · simp at hv
    · simp at hv
  · rename_i t l c
    have := (cmakeSlice_run (P := P) hr hv (ev l) (ev c)).eff
    simpa [execOp] using this
  · rename_i t r
    split at hv
    · simp at hv; obtain ⟨rfl, rfl⟩ := hv
      obtain ⟨σ', v', w', h1, h2, h3, h4⟩ := makeMap_run (P := P) hr t (r := none) (.inl rfl)
      exact ⟨σ', .value v', v', w', by simp [execOp, h1], .inl rfl, h2, h3, h4⟩
    · rename_i x
      split at hv
      · rename_i a0 b0 k n hu hx0
        simp at hv; obtain ⟨rfl, rfl⟩ := hv
        have hx := ev x
        rw [hx0] at hx
        obtain ⟨σ', v', w', h1, h2, h3, h4⟩ := makeMap_run (P := P) hr t (r := some (a.eval x)) (.inr ⟨⟨k, n, by rw [hx.int_inv]⟩, a0, b0, hu⟩)
        exact ⟨σ', .value v', v', w', by simp [execOp, h1], .inl rfl, h2, h3, h4⟩
      · simp at hv
  · rename_i t m k x
    simp only [Option.map_eq_some_iff, Prod.mk.injEq] at hv
    obtain ⟨h1, hst, rfl, rfl⟩ := hv
    obtain ⟨w', k1, k2, k3⟩ := cmapUpdate_run (P := P) hr hst (ev m) (ev k) (ev x)
    exact ⟨σ, .skip, undef, w', by simp [execOp, k1], .inr ⟨rfl, rfl⟩, VRel.undef σ, k2, k3⟩
  · rename_i t m k x
    simp only [Option.map_eq_some_iff, Prod.mk.injEq] at hv
    obtain ⟨h1, hst, rfl, rfl⟩ := hv
    obtain ⟨w', k1, k2, k3⟩ := cmapUpdate_run (P := P) hr hst (ev m) (ev k) (ev x)
    exact ⟨σ, .skip, undef, w', by simp [execOp, k1], .inr ⟨rfl, rfl⟩, VRel.undef σ, k2, k3⟩
  · rename_i t m k
    obtain ⟨v', w', k1, k2, k3, k4⟩ := cmapEntry_run (P := P) hr hv (ev m) (ev k)
    exact ⟨σ, .value v', v', w', by simp [execOp, k1], .inl rfl, k2, k3, k4⟩
  · rename_i t m s x
    simp only [Option.map_eq_some_iff, Prod.mk.injEq] at hv
    obtain ⟨h1, hst, rfl, rfl⟩ := hv
    obtain ⟨w', k1, k2, k3⟩ := centryStore_run (P := P) (t := t) hr hst (ev m) (ev s) (ev x)
    exact ⟨σ, .skip, undef, w', by simp [execOp, k1], .inr ⟨rfl, rfl⟩, VRel.undef σ, k2, k3⟩
  · rename_i t x
    obtain ⟨σ', v', w', k1, k2, k3, k4⟩ := crange_run (P := P) hr hv (ev x)
    exact ⟨σ', .value v', v', w', by simp [execOp, k1], .inl rfl, k2, k3, k4⟩
  · rename_i args ats
    split at hv
    · rename_i t ts m k e1 e2
      have ht0 : ats[0]? = some t := by rw [← Array.getElem?_toList, e1]; rfl
      have hx0 : (args.map a.eval)[0]? = some (a.eval m) := by rw [Array.getElem?_map, ← Array.getElem?_toList, e2]; rfl
      have hx1 : (args.map a.eval)[1]? = some (a.eval k) := by rw [Array.getElem?_map, ← Array.getElem?_toList, e2]; rfl
      obtain ⟨v', w', k1, k2, k3, k4⟩ := cdelete_run (P := P) (ty := ty) hr ht0 hx0 hx1 hv (ev m) (ev k)
      exact ⟨σ, .value v', v', w', by simp [execOp, resolve, invoke, builtin, k1], .inl rfl, k2, k3, k4⟩
    · simp at hv
  · rename_i src dst x
    have hx := ev x
    split at hv
    · rename_i e s hs hd hx0
      rw [hx0] at hx
      obtain hx1 := hx.string_inv
      split at hv
      · rename_i he
        simp at hv; obtain ⟨rfl, rfl⟩ := hv
        · have hrun := run_bytes_of_string (P := P) w src dst e s hs hd he
          have hcap := grownCap_le w s.size 0 e
          have hbs : (bytesRow s (grownCap w s.size 0 e)).size = grownCap w s.size 0 e := by
            simp [bytesRow]; omega
          have : EffV P base σ h w ((convert src dst (a.eval x)).run P w) (.slice (some ⟨h.next, 0, some 1⟩) s.size s.size) (h.alloc (s.data.toList.map fun b => .int .u8 b.toNat) e) := by
            rw [hx1]
            refine EffV.alloc hr (WNew.drew w _) ?_ ?_ ?_ ?_ hrun
            · rw [hbs]; simpa using hcap
            · refine LRel.prefix (ys := s.data.toList.map fun b => .int .u8 b.toNat) (zs := (Array.replicate (grownCap w s.size 0 e - s.size) (Value.int .u8 0)).toList) (LRel.refl_of (by simp; intro b _; exact .int _ _)) ?_
              simp [bytesRow]
            · intro j hj; simp; omega
            · intro σ' he
              refine .sopen h.next 0 1 s.size s.size _ _ _ he (Nat.le_refl _) hcap (.inr ⟨rfl, ?_⟩)
              simp only [Nat.zero_add, Nat.mul_one]
              rw [hbs]; exact Nat.le_refl _
          have := this.eff
          simpa [execOp] using this
      · simp at hv
    · simp at hv
  · rename_i args ats
    split at hv
    · rename_i t xt s x e1 e2
      have ha : args.map a.eval = #[a.eval s, a.eval x] := by
        apply Array.ext'; simp [e2]
      have hts : ats = #[t, xt] := by apply Array.ext'; simp [e1]
      have := (cappend_run (P := P) (ty := ty) hr hv (ev s) (ev x)).eff
      simpa [execOp, resolve, invoke, builtin, ha, hts] using this
    · simp at hv
  · rename_i args ats
    split at hv
    · rename_i t ts d x e1 e2
      have ha : args.map a.eval = #[a.eval d, a.eval x] := by
        apply Array.ext'; simp [e2]
      have ht0 : ats[0]? = some t := by rw [← Array.getElem?_toList, e1]; rfl
      have := (ccopy_run (P := P) (xt := t) (ty := ty) hr hv (ev d) (ev x) ht0).eff
      simpa [execOp, resolve, invoke, builtin, ha] using this
    · simp at hv
  · rename_i args ats
    split at hv
    · rename_i t ts x e1 e2
      have ha : args.map a.eval = #[a.eval x] := by
        apply Array.ext'; simp [e2]
      have ht0 : ats[0]? = some t := by rw [← Array.getElem?_toList, e1]; rfl
      have := (cclear_run (P := P) (ty := ty) hr hv (ev x) ht0).eff
      simpa [execOp, resolve, invoke, builtin, ha] using this
    · simp at hv
  · simp at hv

/-- A step that is drawn. -/
theorem aop_run (hr : HR base σ h w) {tm : List Value} {a : Act} (ht : TRel σ tm a.tmps) (o : Oper) {alts : List (Value × Hp)} (hv : aop tm o.op h = some alts) :
    ∃ v h' v' w', (v, h') ∈ alts ∧ (execOp a.eval o).run P w = .ok (.value v') w' ∧ VRel σ v v' ∧ HR base σ h' w' ∧ Ext base σ h w σ h' w' := by
  obtain ⟨dst, op, ty, pos, after, guard⟩ := o
  unfold aop at hv
  split at hv
  · rename_i it hop
    simp only at hop
    subst hop
    obtain ⟨v, h', v', w', h1, h2, h3⟩ := cnext_run (P := P) (ty := ty) hr hv (ev_rel ht it)
    exact ⟨v, h', v', w', h1, by simp [execOp, h2], h3⟩
  · simp at hv
end
end Go.Cn
