/- Contracts: see, lay. -/
import Derived.Test.YtfkhjbfddeahaaaDiskD
set_option linter.unusedVariables false
namespace Go.Proofs.Ytfkhjbfddeahaaa.kc
open Go Go.Cn Go.Proofs Go.Proofs.Ytfkhjbfddeahaaa.vc

/-- The disk behind a call. -/
def Nx (h : Hp) (d g0 : Nat) (gs gd gw ga : Option Nat) (R : Nat → Prop) (D' : Dk) (h' : Hp) : Prop :=
  ∃ gs' gd' gw' ga' R' s' dd' w' a', DX h' d g0 gs' gd' gw' ga' R' D' s' dd' w' a' ∧ Nw h gs' gs ∧ Nw h gd' gd ∧ Nw h gw' gw ∧ Nw h ga' ga ∧ (∀ y, R' y → R y ∨ h.next ≤ y) ∧ Keep (own g0 gs gd gw ga) h h'

theorem Nw.trans {h h1 : Hp} (hn : h.next ≤ h1.next) {g g1 g2 : Option Nat} (a : Nw h g1 g) (b : Nw h1 g2 g1) : Nw h g2 g := by
  rcases b with rfl | rfl | ⟨y, rfl, hy⟩
  · exact a
  · exact .inr (.inl rfl)
  · exact .inr (.inr ⟨y, rfl, by omega⟩)

section
variable {h : Hp} {d g0 : Nat} {gs gd gw ga : Option Nat} {R : Nat → Prop} {D : Dk} {s dd w a : Sv}

theorem DX.nx (x : DX h d g0 gs gd gw ga R D s dd w a) : Nx h d g0 gs gd gw ga R D h := ⟨gs, gd, gw, ga, R, s, dd, w, a, x, Nw.same, Nw.same, Nw.same, Nw.same, fun _ h => .inl h, Keep.refl _ _⟩

/-- A footprint behind a call lies in the one ahead of it, or is new. -/
theorem own_nw {h : Hp} {g0 : Nat} {gs gd gw ga gs' gd' gw' ga' : Option Nat} (n1 : Nw h gs' gs) (n2 : Nw h gd' gd) (n3 : Nw h gw' gw) (n4 : Nw h ga' ga) {y : Nat} (hy : own g0 gs' gd' gw' ga' y) : own g0 gs gd gw ga y ∨ h.next ≤ y := by
  have key : ∀ {g' g : Option Nat}, Nw h g' g → g' = some y → g = some y ∨ h.next ≤ y := by
    intro g' g n e
    rcases n with rfl | rfl | ⟨z, rfl, hz⟩
    · exact .inl e
    · simp at e
    · simp at e; subst e; exact .inr hz
  rcases hy with hy | hy | hy | hy | hy
  · exact .inl (.inl hy)
  · rcases key n1 hy with h1 | h1; exact .inl (.inr (.inl h1)); exact .inr h1
  · rcases key n2 hy with h1 | h1; exact .inl (.inr (.inr (.inl h1))); exact .inr h1
  · rcases key n3 hy with h1 | h1; exact .inl (.inr (.inr (.inr (.inl h1)))); exact .inr h1
  · rcases key n4 hy with h1 | h1; exact .inl (.inr (.inr (.inr (.inr h1)))); exact .inr h1

theorem Nx.pre (wf : Wf h) {h1 h2 : Hp} {D2 : Dk} {gs1 gd1 gw1 ga1 : Option Nat} {R1 : Nat → Prop} (n1 : Nw h gs1 gs) (n2 : Nw h gd1 gd) (n3 : Nw h gw1 gw) (n4 : Nw h ga1 ga) (r : ∀ y, R1 y → R y ∨ h.next ≤ y) (k : Keep (own g0 gs gd gw ga) h h1)
    (b : Nx h1 d g0 gs1 gd1 gw1 ga1 R1 D2 h2) : Nx h d g0 gs gd gw ga R D2 h2 := by
  obtain ⟨gs2, gd2, gw2, ga2, R2, s2, dd2, w2, a2, x2, m1, m2, m3, m4, r2, k2⟩ := b
  refine ⟨gs2, gd2, gw2, ga2, R2, s2, dd2, w2, a2, x2, n1.trans k.next m1, n2.trans k.next m2, n3.trans k.next m3, n4.trans k.next m4, fun y hy => ?_, k.trans wf k2 fun y hy ho => ?_⟩
  · rcases r2 y hy with h3 | h3
    · exact r y h3
    · right; have := k.next; omega
  · rcases own_nw n1 n2 n3 n4 ho with h3 | h3
    · exact h3
    · omega

theorem Nx.trans (wf : Wf h) {h1 h2 : Hp} {D1 D2 : Dk} (a : Nx h d g0 gs gd gw ga R D1 h1) (b : ∀ {gs' gd' gw' ga' R' s' dd' w' a'}, DX h1 d g0 gs' gd' gw' ga' R' D1 s' dd' w' a' → Nx h1 d g0 gs' gd' gw' ga' R' D2 h2) : Nx h d g0 gs gd gw ga R D2 h2 := by
  obtain ⟨gs1, gd1, gw1, ga1, R1, s1, dd1, w1, a1, x1, n1, n2, n3, n4, r, k⟩ := a
  obtain ⟨gs2, gd2, gw2, ga2, R2, s2, dd2, w2, a2, x2, m1, m2, m3, m4, r2, k2⟩ := b x1
  refine ⟨gs2, gd2, gw2, ga2, R2, s2, dd2, w2, a2, x2, n1.trans k.next m1, n2.trans k.next m2, n3.trans k.next m3, n4.trans k.next m4, fun y hy => ?_, k.trans wf k2 fun y hy ho => ?_⟩
  · rcases r2 y hy with h3 | h3
    · exact r y h3
    · right; have := k.next; omega
  · rcases own_nw n1 n2 n3 n4 ho with h3 | h3
    · exact h3
    · omega

/-- Behind something that keeps all, then a change. -/
theorem Nx.after (wf : Wf h) {h1 h2 : Hp} {D2 : Dk} (k : Kept h h1) (b : Nx h1 d g0 gs gd gw ga R D2 h2) : Nx h d g0 gs gd gw ga R D2 h2 := by
  obtain ⟨gs2, gd2, gw2, ga2, R2, s2, dd2, w2, a2, x2, m1, m2, m3, m4, r2, k2⟩ := b
  have up : ∀ {g' g : Option Nat}, Nw h1 g' g → Nw h g' g := fun n => Nw.trans k.next Nw.same n
  refine ⟨gs2, gd2, gw2, ga2, R2, s2, dd2, w2, a2, x2, up m1, up m2, up m3, up m4, fun y hy => ?_, (k.mono wf fun _ _ hf => hf.elim).trans wf k2 fun _ _ ho => ho⟩
  rcases r2 y hy with h3 | h3
  · exact .inl h3
  · right; have := k.next; omega

/-- The record alone was written. -/
theorem DX.nx_base (x : DX h d g0 gs gd gw ga R D s dd w a) {h' : Hp} (k : Keep (· = g0) h h') (wf : Wf h) {D' : Dk} (hb : Blk h' d (some g0) (dcells D' s dd w a)) (e1 : D'.seen = D.seen) (e2 : D'.dur = D.dur) (e3 : D'.waits = D.waits) (e4 : D'.arms = D.arms) :
    Nx h d g0 gs gd gw ga R D' h' :=
  ⟨gs, gd, gw, ga, R, s, dd, w, a, x.base k hb e1 e2 e3 e4, Nw.same, Nw.same, Nw.same, Nw.same, fun _ h => .inl h, k.mono wf fun y _ hy => .inl hy⟩

/-- see. -/
theorem c68 (x : DX h d g0 gs gd gw ga R D s dd w a) (hl : D.dur.length ≤ 8589934592) : C 68 [.pointer (some ⟨d, 0, none⟩)] h fun v h' => v = .tuple #[] ∧ Nx h d g0 gs gd gw ga R { D with seen := D.dur } h' := by
  refine SCalls_of_vw fol (pf := pf) (shp := shp68) (f := 68) (fn := Try.f68) (by kernel_rfl) (c := Try.f68.body.getD .skip) (by kernel_rfl) (by kernel_rfl) fun wf => ?_
  rw [vc68]
  have b := x.blk
  (repeat' first | refine ⟨rfl, ?_⟩ | refine ⟨fun _ => rfl, ?_⟩ | refine ⟨⟨by assumption, by assumption⟩, ?_⟩ | refine ⟨fun _ => ⟨by assumption, by assumption⟩, ?_⟩ | refine ⟨_, ⟨rfl, (Blk.cells (by assumption) (Nat.le_of_ble_eq_true rfl)).trans rfl⟩, ?_⟩ | refine ⟨_, fun _ => ⟨rfl, (Blk.cells (by assumption) (Nat.le_of_ble_eq_true rfl)).trans rfl⟩, ?_⟩ | refine ⟨_, ⟨rfl, by assumption⟩, ?_⟩ | refine ⟨_, fun _ => ⟨rfl, by assumption⟩, ?_⟩ | refine ⟨_, _, ⟨rfl, (Blk.cells (by assumption) (Nat.le_of_ble_eq_true rfl)).trans rfl⟩, ?_⟩ | refine ⟨_, _, fun _ => ⟨rfl, (Blk.cells (by assumption) (Nat.le_of_ble_eq_true rfl)).trans rfl⟩, ?_⟩ | refine ⟨_, _, ⟨rfl, by assumption⟩, ?_⟩ | refine ⟨_, _, fun _ => ⟨rfl, by assumption⟩, ?_⟩ | refine ⟨_, _, _, ⟨rfl, (Blk.cells (by assumption) (Nat.le_of_ble_eq_true rfl)).trans rfl⟩, ?_⟩ | refine ⟨_, _, _, fun _ => ⟨rfl, (Blk.cells (by assumption) (Nat.le_of_ble_eq_true rfl)).trans rfl⟩, ?_⟩ | refine ⟨_, _, _, ⟨rfl, by assumption⟩, ?_⟩ | refine ⟨_, _, _, fun _ => ⟨rfl, by assumption⟩, ?_⟩ | refine ⟨_, _, _, _, ⟨rfl, (Blk.cells (by assumption) (Nat.le_of_ble_eq_true rfl)).trans rfl⟩, ?_⟩ | refine ⟨_, _, _, _, fun _ => ⟨rfl, (Blk.cells (by assumption) (Nat.le_of_ble_eq_true rfl)).trans rfl⟩, ?_⟩ | refine ⟨_, _, _, _, ⟨rfl, by assumption⟩, ?_⟩ | refine ⟨_, _, _, _, fun _ => ⟨rfl, by assumption⟩, ?_⟩ | refine ⟨_, _, _, _, _, ⟨rfl, (Blk.cells (by assumption) (Nat.le_of_ble_eq_true rfl)).trans rfl⟩, ?_⟩ | refine ⟨_, _, _, _, _, fun _ => ⟨rfl, (Blk.cells (by assumption) (Nat.le_of_ble_eq_true rfl)).trans rfl⟩, ?_⟩ | refine ⟨_, _, _, _, _, ⟨rfl, by assumption⟩, ?_⟩ | refine ⟨_, _, _, _, _, fun _ => ⟨rfl, by assumption⟩, ?_⟩ | refine ⟨_, _, _, _, _, _, ⟨rfl, (Blk.cells (by assumption) (Nat.le_of_ble_eq_true rfl)).trans rfl⟩, ?_⟩ | refine ⟨_, _, _, _, _, _, fun _ => ⟨rfl, (Blk.cells (by assumption) (Nat.le_of_ble_eq_true rfl)).trans rfl⟩, ?_⟩ | refine ⟨_, _, _, _, _, _, ⟨rfl, by assumption⟩, ?_⟩ | refine ⟨_, _, _, _, _, _, fun _ => ⟨rfl, by assumption⟩, ?_⟩ | refine ⟨_, _, _, _, _, _, _, ⟨rfl, (Blk.cells (by assumption) (Nat.le_of_ble_eq_true rfl)).trans rfl⟩, ?_⟩ | refine ⟨_, _, _, _, _, _, _, fun _ => ⟨rfl, (Blk.cells (by assumption) (Nat.le_of_ble_eq_true rfl)).trans rfl⟩, ?_⟩ | refine ⟨_, _, _, _, _, _, _, ⟨rfl, by assumption⟩, ?_⟩ | refine ⟨_, _, _, _, _, _, _, fun _ => ⟨rfl, by assumption⟩, ?_⟩ | refine ⟨_, _, _, _, _, _, _, _, ⟨rfl, (Blk.cells (by assumption) (Nat.le_of_ble_eq_true rfl)).trans rfl⟩, ?_⟩ | refine ⟨_, _, _, _, _, _, _, _, fun _ => ⟨rfl, (Blk.cells (by assumption) (Nat.le_of_ble_eq_true rfl)).trans rfl⟩, ?_⟩ | refine ⟨_, _, _, _, _, _, _, _, ⟨rfl, by assumption⟩, ?_⟩ | refine ⟨_, _, _, _, _, _, _, _, fun _ => ⟨rfl, by assumption⟩, ?_⟩ | fail)
  refine (c59 x.dur.slT (by rw [← x.dur.2]; exact hl)).wf fun v h1 wf1 _ ⟨s', g', e, o, n, k⟩ => ⟨s'.a, s'.l, s'.c, e, ?_⟩
  have x1 := x.kept k
  have b1 := x1.blk
  refine ⟨⟨rfl, b1.one rfl⟩, rfl, rfl, rfl, ?_⟩
  obtain ⟨h2, e2, b2, k2, n2, w2⟩ := b1.store (o := 0) (vs := [.int .i64 D.bytes, s'.v]) (Nat.le_of_ble_eq_true rfl) rfl
  have nw0 : Nw h g' gs := by rcases n with n | n; exact .inr (.inl n); exact .inr (.inr n)
  refine ⟨h2, e2, rfl, g', gd, gw, ga, R, s', dd, w, a, ?_, nw0, Nw.same, Nw.same, Nw.same, fun _ h => .inl h, (k.mono wf (S' := own g0 gs gd gw ga) fun _ _ hf => hf.elim).trans wf k2 fun y _ hy => .inl hy⟩
  exact x.setSeen wf (k.mono wf fun _ _ hf => hf.elim) o nw0 k2 b2
end

/-! ### lay -/
def bcells (B : List UInt8) : List Value := B.map fun b => .int .u8 b.toNat
theorem byteCells_eq (s : ByteArray) : byteCells s = bcells s.data.toList := rfl
theorem bytesOf_bcells (B : List UInt8) : bytesOf (bcells B) = some B := by
  induction B with
  | nil => rfl
  | cons b B ih =>
    simp only [bcells, List.map_cons, bytesOf] at ih ⊢
    rw [ih]
    simp
theorem bcells_cell (B : List UInt8) : (bcells B).all isCell = true := by
  simp only [bcells, List.all_eq_true, List.mem_map]
  rintro v ⟨b, _, rfl⟩; rfl

def ofBytes (B : List UInt8) : ByteArray := ⟨B.toArray⟩
theorem ofBytes_list (s : ByteArray) : ofBytes s.data.toList = s := by simp [ofBytes]

def cut8 (B : List UInt8) (o : Nat) (V : List UInt8) : List UInt8 := B.take o ++ V ++ B.drop (o + V.length)
def bit (f : Int) (i : Nat) : Bool := neI (andW .u8 f (shlW .u8 1 (i : Int))) 0
def lay1 (k : Nat) (f : Int) (data : List UInt8) (i : Nat) (B : List UInt8) : List UInt8 := if bit f i then cut8 B (i * k) ((data.drop (i * k)).take k) else B
def layN (k : Nat) (f : Int) (data : List UInt8) : Nat → List UInt8 → List UInt8
  | 0, B => B
  | n + 1, B => lay1 k f data n (layN k f data n B)
def laySec (bytes : Int) (f : Int) (data old : ByteArray) : ByteArray := ofBytes (layN (bytes.toNat / 8) f data.data.toList 8 old.data.toList)
def layL (bytes : Int) (L : List ByteArray) (no : Int) (data : ByteArray) (f : Int) : List ByteArray :=
  if f = 0 then L else
    let L1 := stretchL bytes L (no + 1)
    L1.set no.toNat (laySec bytes f data ((L1[no.toNat]?).getD .empty))

theorem cut8_len {B : List UInt8} {o : Nat} {V : List UInt8} (h : o + V.length ≤ B.length) : (cut8 B o V).length = B.length := by
  simp only [cut8, List.length_append, List.length_take, List.length_drop]; omega
theorem lay1_len {k i : Nat} {f : Int} {data B : List UInt8} (h : i * k + k ≤ B.length) : (lay1 k f data i B).length = B.length := by
  unfold lay1
  split
  · exact cut8_len (by rw [List.length_take, List.length_drop]; omega)
  · rfl
theorem layN_len {k : Nat} {f : Int} {data B : List UInt8} : ∀ {n : Nat}, n * k ≤ B.length → (layN k f data n B).length = B.length
  | 0, _ => rfl
  | n + 1, h => by
    rw [Nat.succ_mul] at h
    have := layN_len (f := f) (data := data) (n := n) (k := k) (B := B) (by omega)
    rw [layN, lay1_len (by omega), this]

theorem bcells_splice (B : List UInt8) (o : Nat) (V : List UInt8) : splice (bcells B) o (bcells V) = bcells (cut8 B o V) := by
  simp [splice, bcells, cut8]
theorem size5 : size? Try.prog 5 = some 1 := by kernel_rfl

theorem copy_str {h : Hp} {b g o n : Nat} {sp : Option Nat} {CS : List Value} (hb : Blk h b (some g) CS) {t : ByteArray} (ht : t.size = n) (hn : 0 < n) (ho : o + n ≤ CS.length) {c : Nat} :
    ∃ h', ccopy Try.prog 95 (.slice (some ⟨b, o, sp⟩) n c) (.string t) h = some (.int .i64 n, h') ∧ Blk h' b (some g) (splice CS o (byteCells t)) ∧ Keep (· = g) h h' ∧ h'.next = h.next ∧ (Wf h → Wf h') := by
  have hlen : (byteCells t).length = n := by
    rw [byteCells_eq]; simp only [bcells, List.length_map]
    have : t.data.toList.length = t.size := Array.length_toList
    omega
  obtain ⟨h', h1, h2⟩ := hb.store (o := o) (vs := byteCells t) (by omega) (bcells_cell _)
  refine ⟨h', ?_, h2⟩
  unfold ccopy
  rw [Try.underlying95]
  dsimp only
  rw [size5]
  simp only [dataOf, if_true, ht, Nat.min_self, Nat.mul_one]
  rw [if_neg (by omega)]
  have e : (t.data.toList.map fun b => Value.int .u8 b.toNat) = byteCells t := rfl
  rw [e, List.take_of_length_le (by omega), h1]
  rfl

theorem sub_bytes (s : ByteArray) (l h : Nat) (hl : l ≤ h) (hh : h ≤ s.size) : (strSub s (l : Int) (h : Int)).data.toList = (s.data.toList.drop l).take (h - l) ∧ (strSub s (l : Int) (h : Int)).size = h - l := by
  have e : (strSub s (l : Int) (h : Int)).data = s.data.extract l h := by
    unfold strSub; rw [Int.toNat_natCast, Int.toNat_natCast, ByteArray.data_extract]
  constructor
  · rw [e]; simp [Array.toList_extract]
  · show (strSub s (l : Int) (h : Int)).data.size = _
    rw [e, Array.size_extract]
    have : s.data.size = s.size := rfl
    omega
theorem wrap_small {x : Int} (h0 : -9223372036854775808 ≤ x) (h1 : x < 9223372036854775808) : IntKind.i64.wrap x = x := by
  unfold IntKind.wrap
  simp [IntKind.bits, IntKind.signed]
  omega
theorem mulW_small {a b : Int} (h0 : -9223372036854775808 ≤ a * b) (h1 : a * b < 9223372036854775808) : mulW .i64 a b = a * b := by
  unfold mulW; exact wrap_small h0 h1

theorem quo8 {k : Nat} (hk : k ≤ 131072) : quoW .i64 ((8 * k : Nat) : Int) 8 = (k : Int) := by
  unfold quoW IntKind.wrap
  have e : (((8 * k : Nat) : Int)).tdiv 8 = (k : Int) := by
    rw [Int.tdiv_eq_ediv_of_nonneg (by omega)]; omega
  rw [e]
  simp [IntKind.bits, IntKind.signed]
  omega

theorem flatS_set (L : List ByteArray) (i : Nat) (s : ByteArray) : splice (L.flatMap encS) i [.string s] = (L.set i s).flatMap encS ∨ L.length ≤ i := by
  by_cases hi : i < L.length
  · left
    have e : ∀ (M : List ByteArray), M.flatMap encS = M.map Value.string := fun M => by
      induction M with
      | nil => rfl
      | cons x M ih => rw [List.flatMap_cons, ih]; rfl
    rw [e, e, splice_one (by simpa using hi), List.map_set]
  · right; omega

/-- plates.lay. -/
theorem c94 {h : Hp} {p o g0 k : Nat} {g : Option Nat} {CS : List Value} {no f : Int} {data : ByteArray} {s : Sv} {L : List ByteArray} (hb : Blk h p (some g0) CS) (h0 : CS[o]? = some (.int .i64 ((8 * k : Nat) : Int))) (h1 : CS[o + 1]? = some s.v)
    (ow : OwT encS 1 h g s L) (ap : Ap (some g0) g) (hk : 0 < k ∧ k ≤ 131072) (hno : 0 ≤ no ∧ no < 1048576) (hL : L.length ≤ 1048576) (hsz : ∀ x ∈ L, x.size = 8 * k) (hd : data.size = 8 * k) :
    C 94 [.pointer (some ⟨p, o, none⟩), .int .i64 no, .string data, .int .u8 f] h fun v h' => v = .tuple #[] ∧ ∃ g' s', Blk h' p (some g0) (CS.set (o + 1) s'.v) ∧ OwT encS 1 h' g' s' (layL ((8 * k : Nat) : Int) L no data f) ∧ Nw h g' g ∧ Keep (fun y => y = g0 ∨ g = some y) h h' := by
  refine SCalls_of_vw fol (pf := pf) (shp := shp94) (f := 94) (fn := Try.f94) (by kernel_rfl) (c := Try.f94.body.getD .skip) (by kernel_rfl) (by kernel_rfl) fun wf => ?_
  rw [vc94]
  have ho : o + 1 < CS.length := (List.getElem?_eq_some_iff.mp h1).1
  have hg0 := hb.glt wf
  split
  · rename_i hf
    have hf : f = 0 := eqI_iff.mp hf
    refine ⟨rfl, g, s, ?_, by rw [layL, if_pos hf]; exact ow, Nw.same, Keep.refl _ _⟩
    obtain ⟨_, hv⟩ := List.getElem?_eq_some_iff.mp h1
    rw [← hv, List.set_getElem_self]; exact hb
  · rename_i hf
    have hf : ¬ f = 0 := fun he => hf (eqI_iff.mpr he)
    rw [addW_small (by omega) (by omega)]
    refine (c91 hb h0 h1 ow ap (by omega) (by omega) hL).wf fun v h2 wf2 n02 ⟨e, g1, s1, b1, o1, nw1, k1⟩ => ⟨e, rfl, rfl, s1.a, s1.l, s1.c, ⟨rfl, b1.one (get_set_self _ ho)⟩, ?_⟩
    generalize hL1 : stretchL ((8 * k : Nat) : Int) L (no + 1) = L1 at o1
    have hlen1 : no.toNat < L1.length := by rw [← hL1, stretchL, List.length_append, List.length_replicate]; omega
    have hsz1 : ∀ x ∈ L1, x.size = 8 * k := by
      intro x hx
      rw [← hL1, stretchL] at hx
      rcases List.mem_append.mp hx with hx | hx
      · exact hsz x hx
      · rw [(List.mem_replicate.mp hx).2, zeros_size]; exact Int.toNat_natCast _
    have hold : L1[no.toNat]? = some (L1[no.toNat]) := List.getElem?_eq_getElem hlen1
    generalize hoe : L1[no.toNat] = old at hold
    have holdsz : old.size = 8 * k := hsz1 old (by rw [← hoe]; exact List.getElem_mem hlen1)
    have hin : inR no s1.l := by have := o1.2; simp only [inR]; omega
    obtain ⟨i1, i2⟩ := o1.slT.get encS_w hold (j := 0) (m := 1) (by omega)
    have hpl : ∀ (a : Option Addr), plusI (off a) no 1 = off a + no.toNat * 1 + 0 := fun _ => rfl
    refine ⟨⟨i1, hin⟩, old, ⟨rfl, by rw [hpl]; exact i2⟩, ?_⟩
    intro h3 e3
    obtain ⟨b3, k3, n3, wf3⟩ := new_blk wf2 e3
    rw [byteCells_eq] at b3
    have r0 : ∀ {hh : Hp}, Keep (· = h2.next) h3 hh → Blk hh p (some g0) (CS.set (o + 1) s1.v) := fun kk => kk.blk (Keep.blk k3 b1 fun _ _ hf => hf) fun y hy he => by simp at hy; have := k1.next; omega
    have b3p := r0 (Keep.refl _ _)
    refine ⟨rfl, rfl, ((8 * k : Nat) : Int), ⟨rfl, b3p.one (by rw [get_set_ne _ (by omega)]; exact h0)⟩, by simp [nonzero], ?_⟩
    rw [quo8 hk.2]
    have hbk : (8 * k) / 8 = k := by omega
    have hol : old.data.toList.length = 8 * k := by
      have : old.data.toList.length = old.size := Array.length_toList
      omega
    refine ⟨fun vals m hh => ∃ i : Nat, [.int .i64 i] = vals ∧ i ≤ 8 ∧ m = 8 - i ∧ Wf hh ∧ Keep (· = h2.next) h3 hh ∧ Blk hh h2.next (some h2.next) (bcells (layN k f data.data.toList i old.data.toList)), ⟨8, 0, rfl, by omega, rfl, wf3, Keep.refl _ _, b3⟩, ?_⟩
    rintro n2 m hh ⟨i, e, hi, rfl, wf4, k4, b4⟩
    simp at e; subst e
    split
    · rename_i hlt
      have hlt : i < 8 := by rw [ltI_iff] at hlt; omega
      have hik : i * k + k ≤ 8 * k := by rw [← Nat.succ_mul]; exact Nat.mul_le_mul_right k hlt
      have hll : (layN k f data.data.toList i old.data.toList).length = 8 * k := by rw [layN_len (by rw [hol]; exact Nat.mul_le_mul_right k hi), hol]
      have e1 : addW .i64 (i : Int) 1 = ((i + 1 : Nat) : Int) := by rw [addW_small (by omega) (by omega)]; rfl
      have e2 : mulW .i64 (i : Int) (k : Int) = ((i * k : Nat) : Int) := by
        have : (i : Int) * (k : Int) = ((i * k : Nat) : Int) := by simp
        rw [mulW_small (by omega) (by omega), this]
      have e3 : mulW .i64 ((i + 1 : Nat) : Int) (k : Int) = (((i + 1) * k : Nat) : Int) := by
        have h4 : ((i + 1 : Nat) : Int) * (k : Int) = (((i + 1) * k : Nat) : Int) := by simp
        have h5 : (i + 1) * k = i * k + k := Nat.succ_mul i k
        rw [mulW_small (by omega) (by omega), h4]
      refine ⟨by simp [nonneg], ?_⟩
      have hstep : layN k f data.data.toList (i + 1) old.data.toList = lay1 k f data.data.toList i (layN k f data.data.toList i old.data.toList) := rfl
      split
      · rename_i hbit
        rw [e1, e2, e3]
        have h5 : (i + 1) * k = i * k + k := Nat.succ_mul i k
        obtain ⟨t1, t2⟩ := sub_bytes data (i * k) ((i + 1) * k) (by omega) (by omega)
        have hdn : diffN (((i + 1) * k : Nat) : Int) ((i * k : Nat) : Int) = k := by simp only [diffN, Int.toNat_natCast]; omega
        rw [hdn]
        have hcut : cutE ((i * k : Nat) : Int) 1 (some ⟨h2.next, 0, some 1⟩) = some ⟨h2.next, i * k, none⟩ := by simp [cutE]
        rw [hcut]
        have hkk : (strSub data ((i * k : Nat) : Int) (((i + 1) * k : Nat) : Int)).size = k := by rw [t2]; omega
        obtain ⟨h6, e6, b6, k6, n6, w6⟩ := copy_str (sp := none) (c := k) b4 hkk hk.1 (o := i * k) (by simp only [bcells, List.length_map]; omega)
        have hsize : natI (lenS old) = ((8 * k : Nat) : Int) := by simp only [natI, lenS, holdsz]
        refine ⟨by simp only [cutOk]; rw [hsize]; omega, by simp only [subOk]; rw [hd]; omega, _, h6, e6, 8 - (i + 1), by simp only [lessN]; omega, i + 1, rfl, by omega, rfl, w6 wf4, k4.trans wf3 k6 (fun _ _ hg => hg), ?_⟩
        rw [hstep, lay1, if_pos (show bit f i = true from hbit)]
        rw [byteCells_eq, t1, bcells_splice] at b6
        have : (i + 1) * k - i * k = k := by omega
        rw [this] at b6
        exact b6
      · rename_i hbit
        rw [e1]
        refine ⟨8 - (i + 1), by simp only [lessN]; omega, i + 1, rfl, by omega, rfl, wf4, k4, ?_⟩
        rw [hstep, lay1, if_neg (show ¬ bit f i = true from hbit)]
        exact b4
    · rename_i hlt
      have hi8 : i = 8 := by rw [ltI_iff] at hlt; omega
      subst hi8
      have b5 := r0 k4
      have hll : (layN k f data.data.toList 8 old.data.toList).length = 8 * k := by rw [layN_len (by rw [hol]; exact Nat.le_refl _), hol]
      have g1lt : ∀ y, g1 = some y → y < h2.next := o1.1.glt wf2
      have o5 : OwT encS 1 hh g1 s1 L1 := (o1.keep k3 fun _ _ hf => hf).keep k4 fun y hy he => by have := g1lt y hy; omega
      refine ⟨rfl, rfl, s1.a, s1.l, s1.c, ⟨rfl, b5.one (get_set_self _ ho)⟩, ofBytes (layN k f data.data.toList 8 old.data.toList), ?_, ⟨i1, hin⟩, rfl, ?_⟩
      · refine .inr ⟨rfl, _, b4.cells (o := 0) (n := lenS old) (by simp only [bcells, List.length_map, lenS]; omega), ?_⟩
        rw [List.drop_zero, List.take_of_length_le (by simp only [bcells, List.length_map, lenS]; omega), bytesOf_bcells]
        simp [ofBytes]
      · obtain ⟨_, h7, e7, o7, k7, n7, w7⟩ := o5.1.store (i := no.toNat) (vs := [.string (ofBytes (layN k f data.data.toList 8 old.data.toList))]) (by have := o1.2; simp; omega) (by have := o1.2; omega) rfl
        have hofs : plusI (off s1.a) no 1 = off s1.a + no.toNat := by simp [plusI]
        have apg1 : Ap (some g0) g1 := nw1.ap (by simpa using hg0) ap
        refine ⟨h7, by rw [hofs]; exact e7, rfl, g1, s1, k7.blk b5 (fun y hy he => apg1 y hy he), ⟨?_, ?_⟩, nw1, ?_⟩
        · rcases flatS_set L1 no.toNat (ofBytes (layN k f data.data.toList 8 old.data.toList)) with h8 | h8
          · rw [h8] at o7
            simp only [layL, hf, if_false, hL1, hold, Option.getD_some, laySec, Int.toNat_natCast, hbk]
            exact o7
          · omega
        · simp only [layL, hf, if_false, hL1]; rw [List.length_set]; exact o1.2
        · refine (k1.trans wf ((k3.mono wf2 (S' := (· = h2.next)) fun _ _ hf => hf.elim).trans wf2 k4 fun _ _ hg => hg) fun y hy he => by omega).trans wf k7 fun y hy he => ?_
          rcases nw1 with rfl | rfl | ⟨z, rfl, hz⟩
          · exact .inr he
          · simp at he
          · simp at he; omega
end Go.Proofs.Ytfkhjbfddeahaaa.kc
