/- Contracts of the disk's small functions: what is there, stretch, lay, clones. -/
import Derived.Test.YtfkhjbfddeahaaaDiskC
set_option linter.unusedVariables false
namespace Go.Proofs.Ytfkhjbfddeahaaa.kc
open Go Go.Cn Go.Proofs Go.Proofs.Ytfkhjbfddeahaaa.vc

theorem app40 : AppT Try.prog 40 40 9 1 16 := AppT.of _ (by kernel_rfl)
theorem app95 : AppT Try.prog 95 95 5 1 1 := AppT.of _ (by kernel_rfl)
theorem app98 : AppT Try.prog 98 98 103 4 32 := AppT.of _ (by kernel_rfl)
theorem app99 : AppT Try.prog 99 99 108 5 56 := AppT.of _ (by kernel_rfl)
theorem app36 : AppT Try.prog 36 36 57 1 1 := AppT.of _ (by kernel_rfl)
theorem app51 : AppT Try.prog 51 51 60 3 16 := AppT.of _ (by kernel_rfl)
theorem zero5 : zero? Try.prog 5 = some (.int .u8 0) := by kernel_rfl

theorem room {n b : Nat} (hn : n ≤ 8589934592) (hb : b ≤ 4096) : roomy n b = true := roomy_of (by
  have h1 : (2 * n + 1024) * b ≤ (2 * 8589934592 + 1024) * b := Nat.mul_le_mul_right b (by omega)
  have h2 : (2 * 8589934592 + 1024) * b ≤ (2 * 8589934592 + 1024) * 4096 := Nat.mul_le_mul_left _ hb
  omega)

def zeros (n : Nat) : ByteArray := ⟨(List.replicate n 0).toArray⟩
theorem zeros_size (n : Nat) : (zeros n).size = n := by simp [zeros, ByteArray.size]

theorem zeroCells_one (v : Value) (n : Nat) : zeroCells [v] n = List.replicate n v := by
  unfold zeroCells
  induction n with
  | zero => rfl
  | succ n ih => rw [List.replicate_succ, List.flatten_cons, ih, List.replicate_succ]; rfl

theorem bytesOf_zero (n : Nat) : bytesOf (List.replicate n (.int .u8 0)) = some (List.replicate n 0) := by
  induction n with
  | zero => rfl
  | succ n ih => rw [List.replicate_succ]; simp only [bytesOf]; rw [ih]; rfl

/-- A new text of bytes 0. -/
theorem make_zeros {h : Hp} (wf : Wf h) {n : Int} {m : Nat} (hn : n = m) (hm : m ≤ 140737488355328) :
    ∃ h', cmakeSlice Try.prog 95 (.int .i64 n) (.int .i64 n) h = some (.slice (some ⟨h.next, 0, none⟩) m m, h') ∧ Blk h' h.next (some h.next) (List.replicate m (.int .u8 0)) ∧ Kept h h' ∧ h'.next = h.next + 1 ∧ Wf h' := by
  obtain ⟨h', h1, h2⟩ := make_slice wf app95 zero5 (by rfl) hn (by omega)
  have h2 : h' = h.alloc (zeroCells [.int .u8 0] m) 5 := h2
  rw [zeroCells_one] at h2
  obtain ⟨b, k, n, w⟩ := new_blk wf h2
  exact ⟨h', h1, b, k, n, w⟩

theorem read_zeros {h : Hp} {b : Nat} {g : Option Nat} {m : Nat} (hb : Blk h b g (List.replicate m (.int .u8 0))) (sp : Option Nat) : readStr (some ⟨b, 0, sp⟩) m h (zeros m) := by
  refine .inr ⟨rfl, _, hb.cells (o := 0) (n := m) (by simp), ?_⟩
  rw [List.drop_zero, List.take_of_length_le (by simp)]
  rw [bytesOf_zero]; simp [zeros]

theorem flatS (L : List ByteArray) (s : ByteArray) : (L ++ [s]).flatMap encS = L.flatMap encS ++ [.string s] := by simp [encS]

theorem get_set_self {CS : List Value} {o : Nat} (v : Value) (h : o < CS.length) : (CS.set o v)[o]? = some v := by simp [h]
theorem get_set_ne {CS : List Value} {o j : Nat} (v : Value) (h : j ≠ o) : (CS.set o v)[j]? = CS[j]? := by rw [List.getElem?_set_ne (by omega)]

def stretchL (bytes : Int) (L : List ByteArray) (n : Int) : List ByteArray := L ++ List.replicate (n.toNat - L.length) (zeros bytes.toNat)

/-- plates.stretch. -/
theorem c91 {h : Hp} {p o g0 : Nat} {g : Option Nat} {CS : List Value} {bytes n : Int} {s : Sv} {L : List ByteArray} (hb : Blk h p (some g0) CS) (h0 : CS[o]? = some (.int .i64 bytes)) (h1 : CS[o + 1]? = some s.v)
    (ow : OwT encS 1 h g s L) (ap : Ap (some g0) g) (hby : 0 ≤ bytes ∧ bytes ≤ 1048576) (hn : n ≤ 1048576) (hL : L.length ≤ 1048576) :
    C 91 [.pointer (some ⟨p, o, none⟩), .int .i64 n] h fun v h' => v = .tuple #[] ∧ ∃ g' s', Blk h' p (some g0) (CS.set (o + 1) s'.v) ∧ OwT encS 1 h' g' s' (stretchL bytes L n) ∧ Nw h g' g ∧ Keep (fun y => y = g0 ∨ g = some y) h h' := by
  refine SCalls_of_vw fol (pf := pf) (shp := shp91) (f := 91) (fn := Try.f91) (by kernel_rfl) (c := Try.f91.body.getD .skip) (by kernel_rfl) (by kernel_rfl) fun wf => ?_
  rw [vc91]
  have ho : o + 1 < CS.length := (List.getElem?_eq_some_iff.mp h1).1
  have hg0 := hb.glt wf
  have hglt := ow.1.glt wf
  have eself : CS.set (o + 1) s.v = CS := by
    obtain ⟨_, hv⟩ := List.getElem?_eq_some_iff.mp h1
    rw [← hv]; exact List.set_getElem_self _
  refine ⟨fun vals m hh => ∃ g' s' k, vals = [] ∧ k ≤ n.toNat - L.length ∧ m = (n.toNat - L.length) - k ∧ Wf hh ∧ Blk hh p (some g0) (CS.set (o + 1) s'.v) ∧ OwT encS 1 hh g' s' (L ++ List.replicate k (zeros bytes.toNat)) ∧ Nw h g' g ∧
      Keep (fun y => y = g0 ∨ g = some y) h hh, ⟨_, g, s, 0, rfl, Nat.zero_le _, rfl, wf, by rw [eself]; exact hb, by simpa using ow, Nw.same, Keep.refl _ _⟩, ?_⟩
  rintro m hh ⟨g', s', k, _, hk, rfl, wf1, b1, o1, nw1, k1⟩
  have hlen : s'.l = L.length + k := by rw [← o1.2]; simp
  have r1 : ∀ {h2 : Hp}, Kept hh h2 → h2.cellsAt p (plusN o 1) 1 = some [s'.v] := fun k => (Keep.blk k b1 fun _ _ hf => hf).one (get_set_self _ ho)
  have r0 : ∀ {h2 : Hp}, Kept hh h2 → h2.cellsAt p o 1 = some [.int .i64 bytes] := fun k => (Keep.blk k b1 fun _ _ hf => hf).one (by rw [get_set_ne _ (by omega)]; exact h0)
  refine ⟨rfl, rfl, s'.a, s'.l, s'.c, ⟨rfl, r1 (Keep.refl _ _)⟩, ?_⟩
  split
  · rename_i hlt
    have hlt : (s'.l : Int) < n := ltI_iff.mp hlt
    obtain ⟨h2, e2, b2, k2, n2, wf2⟩ := make_zeros wf1 (n := bytes) (m := bytes.toNat) (by omega) (by omega)
    refine ⟨rfl, rfl, s'.a, s'.l, s'.c, ⟨rfl, r1 (Keep.refl _ _)⟩, rfl, rfl, bytes, ⟨rfl, r0 (Keep.refl _ _)⟩, _, _, _, h2, e2, ⟨rfl, r1 k2⟩, zeros bytes.toNat, read_zeros b2 none, ?_⟩
    intro h3 e3
    obtain ⟨b3, k3, n3, wf3⟩ := new_blk wf2 e3
    have k23 : Kept hh h3 := k2.trans wf1 k3 fun _ _ hf => hf
    refine ⟨⟨rfl, r1 k23⟩, ?_⟩
    obtain ⟨a4, c4, g4, h4, e4, o4, nw4, k4, wf4⟩ := Ow.append1 wf2 app40 (o1.1.keep k2 fun _ _ hf => hf) e3 rfl rfl (room (by omega) (by omega))
    have k24 : Keep (fun y => g' = some y) hh h4 := (k2.mono wf1 (S' := fun y => g' = some y) fun _ _ hf => hf.elim).trans wf1 k4 fun _ _ hg => hg
    have apg : Ap (some g0) g' := nw1.ap (by simpa using hg0) ap
    have b4 : Blk h4 p (some g0) (CS.set (o + 1) s'.v) := Keep.blk k24 b1 fun y hy he => apg y hy he
    obtain ⟨h5, e5, b5, k5, n5, wf5⟩ := b4.set (o := o + 1) (v := .slice a4 (s'.l + 1) c4) (by simp; omega) rfl
    have nw4' : Nw h g4 g := by
      rcases nw4 with rfl | ⟨y, rfl, hy⟩
      · exact nw1
      · exact .inr (.inr ⟨y, rfl, by have := k1.next; omega⟩)
    have apg4 : Ap (some g0) g4 := nw4'.ap (by simpa using hg0) ap
    refine ⟨a4, _, c4, h4, e4, rfl, rfl, rfl, h5, e5, _, ?_, g4, ⟨a4, s'.l + 1, c4⟩, k + 1, rfl, by omega, rfl, wf5 wf4, by rw [List.set_set] at b5; exact b5, ?_, nw4', ?_⟩
    · simp only [lessN]; omega
    · refine ⟨?_, ?_⟩
      · rw [List.replicate_succ', ← List.append_assoc, flatS]
        exact o4.keep k5 fun y hy he => apg4 g0 rfl (by rw [hy, he])
      · simp; omega
    · refine (k1.trans wf k24 fun y hy he => ?_).trans wf k5 fun y hy he => .inl he
      rcases nw1 with rfl | rfl | ⟨z, rfl, hz⟩
      · exact .inr he
      · simp at he
      · simp at he; omega
  · rename_i hlt
    have hlt : n ≤ (s'.l : Int) := by rw [ltI_iff] at hlt; simp only [natI] at hlt; omega
    refine ⟨rfl, g', s', b1, ?_, nw1, k1⟩
    have hkk : k = n.toNat - L.length := by omega
    unfold stretchL
    rw [← hkk]; exact o1
section
variable {h : Hp} {d g0 : Nat} {gs gd gw ga : Option Nat} {R : Nat → Prop} {D : Dk} {s dd w a : Sv}

theorem c58 (x : DX h d g0 gs gd gw ga R D s dd w a) (hb : 0 < D.bytes) : C 58 [.pointer (some ⟨d, 0, none⟩)] h fun v h' => v = .bool true ∧ h' = h := by
  refine SCalls_of_vw fol (pf := pf) (shp := shp58) (f := 58) (fn := Try.f58) (by kernel_rfl) (c := Try.f58.body.getD .skip) (by kernel_rfl) (by kernel_rfl) fun wf => ?_
  rw [vc58]
  have b := x.blk
  (repeat' first | refine ⟨rfl, ?_⟩ | refine ⟨fun _ => rfl, ?_⟩ | refine ⟨⟨by assumption, by assumption⟩, ?_⟩ | refine ⟨fun _ => ⟨by assumption, by assumption⟩, ?_⟩ | refine ⟨_, ⟨rfl, (Blk.cells (by assumption) (Nat.le_of_ble_eq_true rfl)).trans rfl⟩, ?_⟩ | refine ⟨_, fun _ => ⟨rfl, (Blk.cells (by assumption) (Nat.le_of_ble_eq_true rfl)).trans rfl⟩, ?_⟩ | refine ⟨_, ⟨rfl, by assumption⟩, ?_⟩ | refine ⟨_, fun _ => ⟨rfl, by assumption⟩, ?_⟩ | refine ⟨_, _, ⟨rfl, (Blk.cells (by assumption) (Nat.le_of_ble_eq_true rfl)).trans rfl⟩, ?_⟩ | refine ⟨_, _, fun _ => ⟨rfl, (Blk.cells (by assumption) (Nat.le_of_ble_eq_true rfl)).trans rfl⟩, ?_⟩ | refine ⟨_, _, ⟨rfl, by assumption⟩, ?_⟩ | refine ⟨_, _, fun _ => ⟨rfl, by assumption⟩, ?_⟩ | refine ⟨_, _, _, ⟨rfl, (Blk.cells (by assumption) (Nat.le_of_ble_eq_true rfl)).trans rfl⟩, ?_⟩ | refine ⟨_, _, _, fun _ => ⟨rfl, (Blk.cells (by assumption) (Nat.le_of_ble_eq_true rfl)).trans rfl⟩, ?_⟩ | refine ⟨_, _, _, ⟨rfl, by assumption⟩, ?_⟩ | refine ⟨_, _, _, fun _ => ⟨rfl, by assumption⟩, ?_⟩ | refine ⟨_, _, _, _, ⟨rfl, (Blk.cells (by assumption) (Nat.le_of_ble_eq_true rfl)).trans rfl⟩, ?_⟩ | refine ⟨_, _, _, _, fun _ => ⟨rfl, (Blk.cells (by assumption) (Nat.le_of_ble_eq_true rfl)).trans rfl⟩, ?_⟩ | refine ⟨_, _, _, _, ⟨rfl, by assumption⟩, ?_⟩ | refine ⟨_, _, _, _, fun _ => ⟨rfl, by assumption⟩, ?_⟩ | refine ⟨_, _, _, _, _, ⟨rfl, (Blk.cells (by assumption) (Nat.le_of_ble_eq_true rfl)).trans rfl⟩, ?_⟩ | refine ⟨_, _, _, _, _, fun _ => ⟨rfl, (Blk.cells (by assumption) (Nat.le_of_ble_eq_true rfl)).trans rfl⟩, ?_⟩ | refine ⟨_, _, _, _, _, ⟨rfl, by assumption⟩, ?_⟩ | refine ⟨_, _, _, _, _, fun _ => ⟨rfl, by assumption⟩, ?_⟩ | refine ⟨_, _, _, _, _, _, ⟨rfl, (Blk.cells (by assumption) (Nat.le_of_ble_eq_true rfl)).trans rfl⟩, ?_⟩ | refine ⟨_, _, _, _, _, _, fun _ => ⟨rfl, (Blk.cells (by assumption) (Nat.le_of_ble_eq_true rfl)).trans rfl⟩, ?_⟩ | refine ⟨_, _, _, _, _, _, ⟨rfl, by assumption⟩, ?_⟩ | refine ⟨_, _, _, _, _, _, fun _ => ⟨rfl, by assumption⟩, ?_⟩ | refine ⟨_, _, _, _, _, _, _, ⟨rfl, (Blk.cells (by assumption) (Nat.le_of_ble_eq_true rfl)).trans rfl⟩, ?_⟩ | refine ⟨_, _, _, _, _, _, _, fun _ => ⟨rfl, (Blk.cells (by assumption) (Nat.le_of_ble_eq_true rfl)).trans rfl⟩, ?_⟩ | refine ⟨_, _, _, _, _, _, _, ⟨rfl, by assumption⟩, ?_⟩ | refine ⟨_, _, _, _, _, _, _, fun _ => ⟨rfl, by assumption⟩, ?_⟩ | refine ⟨_, _, _, _, _, _, _, _, ⟨rfl, (Blk.cells (by assumption) (Nat.le_of_ble_eq_true rfl)).trans rfl⟩, ?_⟩ | refine ⟨_, _, _, _, _, _, _, _, fun _ => ⟨rfl, (Blk.cells (by assumption) (Nat.le_of_ble_eq_true rfl)).trans rfl⟩, ?_⟩ | refine ⟨_, _, _, _, _, _, _, _, ⟨rfl, by assumption⟩, ?_⟩ | refine ⟨_, _, _, _, _, _, _, _, fun _ => ⟨rfl, by assumption⟩, ?_⟩ | fail)
  refine ⟨?_, rfl⟩
  rw [gtI_iff.mpr hb]; rfl

theorem c62 (x : DX h d g0 gs gd gw ga R D s dd w a) (hb : 0 < D.bytes) : C 62 [.pointer (some ⟨d, 0, none⟩)] h fun v h' => v = .int .i64 (if D.off then 7 else 0) ∧ h' = h := by
  refine SCalls_of_vw fol (pf := pf) (shp := shp62) (f := 62) (fn := Try.f62) (by kernel_rfl) (c := Try.f62.body.getD .skip) (by kernel_rfl) (by kernel_rfl) fun wf => ?_
  rw [vc62]
  have b := x.blk
  refine (c58 x hb).mono fun v h' ⟨e, e'⟩ => ⟨_, e, ?_⟩
  subst e'
  rw [if_neg (by simp [notB])]
  (repeat' first | refine ⟨rfl, ?_⟩ | refine ⟨fun _ => rfl, ?_⟩ | refine ⟨⟨by assumption, by assumption⟩, ?_⟩ | refine ⟨fun _ => ⟨by assumption, by assumption⟩, ?_⟩ | refine ⟨_, ⟨rfl, (Blk.cells (by assumption) (Nat.le_of_ble_eq_true rfl)).trans rfl⟩, ?_⟩ | refine ⟨_, fun _ => ⟨rfl, (Blk.cells (by assumption) (Nat.le_of_ble_eq_true rfl)).trans rfl⟩, ?_⟩ | refine ⟨_, ⟨rfl, by assumption⟩, ?_⟩ | refine ⟨_, fun _ => ⟨rfl, by assumption⟩, ?_⟩ | refine ⟨_, _, ⟨rfl, (Blk.cells (by assumption) (Nat.le_of_ble_eq_true rfl)).trans rfl⟩, ?_⟩ | refine ⟨_, _, fun _ => ⟨rfl, (Blk.cells (by assumption) (Nat.le_of_ble_eq_true rfl)).trans rfl⟩, ?_⟩ | refine ⟨_, _, ⟨rfl, by assumption⟩, ?_⟩ | refine ⟨_, _, fun _ => ⟨rfl, by assumption⟩, ?_⟩ | refine ⟨_, _, _, ⟨rfl, (Blk.cells (by assumption) (Nat.le_of_ble_eq_true rfl)).trans rfl⟩, ?_⟩ | refine ⟨_, _, _, fun _ => ⟨rfl, (Blk.cells (by assumption) (Nat.le_of_ble_eq_true rfl)).trans rfl⟩, ?_⟩ | refine ⟨_, _, _, ⟨rfl, by assumption⟩, ?_⟩ | refine ⟨_, _, _, fun _ => ⟨rfl, by assumption⟩, ?_⟩ | refine ⟨_, _, _, _, ⟨rfl, (Blk.cells (by assumption) (Nat.le_of_ble_eq_true rfl)).trans rfl⟩, ?_⟩ | refine ⟨_, _, _, _, fun _ => ⟨rfl, (Blk.cells (by assumption) (Nat.le_of_ble_eq_true rfl)).trans rfl⟩, ?_⟩ | refine ⟨_, _, _, _, ⟨rfl, by assumption⟩, ?_⟩ | refine ⟨_, _, _, _, fun _ => ⟨rfl, by assumption⟩, ?_⟩ | refine ⟨_, _, _, _, _, ⟨rfl, (Blk.cells (by assumption) (Nat.le_of_ble_eq_true rfl)).trans rfl⟩, ?_⟩ | refine ⟨_, _, _, _, _, fun _ => ⟨rfl, (Blk.cells (by assumption) (Nat.le_of_ble_eq_true rfl)).trans rfl⟩, ?_⟩ | refine ⟨_, _, _, _, _, ⟨rfl, by assumption⟩, ?_⟩ | refine ⟨_, _, _, _, _, fun _ => ⟨rfl, by assumption⟩, ?_⟩ | refine ⟨_, _, _, _, _, _, ⟨rfl, (Blk.cells (by assumption) (Nat.le_of_ble_eq_true rfl)).trans rfl⟩, ?_⟩ | refine ⟨_, _, _, _, _, _, fun _ => ⟨rfl, (Blk.cells (by assumption) (Nat.le_of_ble_eq_true rfl)).trans rfl⟩, ?_⟩ | refine ⟨_, _, _, _, _, _, ⟨rfl, by assumption⟩, ?_⟩ | refine ⟨_, _, _, _, _, _, fun _ => ⟨rfl, by assumption⟩, ?_⟩ | refine ⟨_, _, _, _, _, _, _, ⟨rfl, (Blk.cells (by assumption) (Nat.le_of_ble_eq_true rfl)).trans rfl⟩, ?_⟩ | refine ⟨_, _, _, _, _, _, _, fun _ => ⟨rfl, (Blk.cells (by assumption) (Nat.le_of_ble_eq_true rfl)).trans rfl⟩, ?_⟩ | refine ⟨_, _, _, _, _, _, _, ⟨rfl, by assumption⟩, ?_⟩ | refine ⟨_, _, _, _, _, _, _, fun _ => ⟨rfl, by assumption⟩, ?_⟩ | refine ⟨_, _, _, _, _, _, _, _, ⟨rfl, (Blk.cells (by assumption) (Nat.le_of_ble_eq_true rfl)).trans rfl⟩, ?_⟩ | refine ⟨_, _, _, _, _, _, _, _, fun _ => ⟨rfl, (Blk.cells (by assumption) (Nat.le_of_ble_eq_true rfl)).trans rfl⟩, ?_⟩ | refine ⟨_, _, _, _, _, _, _, _, ⟨rfl, by assumption⟩, ?_⟩ | refine ⟨_, _, _, _, _, _, _, _, fun _ => ⟨rfl, by assumption⟩, ?_⟩ | fail)
  split <;> exact ⟨rfl, rfl⟩

theorem c93 {p o : Nat} {g : Option Nat} {CS : List Value} {sv : Sv} (hb : Blk h p g CS) (h1 : CS[o + 1]? = some sv.v) : C 93 [.pointer (some ⟨p, o, none⟩)] h fun v h' => v = .int .i64 (natI sv.l) ∧ h' = h := by
  refine SCalls_of_vw fol (pf := pf) (shp := shp93) (f := 93) (fn := Try.f93) (by kernel_rfl) (c := Try.f93.body.getD .skip) (by kernel_rfl) (by kernel_rfl) fun wf => ?_
  rw [vc93]
  exact ⟨rfl, rfl, _, _, _, ⟨rfl, hb.one h1⟩, rfl, rfl⟩

theorem c57 (x : DX h d g0 gs gd gw ga R D s dd w a) (hb : 0 < D.bytes) : C 57 [.pointer (some ⟨d, 0, none⟩)] h fun v h' => v = .int .i64 (natI D.seen.length) ∧ h' = h := by
  refine SCalls_of_vw fol (pf := pf) (shp := shp57) (f := 57) (fn := Try.f57) (by kernel_rfl) (c := Try.f57.body.getD .skip) (by kernel_rfl) (by kernel_rfl) fun wf => ?_
  rw [vc57]
  refine (c58 x hb).mono fun v h' ⟨e, e'⟩ => ⟨_, e, ?_⟩
  subst e'
  rw [if_neg (by simp [notB])]
  refine ⟨rfl, rfl, (c93 x.blk rfl).mono fun v h' ⟨e, e'⟩ => ⟨_, e, ?_, e'⟩⟩
  rw [x.seen.2]

theorem toW_u64 {n : Int} (h0 : 0 ≤ n) (h1 : n < 18446744073709551616) : toW .u64 n = n := by
  unfold toW IntKind.wrap
  simp [IntKind.bits, IntKind.signed]
  omega
theorem toW_i64 {n : Int} (h0 : -9223372036854775808 ≤ n) (h1 : n < 9223372036854775808) : toW .i64 n = n := by
  unfold toW IntKind.wrap
  simp [IntKind.bits, IntKind.signed]
  omega

theorem c92 {p o : Nat} {g : Option Nat} {CS : List Value} {sv : Sv} {n : Int} (hb : Blk h p g CS) (h1 : CS[o + 1]? = some sv.v) (hn : 0 ≤ n ∧ n < 4294967296) (hl : sv.l ≤ 4294967296) :
    C 92 [.pointer (some ⟨p, o, none⟩), .int .u32 n] h fun v h' => v = .bool (decide (n < sv.l)) ∧ h' = h := by
  refine SCalls_of_vw fol (pf := pf) (shp := shp92) (f := 92) (fn := Try.f92) (by kernel_rfl) (c := Try.f92.body.getD .skip) (by kernel_rfl) (by kernel_rfl) fun wf => ?_
  rw [vc92]
  refine ⟨rfl, rfl, _, _, _, ⟨rfl, hb.one h1⟩, ?_, rfl⟩
  rw [toW_u64 (by omega) (by omega), toW_u64 (by simp only [natI]; omega) (by simp only [natI]; omega)]
  rfl
end

/-- slices.Clone, of any element. -/
theorem clone_of {α : Type} {enc : α → List Value} {w bytes : Nat} {t elem : TypeId} (ht : AppT Try.prog t t elem w bytes) (hb : bytes ≤ 4096) (hw : ∀ x, (enc x).length = w) (hc : ∀ x, (enc x).all isCell = true) {h h1 : Hp} (wf : Wf h) (he : h1 = h.alloc [] elem) {G : Option Nat} {a : Option Addr} {l c : Nat} {L : List α} (s : SlT enc w h G a l c L) (hl : l ≤ 8589934592) :
    ∃ a' c' g' h', cappend Try.prog t t (.slice (some ⟨h.next, 0, none⟩) 0 0) (.slice a l c) h1 = some (.slice a' l c', h') ∧ OwT enc w h' g' ⟨a', l, c'⟩ L ∧ (g' = none ∨ ∃ y, g' = some y ∧ h.next ≤ y) ∧ Kept h h' ∧ Wf h' := by
  obtain ⟨b1, k1, n1, wf1⟩ := new_blk wf he
  have s1 := s.keep k1 fun _ _ hf => hf
  have o0 : Ow h1 w none (some ⟨h.next, 0, none⟩) 0 0 [] := .inl ⟨rfl, rfl, rfl, rfl, .inr ⟨_, _, rfl⟩⟩
  have hcell : (L.flatMap enc).all isCell = true := by
    simp only [List.all_eq_true, List.mem_flatMap]
    rintro v ⟨x, _, hv⟩
    exact List.all_eq_true.mp (hc x) v hv
  obtain ⟨a', c', g', h', e1, o1, nw, k2, wf2⟩ := Ow.append wf1 ht o0 (dataOf_sl s1.sl) s1.sl.len hcell (room (by omega) hb)
  simp only [Nat.zero_add, List.nil_append] at e1 o1
  refine ⟨a', c', g', h', e1, ⟨o1, s.len⟩, ?_, k1.trans wf k2 fun y hy he => by simp at he, wf2⟩
  rcases nw with h3 | ⟨y, h3, h4⟩
  · exact .inl h3
  · exact .inr ⟨y, h3, by omega⟩

theorem encS_c (x : ByteArray) : (encS x).all isCell = true := rfl
theorem encF_c (x : Int) : (encF x).all isCell = true := rfl
theorem Wt.c (x : Wt) : x.enc.all isCell = true := rfl
theorem Ar.c (x : Ar) : x.enc.all isCell = true := rfl

/-- What a clone answers. -/
def Cloned {α : Type} (enc : α → List Value) (w : Nat) (h : Hp) (L : List α) (v : Value) (h' : Hp) : Prop :=
  ∃ s g', v = Sv.v s ∧ OwT enc w h' g' s L ∧ (g' = none ∨ ∃ y, g' = some y ∧ h.next ≤ y) ∧ Kept h h'

theorem c59 {h : Hp} {G : Option Nat} {a : Option Addr} {l c : Nat} {L : List ByteArray} (s : SlT encS 1 h G a l c L) (hl : l ≤ 8589934592) : C 59 [.slice a l c] h (Cloned encS 1 h L) := by
  refine SCalls_of_vw fol (pf := pf) (shp := shp59) (f := 59) (fn := Try.f59) (by kernel_rfl) (c := Try.f59.body.getD .skip) (by kernel_rfl) (by kernel_rfl) fun wf => ?_
  rw [vc59]
  split
  · rename_i hn
    have ha : a = none := by cases a with | none => rfl | some a => simp [isN] at hn
    subst ha
    have h0 := s.sl.mem
    have hL : L = [] := List.eq_nil_of_length_eq_zero (by rw [s.len]; exact h0.1)
    subst hL
    exact ⟨⟨none, 0, 0⟩, none, rfl, OwT.nil, .inl rfl, Keep.refl _ _⟩
  · intro h1 e1
    obtain ⟨a', c', g', h', e2, o2, n2, k2, wf2⟩ := clone_of app40 (by omega) encS_w encS_c wf e1 s hl
    exact ⟨a', l, c', h', e2, ⟨a', l, c'⟩, g', rfl, o2, n2, k2⟩

theorem c60 {h : Hp} {G : Option Nat} {a : Option Addr} {l c : Nat} {L : List Wt} (s : SlT Wt.enc 4 h G a l c L) (hl : l ≤ 8589934592) : C 60 [.slice a l c] h (Cloned Wt.enc 4 h L) := by
  refine SCalls_of_vw fol (pf := pf) (shp := shp60) (f := 60) (fn := Try.f60) (by kernel_rfl) (c := Try.f60.body.getD .skip) (by kernel_rfl) (by kernel_rfl) fun wf => ?_
  rw [vc60]
  split
  · rename_i hn
    have ha : a = none := by cases a with | none => rfl | some a => simp [isN] at hn
    subst ha
    have h0 := s.sl.mem
    have hL : L = [] := List.eq_nil_of_length_eq_zero (by rw [s.len]; exact h0.1)
    subst hL
    exact ⟨⟨none, 0, 0⟩, none, rfl, OwT.nil, .inl rfl, Keep.refl _ _⟩
  · intro h1 e1
    obtain ⟨a', c', g', h', e2, o2, n2, k2, wf2⟩ := clone_of app98 (by omega) Wt.w Wt.c wf e1 s hl
    exact ⟨a', l, c', h', e2, ⟨a', l, c'⟩, g', rfl, o2, n2, k2⟩

theorem c61 {h : Hp} {G : Option Nat} {a : Option Addr} {l c : Nat} {L : List Ar} (s : SlT Ar.enc 5 h G a l c L) (hl : l ≤ 8589934592) : C 61 [.slice a l c] h (Cloned Ar.enc 5 h L) := by
  refine SCalls_of_vw fol (pf := pf) (shp := shp61) (f := 61) (fn := Try.f61) (by kernel_rfl) (c := Try.f61.body.getD .skip) (by kernel_rfl) (by kernel_rfl) fun wf => ?_
  rw [vc61]
  split
  · rename_i hn
    have ha : a = none := by cases a with | none => rfl | some a => simp [isN] at hn
    subst ha
    have h0 := s.sl.mem
    have hL : L = [] := List.eq_nil_of_length_eq_zero (by rw [s.len]; exact h0.1)
    subst hL
    exact ⟨⟨none, 0, 0⟩, none, rfl, OwT.nil, .inl rfl, Keep.refl _ _⟩
  · intro h1 e1
    obtain ⟨a', c', g', h', e2, o2, n2, k2, wf2⟩ := clone_of app99 (by omega) Ar.w Ar.c wf e1 s hl
    exact ⟨a', l, c', h', e2, ⟨a', l, c'⟩, g', rfl, o2, n2, k2⟩

theorem c72 {h : Hp} {G : Option Nat} {a : Option Addr} {l c : Nat} {L : List Int} (s : SlT encF 1 h G a l c L) (hl : l ≤ 8589934592) : C 72 [.slice a l c] h (Cloned encF 1 h L) := by
  refine SCalls_of_vw fol (pf := pf) (shp := shp72) (f := 72) (fn := Try.f72) (by kernel_rfl) (c := Try.f72.body.getD .skip) (by kernel_rfl) (by kernel_rfl) fun wf => ?_
  rw [vc72]
  split
  · rename_i hn
    have ha : a = none := by cases a with | none => rfl | some a => simp [isN] at hn
    subst ha
    have h0 := s.sl.mem
    have hL : L = [] := List.eq_nil_of_length_eq_zero (by rw [s.len]; exact h0.1)
    subst hL
    exact ⟨⟨none, 0, 0⟩, none, rfl, OwT.nil, .inl rfl, Keep.refl _ _⟩
  · intro h1 e1
    obtain ⟨a', c', g', h', e2, o2, n2, k2, wf2⟩ := clone_of app36 (by omega) encF_w encF_c wf e1 s hl
    exact ⟨a', l, c', h', e2, ⟨a', l, c'⟩, g', rfl, o2, n2, k2⟩

end Go.Proofs.Ytfkhjbfddeahaaa.kc
