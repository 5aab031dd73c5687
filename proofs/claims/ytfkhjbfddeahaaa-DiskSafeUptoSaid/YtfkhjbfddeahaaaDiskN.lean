/- play: one step on a disk. -/
import Derived.Test.YtfkhjbfddeahaaaDiskM
set_option linter.unusedVariables false
namespace Go.Proofs.Ytfkhjbfddeahaaa.kc
open Go Go.Cn Go.Proofs Go.Proofs.Ytfkhjbfddeahaaa.vc

theorem Op.after {h h1 h2 : Hp} {d : Nat} {W R : Nat → Prop} {D' : Dk} (wf : Wf h) (k : Kept h h1) (o : Op h1 d W R D' h2) : Op h d W R D' h2 := by
  obtain ⟨W', R', x, a, b, kk⟩ := o
  have up : ∀ {y}, h1.next ≤ y → h.next ≤ y := fun hy => Nat.le_trans k.next hy
  exact ⟨W', R', x, fun y hy => (a y hy).imp id up, fun y hy => (b y hy).imp id up, (k.mono wf fun _ _ hf => hf.elim).trans wf kk fun _ _ hg => hg⟩
theorem Op.trans {h h1 h2 : Hp} {d : Nat} {W R : Nat → Prop} {D1 D2 : Dk} (wf : Wf h) (o : Op h d W R D1 h1) (f : ∀ {W' R'}, DAt h1 d W' R' D1 → Op h1 d W' R' D2 h2) : Op h d W R D2 h2 := by
  obtain ⟨W', R', x, a, b, k⟩ := o
  obtain ⟨W2, R2, x2, a2, b2, k2⟩ := f x
  have hn := k.next
  refine ⟨W2, R2, x2, fun y hy => ?_, fun y hy => ?_, k.trans wf k2 fun y hy hw => ?_⟩
  · rcases a2 y hy with h3 | h3
    · exact a y h3
    · exact .inr (by omega)
  · rcases b2 y hy with h3 | h3
    · exact b y h3
    · exact .inr (by omega)
  · rcases a y hw with h3 | h3
    · exact h3
    · omega
theorem DAt.op {h : Hp} {d : Nat} {W R : Nat → Prop} {D : Dk} (x : DAt h d W R D) : Op h d W R D h := ⟨W, R, x, fun _ h => .inl h, fun _ h => .inl h, Keep.refl _ _⟩

structure Stp where
  dO : Int
  wh : Int
  no : Int
  n : Int
  len : Int
  b : Int
  st : Int
  aa : Option Addr
  al : Nat
  ac : Nat
  fa : Option Addr
  fl : Nat
  fc : Nat
def Stp.enc (x : Stp) : List Value := [.int .i64 x.dO, .int .i64 x.wh, .int .u32 x.no, .int .i64 x.n, .int .i64 x.len, .int .u8 x.b, .int .u8 x.st, .slice x.aa x.al x.ac, .slice x.fa x.fl x.fc]
theorem Stp.w (x : Stp) : x.enc.length = 9 := rfl
structure Stp.ok (x : Stp) : Prop where
  no0 : 0 ≤ x.no
  no1 : x.no < 4294967296
  n0 : -9223372036854775808 ≤ x.n
  n1 : x.n < 9223372036854775808

def playD (D : Dk) (x : Stp) : Dk × Bool :=
  if x.dO = 1 then ((writeD D (remW x.no 8) (textB x.b x.st (textN x.len 1024))).1, eqI (writeD D (remW x.no 8) (textB x.b x.st (textN x.len 1024))).2 0)
  else if x.dO = 2 then ((growD D x.n).1, eqI (growD D x.n).2 0)
  else if x.dO = 3 then ((syncD D).1, eqI (syncD D).2 0)
  else (D, true)

theorem rem8 {n : Int} (h : 0 ≤ n) : 0 ≤ remW n 8 ∧ remW n 8 < 8 := by
  unfold remW
  rw [Int.tmod_eq_emod_of_nonneg h]
  omega

theorem playD_fit {k M N : Nat} {D : Dk} (o : D.fit k M N) {x : Stp} (so : x.ok) : (playD D x).1.fit k M (N + 1) := by
  unfold playD
  split
  · exact writeD_fit o (rem8 so.no0).1 _
  · split
    · exact growD_fit o _
    · split
      · exact (syncD_fit o).mono (by omega)
      · exact o.mono (by omega)

theorem c27 {h : Hp} {d : Nat} {W R : Nat → Prop} {D : Dk} {k M N : Nat} (x : DAt h d W R D) (fit : D.fit k M N) (hN : N ≤ 8589934591) {s : Stp} (so : s.ok) :
    C 27 [.pointer (some ⟨d, 0, none⟩), .agg s.enc.toArray] h fun v h' => v = .bool (playD D s).2 ∧ Op h d W R (playD D s).1 h' := by
  refine SCalls_of_vw fol (pf := pf) (shp := shp27) (f := 27) (fn := Try.f27) (by kernel_rfl) (c := Try.f27.body.getD .skip) (by kernel_rfl) (by kernel_rfl) fun wf => ?_
  show vBody Try.prog C pf shp27 Try.f27 (Try.f27.body.getD .skip) [.pointer (some ⟨d, 0, none⟩), .agg #[.int .i64 s.dO, .int .i64 s.wh, .int .u32 s.no, .int .i64 s.n, .int .i64 s.len, .int .u8 s.b, .int .u8 s.st, .slice s.aa s.al s.ac, .slice s.fa s.fl s.fc]] h _
  rw [vc27]
  intro h1 e1
  obtain ⟨b1, k1, n1, wf1⟩ := new_blk wf e1
  have x1 := x.kept k1
  refine ⟨rfl, s.dO, ⟨rfl, b1.one rfl⟩, ?_⟩
  by_cases h1 : s.dO = 1
  · rw [if_pos (eqI_iff.mpr h1)]
    have hp : playD D s = ((writeD D (remW s.no 8) (textB s.b s.st (textN s.len 1024))).1, eqI (writeD D (remW s.no 8) (textB s.b s.st (textN s.len 1024))).2 0) := by unfold playD; rw [if_pos h1]
    rw [hp]
    have hr := rem8 so.no0
    refine ⟨rfl, s.no, ⟨rfl, b1.one rfl⟩, by simp [nonzero], rfl, s.len, s.b, s.st, ⟨rfl, (b1.cells (o := 4) (n := 3) (Nat.le_of_ble_eq_true rfl)).trans rfl⟩, ?_⟩
    refine (c29 _ (by omega)).wf fun v h2 wf2 _ ⟨e2, k2⟩ => ⟨_, e2, ⟨rfl, (k2.blk b1).one rfl⟩, ?_⟩
    refine ((x1.kept k2).write fit hN (by omega)).mono fun v h3 ⟨e3, o3⟩ => ⟨_, e3, rfl, ?_⟩
    exact Op.after wf (k1.trans wf k2 fun _ _ hf => hf) o3
  rw [if_neg (by rw [eqI_iff]; exact h1)]
  by_cases h2 : s.dO = 2
  · rw [if_pos (eqI_iff.mpr h2)]
    have hp : playD D s = ((growD D s.n).1, eqI (growD D s.n).2 0) := by unfold playD; rw [if_neg h1, if_pos h2]
    rw [hp]
    exact ⟨rfl, s.n, ⟨rfl, b1.one rfl⟩, (x1.grow fit hN so.n1).mono fun v h3 ⟨e3, o3⟩ => ⟨_, e3, rfl, Op.after wf k1 o3⟩⟩
  rw [if_neg (by rw [eqI_iff]; exact h2)]
  by_cases h3 : s.dO = 3
  · rw [if_pos (eqI_iff.mpr h3)]
    have hp : playD D s = ((syncD D).1, eqI (syncD D).2 0) := by unfold playD; rw [if_neg h1, if_neg h2, if_pos h3]
    rw [hp]
    exact (x1.sync fit hN).mono fun v h3 ⟨e3, o3⟩ => ⟨_, e3, rfl, Op.after wf k1 o3⟩
  rw [if_neg (by rw [eqI_iff]; exact h3)]
  have hp : playD D s = (D, true) := by unfold playD; rw [if_neg h1, if_neg h2, if_neg h3]
  rw [hp]
  exact ⟨rfl, Op.after wf k1 x1.op⟩
end Go.Proofs.Ytfkhjbfddeahaaa.kc
