/- A disk in memory, told by the groups that it owns (W) and those that it reads (R). -/
import Derived.Test.YtfkhjbfddeahaaaDiskL
import Derived.Test.YtfkhjbfddeahaaaDiskW
set_option linter.unusedVariables false
namespace Go.Proofs.Ytfkhjbfddeahaaa.kc
open Go Go.Cn Go.Proofs Go.Proofs.Ytfkhjbfddeahaaa.vc

def DAt (h : Hp) (d : Nat) (W R : Nat → Prop) (D : Dk) : Prop :=
  ∃ g0 gs gd gw ga s dd w a, DX h d g0 gs gd gw ga R D s dd w a ∧ ∀ y, W y ↔ own g0 gs gd gw ga y

/-- W and F have nothing in common. -/
def Out (W F : Nat → Prop) : Prop := ∀ y, W y → ¬ F y

/-- A disk behind a call. -/
def Op (h : Hp) (d : Nat) (W R : Nat → Prop) (D' : Dk) (h' : Hp) : Prop :=
  ∃ W' R', DAt h' d W' R' D' ∧ (∀ y, W' y → W y ∨ h.next ≤ y) ∧ (∀ y, R' y → R y ∨ h.next ≤ y) ∧ Keep W h h'

theorem Out.op {W F W' : Nat → Prop} {n : Nat} (o : Out W F) (hF : ∀ y, F y → y < n) (hW : ∀ y, W' y → W y ∨ n ≤ y) : Out W' F := by
  intro y hy hf
  rcases hW y hy with h | h
  · exact o y h hf
  · have := hF y hf; omega
theorem Out.op2 {W F F' : Nat → Prop} {n : Nat} (o : Out W F) (hW : ∀ y, W y → y < n) (hF : ∀ y, F' y → F y ∨ n ≤ y) : Out W F' := by
  intro y hy hf
  rcases hF y hf with h | h
  · exact o y hy h
  · have := hW y hy; omega
theorem Out.new {W F : Nat → Prop} {n : Nat} (hW : ∀ y, W y → n ≤ y) (hF : ∀ y, F y → y < n) : Out W F := by
  intro y hy hf
  have := hW y hy
  have := hF y hf
  omega
theorem Out.mono {W F W' F' : Nat → Prop} (o : Out W F) (hW : ∀ y, W' y → W y) (hF : ∀ y, F' y → F y) : Out W' F' := fun y hy hf => o y (hW y hy) (hF y hf)

section
variable {h : Hp} {d : Nat} {W R : Nat → Prop} {D : Dk}

theorem DAt.of {g0 : Nat} {gs gd gw ga : Option Nat} {s dd w a : Sv} (x : DX h d g0 gs gd gw ga R D s dd w a) : DAt h d (own g0 gs gd gw ga) R D := ⟨g0, gs, gd, gw, ga, s, dd, w, a, x, fun _ => Iff.rfl⟩

theorem DAt.keep {S : Nat → Prop} {h' : Hp} (k : Keep S h h') (x : DAt h d W R D) (hn : ∀ y, W y ∨ R y → ¬ S y) : DAt h' d W R D := by
  obtain ⟨g0, gs, gd, gw, ga, s, dd, w, a, x, hW⟩ := x
  exact ⟨g0, gs, gd, gw, ga, s, dd, w, a, x.keep k fun y hy => hn y (by rcases hy with hy | hy; exact .inl ((hW y).mpr hy); exact .inr hy), hW⟩
theorem DAt.kept {h' : Hp} (k : Kept h h') (x : DAt h d W R D) : DAt h' d W R D := x.keep k fun _ _ hf => hf
theorem DAt.wlt (wf : Wf h) (x : DAt h d W R D) : ∀ y, W y → y < h.next := by
  obtain ⟨g0, gs, gd, gw, ga, s, dd, w, a, x, hW⟩ := x
  obtain ⟨l0, l1, l2, l3, l4⟩ := x.lts wf
  intro y hy
  rcases (hW y).mp hy with hy | hy | hy | hy | hy
  · omega
  · exact l1 y hy
  · exact l2 y hy
  · exact l3 y hy
  · exact l4 y hy
theorem DAt.rlt (x : DAt h d W R D) : ∀ y, R y → y < h.next := by
  obtain ⟨g0, gs, gd, gw, ga, s, dd, w, a, x, hW⟩ := x
  exact x.rlt
theorem DAt.flt (wf : Wf h) (x : DAt h d W R D) : ∀ y, W y ∨ R y → y < h.next := fun y hy => hy.elim (x.wlt wf y) (x.rlt y)

/-- A contract that changes the disk. -/
theorem DAt.run {f : FuncId} {args : List Value} {D' : Dk} {r : Value} (x : DAt h d W R D)
    (hc : ∀ {g0 gs gd gw ga s dd w a}, DX h d g0 gs gd gw ga R D s dd w a → (∀ y, W y ↔ own g0 gs gd gw ga y) → C f args h fun v h' => v = r ∧ Nx h d g0 gs gd gw ga R D' h') : C f args h fun v h' => v = r ∧ Op h d W R D' h' := by
  obtain ⟨g0, gs, gd, gw, ga, s, dd, w, a, x, hW⟩ := x
  refine (hc x hW).wf fun v h' wf' hn ⟨e, gs', gd', gw', ga', R', s', dd', w', a', x', n1, n2, n3, n4, r, k⟩ => ⟨e, _, R', DAt.of x', fun y hy => ?_, r, ⟨k.next, k.ro, fun b cs t g hb hg => k.rw b cs t g hb fun ho => hg ((hW g).mpr ho)⟩⟩
  rcases own_nw n1 n2 n3 n4 hy with hy | hy
  · exact .inl ((hW y).mpr hy)
  · exact .inr hy
/-- A contract that does not. -/
theorem DAt.ask {f : FuncId} {args : List Value} {K : Value → Hp → Prop} (x : DAt h d W R D) (hc : ∀ {g0 gs gd gw ga s dd w a}, DX h d g0 gs gd gw ga R D s dd w a → C f args h K) : C f args h K := by
  obtain ⟨g0, gs, gd, gw, ga, s, dd, w, a, x, hW⟩ := x
  exact hc x

variable {k M N : Nat}
theorem DAt.write (x : DAt h d W R D) (fit : D.fit k M N) (hN : N ≤ 8589934591) {no : Int} (hno : 0 ≤ no ∧ no < 4294967296) {data : ByteArray} : C 54 [.pointer (some ⟨d, 0, none⟩), .int .u32 no, .string data] h fun v h' => v = .int .i64 (writeD D no data).2 ∧ Op h d W R (writeD D no data).1 h' := x.run fun x _ => c54 x fit hN hno
theorem DAt.grow (x : DAt h d W R D) (fit : D.fit k M N) (hN : N ≤ 8589934591) {n : Int} (hn : n < 9223372036854775808) : C 53 [.pointer (some ⟨d, 0, none⟩), .int .i64 n] h fun v h' => v = .int .i64 (growD D n).2 ∧ Op h d W R (growD D n).1 h' := x.run fun x _ => c53 x fit hN hn
theorem DAt.sync (x : DAt h d W R D) (fit : D.fit k M N) (hN : N ≤ 8589934591) : C 46 [.pointer (some ⟨d, 0, none⟩)] h fun v h' => v = .int .i64 (syncD D).2 ∧ Op h d W R (syncD D).1 h' := x.run fun x _ => c46 x fit hN
theorem DAt.crash (x : DAt h d W R D) (fit : D.fit k M N) (hN : N ≤ 8589934592) {G : Option Nat} {fa : Option Addr} {fl fc : Nat} {F : List Int} (sf : SlT encF 1 h G fa fl fc F) (hG : ∀ y, G = some y → ¬ W y ∧ y < h.next) (hfl : F.length ≤ 8589934592) :
    C 32 [.pointer (some ⟨d, 0, none⟩), .slice fa fl fc] h fun v h' => v = .int .i64 (crashD D F).2 ∧ Op h d W R (crashD D F).1 h' := x.run fun x hW => c32 x fit hN sf (fun y hy => ⟨fun ho => (hG y hy).1 ((hW y).mpr ho), (hG y hy).2⟩) hfl
theorem DAt.wake (x : DAt h d W R D) (fit : D.fit k M N) : C 36 [.pointer (some ⟨d, 0, none⟩)] h fun v h' => v = .int .i64 (wakeD D).2 ∧ Op h d W R (wakeD D).1 h' := x.run fun x _ => c36 x fit.ok.pos
theorem DAt.take (x : DAt h d W R D) (fit : D.fit k M N) : C 85 [.pointer (some ⟨d, 0, none⟩)] h fun v h' => v = .tuple #[.int .i64 (takeD D).2.1, .int .i64 (takeD D).2.2] ∧ Op h d W R (takeD D).1 h' := x.run fun x _ => c85 x fit.ok.pos
theorem DAt.read (x : DAt h d W R D) (fit : D.fit k M N) {no : Int} (hno : 0 ≤ no ∧ no < 4294967296) : C 55 [.pointer (some ⟨d, 0, none⟩), .int .u32 no] h fun v h' => v = .tuple #[.string (readD D no).1, .int .i64 (readD D no).2] ∧ h' = h := x.ask fun x => c55 x fit.ok hno
theorem DAt.page (x : DAt h d W R D) (fit : D.fit k M N) : C 69 [.pointer (some ⟨d, 0, none⟩)] h fun v h' => v = .int .i64 D.bytes ∧ h' = h := x.ask fun x => c69 x fit.ok.pos
theorem DAt.mostC (x : DAt h d W R D) (fit : D.fit k M N) : C 70 [.pointer (some ⟨d, 0, none⟩)] h fun v h' => v = .int .i64 D.most ∧ h' = h := x.ask fun x => c70 x fit.ok.pos
theorem DAt.on (x : DAt h d W R D) (fit : D.fit k M N) : C 38 [.pointer (some ⟨d, 0, none⟩)] h fun v h' => v = .bool (!D.off) ∧ h' = h := x.ask fun x => c38 x fit.ok.pos
theorem DAt.lifeC (x : DAt h d W R D) (fit : D.fit k M N) : C 56 [.pointer (some ⟨d, 0, none⟩)] h fun v h' => v = .int .i64 D.life ∧ h' = h := x.ask fun x => c56 x fit.ok.pos
theorem DAt.takenC (x : DAt h d W R D) (fit : D.fit k M N) : C 39 [.pointer (some ⟨d, 0, none⟩)] h fun v h' => v = .int .i64 D.taken ∧ h' = h := x.ask fun x => c39 x fit.ok.pos
theorem DAt.armed (x : DAt h d W R D) (fit : D.fit k M N) : C 45 [.pointer (some ⟨d, 0, none⟩)] h fun v h' => v = .int .i64 (natI D.arms.length) ∧ h' = h := x.ask fun x => c45 x fit.ok.pos
theorem DAt.acts (x : DAt h d W R D) (fit : D.fit k M N) : C 37 [.pointer (some ⟨d, 0, none⟩)] h fun v h' => v = .agg #[.int .i64 D.wr, .int .i64 D.gr, .int .i64 D.sy] ∧ Kept h h' := x.ask fun x => c37 x fit.ok.pos
theorem DAt.sizeC (x : DAt h d W R D) (fit : D.fit k M N) : C 57 [.pointer (some ⟨d, 0, none⟩)] h fun v h' => v = .int .i64 (natI D.seen.length) ∧ h' = h := x.ask fun x => c57 x fit.ok.pos
theorem DAt.image (x : DAt h d W R D) (fit : D.fit k M N) : C 34 [.pointer (some ⟨d, 0, none⟩)] h (Cloned encS 1 h D.dur) := x.ask fun x => c34 x fit.ok.pos (by have := fit.ok.durL; have := fit.ok.m1; omega)
theorem DAt.waits (x : DAt h d W R D) (fit : D.fit k M N) (hN : N ≤ 8589934592) : C 30 [.pointer (some ⟨d, 0, none⟩)] h (Cloned encW 3 h (D.waits.map Wt.told)) := x.ask fun x => c30 x fit.ok.pos (by have := fit.waits; omega)
theorem DAt.seenC (x : DAt h d W R D) (fit : D.fit k M N) : C 28 [.pointer (some ⟨d, 0, none⟩)] h (Cloned encS 1 h (seenL D)) := x.ask fun x => c28 x fit.ok
theorem DAt.fork (x : DAt h d W R D) (fit : D.fit k M N) (hN : N ≤ 8589934592) : C 31 [.pointer (some ⟨d, 0, none⟩)] h fun v h' => ∃ q W', v = .pointer (some ⟨q, 0, none⟩) ∧ DAt h' q W' R D ∧ (∀ y, W' y → h.next ≤ y) ∧ Kept h h' :=
  x.ask fun x => (c31 x fit hN).mono fun v h' ⟨q, p0, ps, pd, pw, pa, s', dd', w', a', e, x', hn, k⟩ => ⟨q, _, e, DAt.of x', hn, k⟩
end

theorem newDisk {h : Hp} {page most : Int} (he : fromE page most [] = 0) : C 26 [.int .i64 page, .int .i64 most] h fun v h' => Kept h h' ∧ ∃ q W, v = .tuple #[.pointer (some ⟨q, 0, none⟩), .int .i64 0] ∧ DAt h' q W (fun _ => False) (newD page most []) ∧ (∀ y, W y → h.next ≤ y) :=
  (c26 h page most).mono fun v h' ⟨k, hq⟩ => by
    rcases hq with ⟨h1, _⟩ | ⟨_, q, p0, ps, pd, pw, pa, s', dd', w', a', e, x, hn⟩
    · exact absurd he h1
    · exact ⟨k, q, _, e, DAt.of x, hn⟩

/-! ### how the calls keep a disk sound -/
section
variable {k M N : Nat} {D : Dk}
theorem writeD_fit (o : D.fit k M N) {no : Int} (hno : 0 ≤ no) (data : ByteArray) : (writeD D no data).1.fit k M (N + 1) := by
  unfold writeD
  split
  · exact o.mono (by omega)
  · split
    · exact o.mono (by omega)
    · rename_i h1
      split
      · exact o.mono (by omega)
      · rename_i h2
        have hs : data.size = 8 * k := by have := o.ok.by_; omega
        have hg : ∀ x ∈ [Wt.mk 1 no 0 data], x.good k M := by
          intro y hy; simp at hy; subst hy
          have := o.ok.seenL
          exact .inl ⟨rfl, hno, by simp only; omega, hs⟩
        split
        · exact actD_fit o hg
        · have hml : (D.arms.map (Ar.dec 1)).length ≤ 64 := by rw [List.length_map]; exact o.arms
          refine ⟨⟨o.ok.by_, o.ok.k0, o.ok.k1, o.ok.m1, o.ok.most, fun x hx => ?_, o.ok.durS, by simp only [List.length_set]; exact o.ok.seenL, o.ok.durL, fun y hy => ?_⟩, hml, map_dec_fates 1 o.fates, by simp; exact o.waits⟩
          · rcases List.mem_or_eq_of_mem_set hx with hx | hx
            · exact o.ok.seenS x hx
            · rw [hx]; exact hs
          · rcases List.mem_append.mp hy with hy | hy
            · exact o.ok.waits y hy
            · exact hg y hy
theorem growD_fit (o : D.fit k M N) (n : Int) : (growD D n).1.fit k M (N + 1) := by
  unfold growD
  split
  · exact o.mono (by omega)
  · split
    · exact o.mono (by omega)
    · rename_i h1
      split
      · exact o.mono (by omega)
      · rename_i h2
        have hmost := o.ok.most
        have hg : ∀ x ∈ [Wt.mk 2 0 (D.seen.length + n) ⟨#[]⟩], x.good k M := by
          intro y hy; simp at hy; subst hy
          exact .inr ⟨rfl, by simp only; omega, by simp only; omega⟩
        split
        · exact actD_fit o hg
        · have hml : (D.arms.map (Ar.dec 2)).length ≤ 64 := by rw [List.length_map]; exact o.arms
          obtain ⟨s1, s2⟩ := stretchL_ok (n := D.seen.length + n) o.ok.seenS o.ok.seenL (by omega)
          rw [← o.ok.by_] at s1 s2
          refine ⟨⟨o.ok.by_, o.ok.k0, o.ok.k1, o.ok.m1, o.ok.most, s1, o.ok.durS, s2, o.ok.durL, fun y hy => ?_⟩, hml, map_dec_fates 2 o.fates, by simp; exact o.waits⟩
          rcases List.mem_append.mp hy with hy | hy
          · exact o.ok.waits y hy
          · exact hg y hy
theorem syncD_fit (o : D.fit k M N) : (syncD D).1.fit k M N := by
  unfold syncD
  split
  · exact o
  · split
    · exact actD_fit (adds := []) o (by simp)
    · have hml : (D.arms.map (Ar.dec 3)).length ≤ 64 := by rw [List.length_map]; exact o.arms
      exact ⟨⟨o.ok.by_, o.ok.k0, o.ok.k1, o.ok.m1, o.ok.most, o.ok.seenS, o.ok.seenS, o.ok.seenL, o.ok.seenL, by simp⟩, hml, map_dec_fates 3 o.fates, by simp⟩
theorem crashD_fit (o : D.fit k M N) (F : List Int) : (crashD D F).1.fit k M N := by
  unfold crashD
  split
  · exact o
  · exact goesD_fit o F
theorem wakeD_fit (o : D.fit k M N) : (wakeD D).1.fit k M N := by
  unfold wakeD
  split
  · exact ⟨⟨o.ok.by_, o.ok.k0, o.ok.k1, o.ok.m1, o.ok.most, o.ok.seenS, o.ok.durS, o.ok.seenL, o.ok.durL, o.ok.waits⟩, o.arms, o.fates, o.waits⟩
  · exact o
end
end Go.Proofs.Ytfkhjbfddeahaaa.kc
