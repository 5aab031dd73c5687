/- An arm: the plain law; helpers of DiskArms. -/
import Derived.Test.YtfkhjbfddeahaaaDiskP
import Derived.Test.YtfkhjbfddeahaaaDiskU
import Derived.Test.YtfkhjbfddeahaaaDiskT
set_option linter.unusedVariables false
set_option linter.unusedSimpArgs false
namespace Go.Proofs.Ytfkhjbfddeahaaa.kc
open Go Go.Cn Go.Proofs Go.Proofs.Ytfkhjbfddeahaaa.vc

/-- A disk with one arm. -/
def armed1 (F : Dk) (x : Ar) : Dk := { F with arms := [x] }
def Ar.less (x : Ar) : Ar := { x with left := subW .i64 x.left 1 }

theorem Dk.noArms {F : Dk} (c : F.arms = []) : { F with arms := [] } = F := by cases F; simp at c; subst c; rfl

theorem act_armed {F : Dk} {x : Ar} (c : F.arms = []) (hon : x.on = 0) (kind refused : Int) (adds : List Wt) :
    actD (armed1 F x) kind refused adds = if x.less.left = 0 then (if x.pw = true then (goesD { F with waits := F.waits ++ adds } x.fates, 7) else (F, refused)) else (armed1 { F with waits := F.waits ++ adds } x.less, 0) := by
  have hd : x.dec kind = x.less := by unfold Ar.dec; rw [if_pos (by rw [or_iff, eqI_iff]; exact .inl hon)]; rfl
  have hm : (armed1 F x).arms.map (Ar.dec kind) = [x.less] := by simp [armed1, hd]
  unfold actD
  rw [hm]
  by_cases hl : x.less.left = 0
  · have hdue : x.less.due = true := eqI_iff.mpr hl
    have hf : [x.less].find? Ar.due = some x.less := by simp [hdue]
    have hn : [x.less].filter nd = [] := by simp [nd, hdue]
    rw [hf, if_pos hl]
    simp only [hn]
    have hp : x.less.pw = x.pw := rfl
    have hfa : x.less.fates = x.fates := rfl
    rw [hp, hfa]
    split
    · have : ({ armed1 F x with arms := [], waits := (armed1 F x).waits ++ adds } : Dk) = { F with waits := F.waits ++ adds } := by simp [armed1, c]
      rw [this]
    · have : ({ armed1 F x with arms := [] } : Dk) = F := by simp only [armed1]; exact Dk.noArms c
      rw [this]
  · have hdue : x.less.due = false := by rw [Bool.eq_false_iff]; intro h; exact hl (eqI_iff.mp h)
    have hf : [x.less].find? Ar.due = none := by simp [hdue]
    rw [hf, if_neg hl]
    rfl

/-- What one step does to a calm disk, and to the same disk with an arm. -/
structure Stepped (F : Dk) (x : Ar) (s : Stp) (F' : Dk) (adds : List Wt) : Prop where
  free : playD F s = (F', true)
  sync : s.dO = 3 → adds = []
  else_ : s.dO ≠ 3 → F'.waits = F.waits ++ adds ∧ F'.dur = F.dur
  bytes : F'.bytes = F.bytes
  taken : F'.taken = F.taken
  arm : playD (armed1 F x) s = if x.less.left = 0 then (if x.pw = true then (goesD { F with waits := F.waits ++ adds } x.fates, false) else (F, false)) else (armed1 F' x.less, true)

theorem play_armed {F : Dk} {x : Ar} (c : Calm F) (hon : x.on = 0) {s : Stp} (hdo : s.dO = 1 ∨ s.dO = 2 ∨ s.dO = 3) :
    (playD F s = (F, false) ∧ playD (armed1 F x) s = (armed1 F x, false)) ∨ ∃ F' adds, Stepped F x s F' adds := by
  have ho : ¬ F.off = true := by rw [c.on]; simp
  have ho' : ¬ (armed1 F x).off = true := ho
  have e00 : eqI (0 : Int) 0 = true := rfl
  have ne : ∀ n : Int, n ≠ 0 → eqI n 0 = false := fun n h => by rw [Bool.eq_false_iff]; intro h2; exact h (eqI_iff.mp h2)
  rcases hdo with h1 | h2 | h3
  · generalize hn : remW s.no 8 = no
    generalize hd : textB s.b s.st (textN s.len 1024) = data
    have pf : ∀ D, playD D s = ((writeD D no data).1, eqI (writeD D no data).2 0) := fun D => by unfold playD; rw [if_pos h1, hn, hd]
    rw [pf, pf]
    by_cases hb : no < F.seen.length
    rotate_left
    · left
      have w1 : writeD F no data = (F, 41) := by unfold writeD; rw [if_neg ho, if_pos hb]
      have hb' : ¬ no < (armed1 F x).seen.length := hb
      have w2 : writeD (armed1 F x) no data = (armed1 F x, 41) := by unfold writeD; rw [if_neg ho', if_pos hb']
      rw [w1, w2, ne 41 (by omega)]; exact ⟨rfl, rfl⟩
    have hb' : no < (armed1 F x).seen.length := hb
    by_cases hs : (data.size : Int) = F.bytes
    rotate_left
    · left
      have w1 : writeD F no data = (F, 2) := by unfold writeD; rw [if_neg ho, if_neg (not_not_intro hb), if_pos hs]
      have hs' : ¬ (data.size : Int) = (armed1 F x).bytes := hs
      have w2 : writeD (armed1 F x) no data = (armed1 F x, 2) := by unfold writeD; rw [if_neg ho', if_neg (not_not_intro hb'), if_pos hs']
      rw [w1, w2, ne 2 (by omega)]; exact ⟨rfl, rfl⟩
    right
    have w1 : writeD F no data = ({ F with arms := F.arms.map (Ar.dec 1), waits := F.waits ++ [⟨1, no, 0, data⟩], seen := F.seen.set no.toNat data, wr := addW .i64 F.wr 1 }, 0) := by
      unfold writeD
      rw [if_neg ho, if_neg (not_not_intro hb), if_neg (not_not_intro hs), if_neg (by rw [actD_calm c.arms]; simp)]
    have hA : F.arms.map (Ar.dec 1) = [] := by rw [c.arms]; rfl
    refine ⟨{ F with arms := F.arms.map (Ar.dec 1), waits := F.waits ++ [⟨1, no, 0, data⟩], seen := F.seen.set no.toNat data, wr := addW .i64 F.wr 1 }, [⟨1, no, 0, data⟩], by rw [pf, w1, e00], fun h => by omega, fun _ => ⟨rfl, rfl⟩, rfl, rfl, ?_⟩
    have ha := act_armed c.arms hon 1 6 [⟨1, no, 0, data⟩] (F := F)
    rw [pf]
    have w2 : writeD (armed1 F x) no data = if ¬ (actD (armed1 F x) 1 6 [⟨1, no, 0, data⟩]).2 = 0 then actD (armed1 F x) 1 6 [⟨1, no, 0, data⟩] else
        ({ armed1 F x with arms := (armed1 F x).arms.map (Ar.dec 1), waits := (armed1 F x).waits ++ [⟨1, no, 0, data⟩], seen := (armed1 F x).seen.set no.toNat data, wr := addW .i64 (armed1 F x).wr 1 }, 0) := by
      have hs' : (data.size : Int) = (armed1 F x).bytes := hs
      unfold writeD
      rw [if_neg ho', if_neg (not_not_intro hb'), if_neg (not_not_intro hs')]
    rw [w2, ha]
    have hd : x.dec 1 = x.less := by unfold Ar.dec; rw [if_pos (by rw [or_iff, eqI_iff]; exact .inl hon)]; rfl
    by_cases hl : x.less.left = 0
    · simp only [if_pos hl]
      by_cases hp : x.pw = true
      · simp only [if_pos hp]; rw [if_pos (by simp)]; rfl
      · simp only [if_neg hp]; rw [if_pos (by simp)]; rfl
    · simp only [if_neg hl]
      rw [if_neg (by simp)]
      simp [armed1, hd, eqI]
  · have pf : ∀ D, playD D s = ((growD D s.n).1, eqI (growD D s.n).2 0) := fun D => by unfold playD; rw [if_neg (by omega), if_pos h2]
    rw [pf, pf]
    by_cases hb : s.n < 1
    · left
      have w1 : growD F s.n = (F, 2) := by unfold growD; rw [if_neg ho, if_pos hb]
      have w2 : growD (armed1 F x) s.n = (armed1 F x, 2) := by unfold growD; rw [if_neg ho', if_pos hb]
      rw [w1, w2, ne 2 (by omega)]; exact ⟨rfl, rfl⟩
    by_cases hs : s.n > F.most - F.seen.length
    · left
      have w1 : growD F s.n = (F, 5) := by unfold growD; rw [if_neg ho, if_neg hb, if_pos hs]
      have hs' : s.n > (armed1 F x).most - (armed1 F x).seen.length := hs
      have w2 : growD (armed1 F x) s.n = (armed1 F x, 5) := by unfold growD; rw [if_neg ho', if_neg hb, if_pos hs']
      rw [w1, w2, ne 5 (by omega)]; exact ⟨rfl, rfl⟩
    right
    have w1 : growD F s.n = ({ F with arms := F.arms.map (Ar.dec 2), waits := F.waits ++ [⟨2, 0, F.seen.length + s.n, ⟨#[]⟩⟩], seen := stretchL F.bytes F.seen (F.seen.length + s.n), gr := addW .i64 F.gr 1 }, 0) := by
      unfold growD
      rw [if_neg ho, if_neg hb, if_neg hs, if_neg (by rw [actD_calm c.arms]; simp)]
    have hA : F.arms.map (Ar.dec 2) = [] := by rw [c.arms]; rfl
    refine ⟨{ F with arms := F.arms.map (Ar.dec 2), waits := F.waits ++ [⟨2, 0, F.seen.length + s.n, ⟨#[]⟩⟩], seen := stretchL F.bytes F.seen (F.seen.length + s.n), gr := addW .i64 F.gr 1 }, [⟨2, 0, F.seen.length + s.n, ⟨#[]⟩⟩], by rw [pf, w1, e00], fun h => by omega, fun _ => ⟨rfl, rfl⟩, rfl, rfl, ?_⟩
    have ha := act_armed c.arms hon 2 5 [⟨2, 0, F.seen.length + s.n, ⟨#[]⟩⟩] (F := F)
    rw [pf]
    have w2 : growD (armed1 F x) s.n = if ¬ (actD (armed1 F x) 2 5 [⟨2, 0, F.seen.length + s.n, ⟨#[]⟩⟩]).2 = 0 then actD (armed1 F x) 2 5 [⟨2, 0, F.seen.length + s.n, ⟨#[]⟩⟩] else
        ({ armed1 F x with arms := (armed1 F x).arms.map (Ar.dec 2), waits := (armed1 F x).waits ++ [⟨2, 0, F.seen.length + s.n, ⟨#[]⟩⟩], seen := stretchL (armed1 F x).bytes (armed1 F x).seen (F.seen.length + s.n), gr := addW .i64 (armed1 F x).gr 1 }, 0) := by
      have hs' : ¬ s.n > (armed1 F x).most - (armed1 F x).seen.length := hs
      unfold growD
      rw [if_neg ho', if_neg hb, if_neg hs']
      rfl
    rw [w2, ha]
    have hd : x.dec 2 = x.less := by unfold Ar.dec; rw [if_pos (by rw [or_iff, eqI_iff]; exact .inl hon)]; rfl
    by_cases hl : x.less.left = 0
    · simp only [if_pos hl]
      by_cases hp : x.pw = true
      · simp only [if_pos hp]; rw [if_pos (by simp)]; rfl
      · simp only [if_neg hp]; rw [if_pos (by simp)]; rfl
    · simp only [if_neg hl]
      rw [if_neg (by simp)]
      simp [armed1, hd, eqI]
  · have pf : ∀ D, playD D s = ((syncD D).1, eqI (syncD D).2 0) := fun D => by unfold playD; rw [if_neg (by omega), if_neg (by omega), if_pos h3]
    right
    have w1 : syncD F = ({ F with arms := F.arms.map (Ar.dec 3), waits := [], dur := F.seen, sy := addW .i64 F.sy 1 }, 0) := by
      unfold syncD
      rw [if_neg ho, if_neg (by rw [actD_calm c.arms]; simp)]
    refine ⟨{ F with arms := F.arms.map (Ar.dec 3), waits := [], dur := F.seen, sy := addW .i64 F.sy 1 }, [], by rw [pf, w1, e00], fun _ => rfl, fun h => absurd h3 h, rfl, rfl, ?_⟩
    have ha := act_armed c.arms hon 3 6 [] (F := F)
    rw [pf]
    have w2 : syncD (armed1 F x) = if ¬ (actD (armed1 F x) 3 6 []).2 = 0 then actD (armed1 F x) 3 6 [] else
        ({ armed1 F x with arms := (armed1 F x).arms.map (Ar.dec 3), waits := [], dur := (armed1 F x).seen, sy := addW .i64 (armed1 F x).sy 1 }, 0) := by
      unfold syncD
      rw [if_neg ho']
    rw [w2, ha]
    have hd : x.dec 3 = x.less := by unfold Ar.dec; rw [if_pos (by rw [or_iff, eqI_iff]; exact .inl hon)]; rfl
    by_cases hl : x.less.left = 0
    · simp only [if_pos hl]
      by_cases hp : x.pw = true
      · simp only [if_pos hp]; rw [if_pos (by simp)]; rfl
      · simp only [if_neg hp]; rw [if_pos (by simp)]; rfl
    · simp only [if_neg hl]
      rw [if_neg (by simp)]
      simp [armed1, hd, eqI]

/-- A variable of our own. -/
def Th.loc (b : Nat) (cs : List Value) : Th := ⟨fun h => Blk h b (some b) cs, fun _ => False, fun y => y = b⟩
theorem Th.loc_stable (b : Nat) (cs : List Value) : (Th.loc b cs).stable := fun k hn o => k.blk o fun y hy => hn y (by simp at hy; exact hy.symm)
theorem Many.loc {h h' : Hp} {L : List Th} (m : Many h L) (k : Kept h h') {b : Nat} {cs : List Value} (hb : Blk h' b (some b) cs) (hn : h.next ≤ b) (wf' : Wf h') : Many h' (Th.loc b cs :: L) :=
  m.add k hb (Th.loc_stable _ _) (fun _ hy => hy.elim) (fun _ hy => hy.elim) (fun y hy => .inl (by have : y = b := hy; omega)) (fun y hy => by have : y = b := hy; have := hb.glt wf'; omega)
theorem Many.sub {h : Hp} {L L' : List Th} (m : Many h L) (s : L'.Sublist L) : Many h L' := ⟨fun t ht => m.at_ t (s.subset ht), m.sep.sublist s⟩

theorem Nx.op {h h' : Hp} {d g0 : Nat} {gs gd gw ga : Option Nat} {W R : Nat → Prop} {D' : Dk} (n : Nx h d g0 gs gd gw ga R D' h') (hW : ∀ y, W y ↔ own g0 gs gd gw ga y) : Op h d W R D' h' := by
  obtain ⟨gs', gd', gw', ga', R', s', dd', w', a', x', n1, n2, n3, n4, r, k⟩ := n
  refine ⟨_, R', DAt.of x', fun y hy => ?_, r, ⟨k.next, k.ro, fun b cs t g hb hg => k.rw b cs t g hb fun ho => hg ((hW g).mpr ho)⟩⟩
  rcases own_nw n1 n2 n3 n4 hy with hy | hy
  · exact .inl ((hW y).mpr hy)
  · exact .inr hy

theorem DAt.arm {h : Hp} {d : Nat} {W R : Nat → Prop} {D : Dk} {k M N : Nat} (x : DAt h d W R D) (fit : D.fit k M N) {G : Option Nat} {aa : Option Addr} {al ac : Nat} {Ls : List Ar} (sa : SlT Ar.enc4 4 h G aa al ac Ls) (hG : ∀ y, G = some y → ¬ W y)
    (hF : ∀ z ∈ Ls, ∃ Gz, (∀ y, Gz = some y → ¬ W y) ∧ SlT encF 1 h Gz z.fa z.fl z.fc z.fates) (hl : al ≤ 1048576) (hfl : ∀ z ∈ Ls, z.fates.length ≤ 8589934592) :
    C 44 [.pointer (some ⟨d, 0, none⟩), .slice aa al ac] h fun v h' => v = .int .i64 (armE D Ls) ∧ ∃ D', ArmTo D Ls D' ∧ Op h d W R D' h' := by
  obtain ⟨g0, gs, gd, gw, ga, s, dd, w, a, x, hW⟩ := x
  exact (c44 x fit sa (fun y hy ho => hG y hy ((hW y).mpr ho)) (fun z hz => by
    obtain ⟨Gz, q1, q2⟩ := hF z hz
    exact ⟨Gz, fun y hy ho => q1 y hy ((hW y).mpr ho), q2⟩) hl hfl).mono fun v h' ⟨e, D', ha, nx⟩ => ⟨e, D', ha, nx.op hW⟩

section
variable {h : Hp} {F1 F2 : FuncId} {d e : Nat} {L : List ByteArray}
/-- Two lists are told, and they are alike. -/
theorem two_alike (wf : Wf h) (c1 : ∀ {hh}, Kept h hh → C F1 [.pointer (some ⟨d, 0, none⟩)] hh (Cloned encS 1 hh L)) (c2 : ∀ {hh}, Kept h hh → C F2 [.pointer (some ⟨e, 0, none⟩)] hh (Cloned encS 1 hh L)) (hl : L.length ≤ 8589934592) {Z : Bool → Hp → Prop} (rest : ∀ h', Wf h' → Kept h h' → Z true h') :
    C F1 [.pointer (some ⟨d, 0, none⟩)] h fun v h' => ∃ a l c, v = Value.slice a l c ∧ C F2 [.pointer (some ⟨e, 0, none⟩)] h' fun v h' => ∃ a' l' c', v = Value.slice a' l' c' ∧ C 33 [Value.slice a l c, Value.slice a' l' c'] h' fun v h' => ∃ b, v = Value.bool b ∧ Z b h' := by
  refine (c1 (Keep.refl _ _)).wf fun v h1 wf1 _ ⟨s1, g1, e1, o1, _, k1⟩ => ⟨_, _, _, e1, ?_⟩
  refine (c2 k1).wf fun v h2 wf2 _ ⟨s2, g2, e2, o2, _, k2⟩ => ⟨_, _, _, e2, ?_⟩
  have o1' := o1.keep k2 fun _ _ hf => hf
  refine (c33 o1'.slT o2.slT (by rw [← o1'.2]; exact hl)).wf fun v h3 wf3 _ ⟨e3, e3'⟩ => ⟨_, e3, ?_⟩
  subst e3'
  simp only [decide_true]
  exact rest _ wf3 (k1.trans wf k2 fun _ _ hf => hf)

/-- The same, under a guard that holds. -/
theorem two_alike_if (wf : Wf h) {b : Bool} (hb : b = true) (c1 : ∀ {hh}, Kept h hh → C F1 [.pointer (some ⟨d, 0, none⟩)] hh (Cloned encS 1 hh L)) (c2 : ∀ {hh}, Kept h hh → C F2 [.pointer (some ⟨e, 0, none⟩)] hh (Cloned encS 1 hh L)) (hl : L.length ≤ 8589934592) {Z : Bool → Hp → Prop} (rest : ∀ h', Wf h' → Kept h h' → Z true h') :
    ∃ Q : Value → Hp → Prop, (b = true → C F1 [.pointer (some ⟨d, 0, none⟩)] h fun v h' => ∃ a l c, v = Value.slice a l c ∧ Q (Value.slice a l c) h') ∧ (b = false → ∃ a l c, Q (Value.slice a l c) h) ∧ ∀ a l c h', Q (Value.slice a l c) h' →
      ∃ Q : Value → Hp → Prop, (b = true → C F2 [.pointer (some ⟨e, 0, none⟩)] h' fun v h' => ∃ a l c, v = Value.slice a l c ∧ Q (Value.slice a l c) h') ∧ (b = false → ∃ a l c, Q (Value.slice a l c) h') ∧ ∀ a' l' c' h', Q (Value.slice a' l' c') h' →
        ∃ Q : Value → Hp → Prop, (b = true → C 33 [Value.slice a l c, Value.slice a' l' c'] h' fun v h' => ∃ b, v = Value.bool b ∧ Q (Value.bool b) h') ∧ (b = false → ∃ b, Q (Value.bool b) h') ∧ ∀ b' h', Q (Value.bool b') h' → Z b' h' := by
  subst hb
  refine ⟨fun v hh => (∃ s g, v = Sv.v s ∧ OwT encS 1 hh g s L) ∧ Wf hh ∧ Kept h hh, fun _ => ?_, fun hf => by simp at hf, ?_⟩
  · exact (c1 (Keep.refl _ _)).wf fun v h1 wf1 _ ⟨s', g', e, o, _, k'⟩ => ⟨_, _, _, e, ⟨s', g', rfl, o⟩, wf1, k'⟩
  rintro a l c h1 ⟨⟨s1, g1, e1, o1⟩, wf1, k1⟩
  simp at e1
  obtain ⟨rfl, rfl, rfl⟩ := e1
  refine ⟨fun v hh => (∃ s g, v = Sv.v s ∧ OwT encS 1 hh g s L) ∧ Wf hh ∧ Kept h1 hh, fun _ => ?_, fun hf => by simp at hf, ?_⟩
  · exact (c2 k1).wf fun v h2 wf2 _ ⟨s', g', e, o, _, k'⟩ => ⟨_, _, _, e, ⟨s', g', rfl, o⟩, wf2, k'⟩
  rintro a l c h2 ⟨⟨s2, g2, e2, o2⟩, wf2, k2⟩
  simp at e2
  obtain ⟨rfl, rfl, rfl⟩ := e2
  have o1' := o1.keep k2 fun _ _ hf => hf
  refine ⟨fun v hh => v = .bool true ∧ hh = h2, fun _ => ?_, fun hf => by simp at hf, ?_⟩
  · refine (c33 o1'.slT o2.slT (by rw [← o1'.2]; exact hl)).mono fun v hh ⟨e, e'⟩ => ⟨_, e, ?_, e'⟩
    simp
  rintro b' h3 ⟨e, rfl⟩
  simp at e; subst e
  exact rest _ wf2 (k1.trans wf k2 fun _ _ hf => hf)
end

theorem armed1_fit {k M N : Nat} {F : Dk} {x : Ar} (o : F.fit k M N) (hf : x.fates.length ≤ 8589934592) : (armed1 F x).fit k M N :=
  ⟨⟨o.ok.by_, o.ok.k0, o.ok.k1, o.ok.m1, o.ok.most, o.ok.seenS, o.ok.durS, o.ok.seenL, o.ok.durL, o.ok.waits⟩, by simp [armed1], by simpa [armed1] using hf, o.waits⟩

/-- The disk at which an arm was struck. -/
theorem struck_fit {k M N : Nat} {F F' : Dk} {x : Ar} {s : Stp} {adds : List Wt} (o : F.fit k M N) (so : s.ok) (hx : x.fates.length ≤ 8589934592) (st : Stepped F x s F' adds) (hl : x.less.left = 0) : (if x.pw = true then goesD { F with waits := F.waits ++ adds } x.fates else F).fit k M (N + 1) := by
  have := playD_fit (armed1_fit o hx) so
  rw [st.arm, if_pos hl] at this
  split
  · rename_i h; rw [if_pos h] at this; exact this
  · rename_i h; rw [if_neg h] at this; exact this
end Go.Proofs.Ytfkhjbfddeahaaa.kc
