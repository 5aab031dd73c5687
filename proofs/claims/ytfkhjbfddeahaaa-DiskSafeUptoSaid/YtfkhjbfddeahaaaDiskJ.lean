/- Contracts: Write, Grow, Sync, Crash, Wake, Read, Take and the numbers. -/
import Derived.Test.YtfkhjbfddeahaaaDiskI
set_option linter.unusedVariables false
namespace Go.Proofs.Ytfkhjbfddeahaaa.kc
open Go Go.Cn Go.Proofs Go.Proofs.Ytfkhjbfddeahaaa.vc

/-- All that is sound about a disk; N: how many may wait. -/
structure Dk.fit (k M N : Nat) (D : Dk) : Prop where
  ok : D.ok k M
  arms : D.arms.length ≤ 64
  fates : ∀ z ∈ D.arms, z.fates.length ≤ 8589934592
  waits : D.waits.length ≤ N

theorem new_one {α : Type} {enc : α → List Value} {w : Nat} (hw : ∀ x, (enc x).length = w) {h : Hp} {b : Nat} {g : Option Nat} {x : α} (hb : Blk h b g (enc x)) : SlT enc w h g (some ⟨b, 0, none⟩) 1 1 [x] :=
  ⟨⟨Nat.le_refl _, by simp [hw], .inl rfl, fun _ => ⟨_, hb, by rw [hw]; omega, by simp [← hw x]⟩⟩, rfl⟩

theorem actD_zero {D : Dk} {kind refused : Int} {adds : List Wt} (hr : refused ≠ 0) (h : (actD D kind refused adds).2 = 0) : (actD D kind refused adds).1 = { D with arms := D.arms.map (Ar.dec kind), waits := D.waits ++ adds } := by
  unfold actD at h ⊢
  split at h
  · rfl
  · split at h
    · simp at h
    · exact absurd h hr

theorem map_dec_fates (kind : Int) {L : List Ar} (h : ∀ z ∈ L, z.fates.length ≤ 8589934592) : ∀ z ∈ L.map (Ar.dec kind), z.fates.length ≤ 8589934592 := by
  intro z hz
  obtain ⟨z0, h0, rfl⟩ := List.mem_map.mp hz
  rw [(z0.dec_fa kind).2.2.2]; exact h z0 h0

theorem goesD_fit {k M N N' : Nat} {D : Dk} (o : D.fit k M N) (F : List Int) : (goesD D F).fit k M N' :=
  ⟨goesD_ok o.ok F, by simp [goesD], by simp [goesD], by simp [goesD]⟩

theorem Dk.fit.mono {k M N N' : Nat} {D : Dk} (o : D.fit k M N) (h : N ≤ N') : D.fit k M N' := ⟨o.ok, o.arms, o.fates, Nat.le_trans o.waits h⟩

theorem Dk.fit.re {k M N N' : Nat} {D : Dk} (o : D.fit k M N) {A : List Ar} {W : List Wt} (hA : A.length ≤ 64) (hF : ∀ z ∈ A, z.fates.length ≤ 8589934592) (hW : W.length ≤ N') (hg : ∀ x ∈ W, x.good k M) : Dk.fit k M N' { D with arms := A, waits := W } :=
  ⟨⟨o.ok.by_, o.ok.k0, o.ok.k1, o.ok.m1, o.ok.most, o.ok.seenS, o.ok.durS, o.ok.seenL, o.ok.durL, hg⟩, hA, hF, hW⟩

theorem actD_fit {k M N : Nat} {D : Dk} (o : D.fit k M N) {kind refused : Int} {adds : List Wt} (ha : ∀ x ∈ adds, x.good k M) : (actD D kind refused adds).1.fit k M (N + adds.length) := by
  have hml : (D.arms.map (Ar.dec kind)).length ≤ 64 := by rw [List.length_map]; exact o.arms
  have hmf := map_dec_fates kind o.fates
  have hW : (D.waits ++ adds).length ≤ N + adds.length := by rw [List.length_append]; have := o.waits; omega
  have hg : ∀ x ∈ D.waits ++ adds, x.good k M := fun y hy => by
    rcases List.mem_append.mp hy with hy | hy
    · exact o.ok.waits y hy
    · exact ha y hy
  have hfl : ((D.arms.map (Ar.dec kind)).filter nd).length ≤ 64 := Nat.le_trans (List.length_filter_le _ _) hml
  have hff : ∀ z ∈ (D.arms.map (Ar.dec kind)).filter nd, z.fates.length ≤ 8589934592 := fun z hz => hmf z (List.mem_filter.mp hz).1
  unfold actD
  split
  · exact o.re hml hmf hW hg
  · split
    · exact goesD_fit (o.re hfl hff hW hg) _
    · exact o.re hfl hff (by have := o.waits; omega) o.ok.waits

section
variable {h : Hp} {d g0 : Nat} {gs gd gw ga : Option Nat} {R : Nat → Prop} {D : Dk} {s dd w a : Sv}

/-- One cell of the record is written. -/
theorem DX.put (wf : Wf h) (x : DX h d g0 gs gd gw ga R D s dd w a) {o : Nat} {v : Value} (ho : o < 13) (hv : isCell v = true) {D' : Dk} (hc : (dcells D s dd w a).set o v = dcells D' s dd w a) (e1 : D'.seen = D.seen) (e2 : D'.dur = D.dur) (e3 : D'.waits = D.waits) (e4 : D'.arms = D.arms) :
    ∃ h', h.store d o [v] = some h' ∧ DX h' d g0 gs gd gw ga R D' s dd w a ∧ Keep (own g0 gs gd gw ga) h h' ∧ Wf h' := by
  obtain ⟨h', h1, h2, h3, h4, h5⟩ := x.blk.set (o := o) (v := v) (by simp [dcells]; omega) hv
  rw [hc] at h2
  exact ⟨h', h1, x.base h3 h2 e1 e2 e3 e4, h3.mono wf fun y _ hy => .inl hy, h5 wf⟩

/-- One page that is seen is written. -/
theorem DX.putSeen (wf : Wf h) (x : DX h d g0 gs gd gw ga R D s dd w a) {i : Nat} (hi : i < D.seen.length) (data : ByteArray) :
    s.a.isSome = true ∧ ∃ h', h.store (Go.Cn.blk s.a) (off s.a + i) [.string data] = some h' ∧ DX h' d g0 gs gd gw ga R { D with seen := D.seen.set i data } s dd w a ∧ Keep (own g0 gs gd gw ga) h h' ∧ Wf h' := by
  have hl := x.seen.2
  obtain ⟨i1, h', h1, h2, h3, h4, h5⟩ := x.seen.1.store (i := i) (vs := [.string data]) (by simp; omega) (by omega) rfl
  have b1 : Blk h' d (some g0) (dcells D s dd w a) := h3.blk x.blk fun y hy he => x.a1 y hy he
  have o1 : OwT encS 1 h' gs s (D.seen.set i data) := by
    rcases flatS_set D.seen i data with h8 | h8
    · rw [h8] at h2; exact ⟨h2, by rw [List.length_set]; exact hl⟩
    · omega
  exact ⟨i1, h', h1, x.setSeen wf h3 o1 Nw.same (Keep.refl _ _) b1, h3.mono wf fun y _ hy => .inr (.inl hy), h5 wf⟩

/-- Nx of a DX at the end of changes of its own. -/
theorem DX.nx_own (x : DX h d g0 gs gd gw ga R D s dd w a) {h' : Hp} {D' : Dk} {s' dd' w' a' : Sv} (x' : DX h' d g0 gs gd gw ga R D' s' dd' w' a') (k : Keep (own g0 gs gd gw ga) h h') : Nx h d g0 gs gd gw ga R D' h' :=
  ⟨gs, gd, gw, ga, R, s', dd', w', a', x', Nw.same, Nw.same, Nw.same, Nw.same, fun _ h => .inl h, k⟩

def liveE (D : Dk) : Int := if D.off = true then 7 else 0

/-- Write. -/
def writeD (D : Dk) (no : Int) (data : ByteArray) : Dk × Int :=
  if D.off = true then (D, 7) else
  if ¬ no < D.seen.length then (D, 41) else
  if ¬ (data.size : Int) = D.bytes then (D, 2) else
  if ¬ (actD D 1 6 [⟨1, no, 0, data⟩]).2 = 0 then actD D 1 6 [⟨1, no, 0, data⟩] else
  ({ D with arms := D.arms.map (Ar.dec 1), waits := D.waits ++ [⟨1, no, 0, data⟩], seen := D.seen.set no.toNat data, wr := addW .i64 D.wr 1 }, 0)

theorem c54 {k M N : Nat} (x : DX h d g0 gs gd gw ga R D s dd w a) (fit : D.fit k M N) (hN : N ≤ 8589934591) {no : Int} (hno : 0 ≤ no ∧ no < 4294967296) {data : ByteArray} :
    C 54 [.pointer (some ⟨d, 0, none⟩), .int .u32 no, .string data] h fun v h' => v = .int .i64 (writeD D no data).2 ∧ Nx h d g0 gs gd gw ga R (writeD D no data).1 h' := by
  refine SCalls_of_vw fol (pf := pf) (shp := shp54) (f := 54) (fn := Try.f54) (by kernel_rfl) (c := Try.f54.body.getD .skip) (by kernel_rfl) (by kernel_rfl) fun wf => ?_
  rw [vc54]
  have ok := fit.ok
  have hsl := x.seen.2
  have hm1 := ok.m1
  have hsM := ok.seenL
  refine (c62 x ok.pos).mono fun v h' ⟨e, e'⟩ => ⟨_, e, ?_⟩
  subst e'
  by_cases ho : D.off = true
  · rw [if_pos ho, if_pos (by rfl)]
    have : writeD D no data = (D, 7) := by unfold writeD; rw [if_pos ho]
    rw [this]; exact ⟨rfl, x.nx⟩
  rw [if_neg ho, if_neg (by rw [neI_iff]; simp)]
  refine ⟨rfl, rfl, (c92 x.blk (o := 0) rfl hno (by omega)).mono fun v h' ⟨e, e'⟩ => ⟨_, e, ?_⟩⟩
  subst e'
  by_cases hb : no < s.l
  rotate_left
  · rw [decide_eq_false hb, if_pos (by rfl)]
    have : writeD D no data = (D, 41) := by unfold writeD; rw [if_neg ho, if_pos (by rw [hsl]; exact hb)]
    rw [this]; exact ⟨rfl, x.nx⟩
  rw [decide_eq_true hb, if_neg (by simp [notB])]
  refine ⟨rfl, rfl, rfl, D.bytes, ⟨rfl, x.blk.one rfl⟩, ?_⟩
  by_cases hs : (data.size : Int) = D.bytes
  rotate_left
  · rw [if_pos (by rw [neI_iff]; exact hs)]
    have : writeD D no data = (D, 2) := by unfold writeD; rw [if_neg ho, if_neg (by rw [hsl]; exact not_not_intro hb), if_pos hs]
    rw [this]; exact ⟨rfl, x.nx⟩
  rw [if_neg (by rw [neI_iff]; exact not_not_intro hs)]
  intro h1 e1
  obtain ⟨b1, k1, n1, wf1⟩ := new_blk wf e1
  have x1 := x.kept k1
  obtain ⟨l0, l1, l2, l3, l4⟩ := x.lts wf
  have hgood : ∀ y ∈ [Wt.mk 1 no 0 data], y.good k M := by
    intro y hy; simp at hy; subst hy
    refine .inl ⟨rfl, hno.1, by simp only; omega, ?_⟩
    have := ok.by_; simp only; omega
  refine (c73 x1 ok (new_one Wt.w (x := ⟨1, no, 0, data⟩) b1) (fun y hy => ?_) fit.arms fit.fates (by have := fit.waits; simp; omega) hgood).wf fun v h2 wf2 _ ⟨e, nx⟩ => ⟨_, e, ?_⟩
  · simp at hy; subst hy
    refine ⟨fun ho => ?_, by omega⟩
    rcases ho with ho | ho | ho | ho | ho
    · omega
    · have := l1 _ ho; omega
    · have := l2 _ ho; omega
    · have := l3 _ ho; omega
    · have := l4 _ ho; omega
  by_cases he : (actD D 1 6 [⟨1, no, 0, data⟩]).2 = 0
  rotate_left
  · rw [if_pos (by rw [neI_iff]; exact he)]
    have : writeD D no data = actD D 1 6 [⟨1, no, 0, data⟩] := by unfold writeD; rw [if_neg ho, if_neg (by rw [hsl]; exact not_not_intro hb), if_neg (not_not_intro hs), if_pos he]
    rw [this]; exact ⟨rfl, Nx.after wf k1 nx⟩
  rw [if_neg (by rw [neI_iff]; exact not_not_intro he)]
  have hw : writeD D no data = ({ D with arms := D.arms.map (Ar.dec 1), waits := D.waits ++ [⟨1, no, 0, data⟩], seen := D.seen.set no.toNat data, wr := addW .i64 D.wr 1 }, 0) := by
    unfold writeD; rw [if_neg ho, if_neg (by rw [hsl]; exact not_not_intro hb), if_neg (not_not_intro hs), if_neg (not_not_intro he)]
  rw [hw]
  rw [actD_zero (by omega) he] at nx
  obtain ⟨gs2, gd2, gw2, ga2, R2, s2, dd2, w2, a2, x2, m1, m2, m3, m4, r2, k2⟩ := nx
  have hs2 : D.seen.length = s2.l := x2.seen.2
  obtain ⟨i1, h3, e3, x3, k3, wf3⟩ := x2.putSeen wf2 (i := no.toNat) (by simp only; omega) data
  obtain ⟨h4, e4, x4, k4, wf4⟩ := x3.put wf3 (o := 10) (v := .int .i64 (addW .i64 D.wr 1)) (D' := { D with arms := D.arms.map (Ar.dec 1), waits := D.waits ++ [⟨1, no, 0, data⟩], seen := D.seen.set no.toNat data, wr := addW .i64 D.wr 1 }) (by omega) rfl rfl rfl rfl rfl rfl
  have hofs : plusI (off s2.a) no 1 = off s2.a + no.toNat := by simp [plusI]
  refine ⟨rfl, rfl, rfl, s2.a, s2.l, s2.c, ⟨rfl, x2.blk.one rfl⟩, ⟨i1, by simp only [inR]; omega⟩, rfl, h3, by rw [hofs]; exact e3, rfl, rfl, rfl, D.wr, ⟨rfl, x3.blk.one rfl⟩, rfl, rfl, rfl, rfl, h4, e4, rfl, ?_⟩
  exact Nx.after wf k1 (Nx.pre wf1 m1 m2 m3 m4 r2 k2 (x2.nx_own x4 (k3.trans wf2 k4 fun _ _ hy => hy)))

/-- Grow. -/
def growD (D : Dk) (n : Int) : Dk × Int :=
  if D.off = true then (D, 7) else
  if n < 1 then (D, 2) else
  if n > D.most - D.seen.length then (D, 5) else
  if ¬ (actD D 2 5 [⟨2, 0, D.seen.length + n, ⟨#[]⟩⟩]).2 = 0 then actD D 2 5 [⟨2, 0, D.seen.length + n, ⟨#[]⟩⟩] else
  ({ D with arms := D.arms.map (Ar.dec 2), waits := D.waits ++ [⟨2, 0, D.seen.length + n, ⟨#[]⟩⟩], seen := stretchL D.bytes D.seen (D.seen.length + n), gr := addW .i64 D.gr 1 }, 0)

theorem c53 {k M N : Nat} (x : DX h d g0 gs gd gw ga R D s dd w a) (fit : D.fit k M N) (hN : N ≤ 8589934591) {n : Int} (hn : n < 9223372036854775808) :
    C 53 [.pointer (some ⟨d, 0, none⟩), .int .i64 n] h fun v h' => v = .int .i64 (growD D n).2 ∧ Nx h d g0 gs gd gw ga R (growD D n).1 h' := by
  refine SCalls_of_vw fol (pf := pf) (shp := shp53) (f := 53) (fn := Try.f53) (by kernel_rfl) (c := Try.f53.body.getD .skip) (by kernel_rfl) (by kernel_rfl) fun wf => ?_
  rw [vc53]
  have ok := fit.ok
  have hsl := x.seen.2
  have hm1 := ok.m1
  have hsM := ok.seenL
  have hmost := ok.most
  refine (c62 x ok.pos).mono fun v h' ⟨e, e'⟩ => ⟨_, e, ?_⟩
  subst e'
  by_cases ho : D.off = true
  · rw [if_pos ho, if_pos (by rfl)]
    have : growD D n = (D, 7) := by unfold growD; rw [if_pos ho]
    rw [this]; exact ⟨rfl, x.nx⟩
  rw [if_neg ho, if_neg (by rw [neI_iff]; simp)]
  by_cases h1 : n < 1
  · rw [if_pos (ltI_iff.mpr h1)]
    have : growD D n = (D, 2) := by unfold growD; rw [if_neg ho, if_pos h1]
    rw [this]; exact ⟨rfl, x.nx⟩
  rw [if_neg (by rw [ltI_iff]; exact h1)]
  refine ⟨rfl, rfl, D.most, ⟨rfl, x.blk.one rfl⟩, (c57 x ok.pos).mono fun v h' ⟨e, e'⟩ => ⟨_, e, ⟨rfl, by subst e'; exact x.blk.one rfl⟩, ?_⟩⟩
  subst e'
  rw [subW_small (by simp only [natI]; omega) (by simp only [natI]; omega), natI_eq]
  by_cases h2 : n > D.most - D.seen.length
  · rw [if_pos (gtI_iff.mpr h2)]
    have : growD D n = (D, 5) := by unfold growD; rw [if_neg ho, if_neg h1, if_pos h2]
    rw [this]; exact ⟨rfl, x.nx⟩
  rw [if_neg (by rw [gtI_iff]; exact h2)]
  refine (c57 x ok.pos).mono fun v h' ⟨e, e'⟩ => ⟨_, e, ?_⟩
  subst e'
  rw [addW_small (by simp only [natI]; omega) (by simp only [natI]; omega), natI_eq]
  intro h1' e1
  obtain ⟨b1, k1, n1, wf1⟩ := new_blk wf e1
  have x1 := x.kept k1
  obtain ⟨l0, l1, l2, l3, l4⟩ := x.lts wf
  have hgood : ∀ y ∈ [Wt.mk 2 0 (D.seen.length + n) ⟨#[]⟩], y.good k M := by
    intro y hy; simp at hy; subst hy
    exact .inr ⟨rfl, by simp only; omega, by simp only; omega⟩
  refine (c73 x1 ok (new_one Wt.w (x := ⟨2, 0, D.seen.length + n, ⟨#[]⟩⟩) b1) (fun y hy => ?_) fit.arms fit.fates (by have := fit.waits; simp; omega) hgood).wf fun v h2 wf2 _ ⟨e, nx⟩ => ⟨_, e, ?_⟩
  · simp at hy; subst hy
    refine ⟨fun ho => ?_, by omega⟩
    rcases ho with ho | ho | ho | ho | ho
    · omega
    · have := l1 _ ho; omega
    · have := l2 _ ho; omega
    · have := l3 _ ho; omega
    · have := l4 _ ho; omega
  by_cases he : (actD D 2 5 [⟨2, 0, D.seen.length + n, ⟨#[]⟩⟩]).2 = 0
  rotate_left
  · rw [if_pos (by rw [neI_iff]; exact he)]
    have : growD D n = actD D 2 5 [⟨2, 0, D.seen.length + n, ⟨#[]⟩⟩] := by unfold growD; rw [if_neg ho, if_neg h1, if_neg (by omega), if_pos he]
    rw [this]; exact ⟨rfl, Nx.after wf k1 nx⟩
  rw [if_neg (by rw [neI_iff]; exact not_not_intro he)]
  have hw : growD D n = ({ D with arms := D.arms.map (Ar.dec 2), waits := D.waits ++ [⟨2, 0, D.seen.length + n, ⟨#[]⟩⟩], seen := stretchL D.bytes D.seen (D.seen.length + n), gr := addW .i64 D.gr 1 }, 0) := by
    unfold growD; rw [if_neg ho, if_neg h1, if_neg (by omega), if_neg (not_not_intro he)]
  rw [hw]
  rw [actD_zero (by omega) he] at nx
  obtain ⟨gs2, gd2, gw2, ga2, R2, s2, dd2, w2, a2, x2, m1, m2, m3, m4, r2, k2⟩ := nx
  have hby := ok.by_
  have hk1 := ok.k1
  refine ⟨rfl, rfl, (c91 x2.blk (o := 0) rfl rfl x2.seen x2.a1 (by simp only; omega) (by omega) (by simp only; omega)).wf fun v h3 wf3 _ ⟨e, gs3, s3, b3, o3, nw3, k3⟩ => ⟨e, ?_⟩⟩
  have x3 := x2.setSeen2 wf2 k3 o3 nw3 b3
  have k3' : Keep (own g0 gs2 gd2 gw2 ga2) h2 h3 := k3.mono wf2 fun y _ hy => by rcases hy with hy | hy; exact .inl hy; exact .inr (.inl hy)
  obtain ⟨h4, e4, x4, k4, wf4⟩ := x3.put wf3 (o := 11) (v := .int .i64 (addW .i64 D.gr 1)) (D' := { D with arms := D.arms.map (Ar.dec 2), waits := D.waits ++ [⟨2, 0, D.seen.length + n, ⟨#[]⟩⟩], seen := stretchL D.bytes D.seen (D.seen.length + n), gr := addW .i64 D.gr 1 }) (by omega) rfl rfl rfl rfl rfl rfl
  refine ⟨rfl, rfl, rfl, D.gr, ⟨rfl, x3.blk.one rfl⟩, rfl, rfl, rfl, rfl, h4, e4, rfl, ?_⟩
  refine Nx.after wf k1 (Nx.pre wf1 m1 m2 m3 m4 r2 k2 ?_)
  exact Nx.pre wf2 nw3 Nw.same Nw.same Nw.same (fun y hy => .inl hy) k3' (x3.nx_own x4 k4)

/-- Sync. -/
def syncD (D : Dk) : Dk × Int :=
  if D.off = true then (D, 7) else
  if ¬ (actD D 3 6 []).2 = 0 then actD D 3 6 [] else
  ({ D with arms := D.arms.map (Ar.dec 3), waits := [], dur := D.seen, sy := addW .i64 D.sy 1 }, 0)

theorem c46 {k M N : Nat} (x : DX h d g0 gs gd gw ga R D s dd w a) (fit : D.fit k M N) (hN : N ≤ 8589934591) :
    C 46 [.pointer (some ⟨d, 0, none⟩)] h fun v h' => v = .int .i64 (syncD D).2 ∧ Nx h d g0 gs gd gw ga R (syncD D).1 h' := by
  refine SCalls_of_vw fol (pf := pf) (shp := shp46) (f := 46) (fn := Try.f46) (by kernel_rfl) (c := Try.f46.body.getD .skip) (by kernel_rfl) (by kernel_rfl) fun wf => ?_
  rw [vc46]
  have ok := fit.ok
  have hm1 := ok.m1
  have hsM := ok.seenL
  refine (c62 x ok.pos).mono fun v h' ⟨e, e'⟩ => ⟨_, e, ?_⟩
  subst e'
  by_cases ho : D.off = true
  · rw [if_pos ho, if_pos (by rfl)]
    have : syncD D = (D, 7) := by unfold syncD; rw [if_pos ho]
    rw [this]; exact ⟨rfl, x.nx⟩
  rw [if_neg ho, if_neg (by rw [neI_iff]; simp)]
  refine (c73 x ok (SlT.nil h' none) (fun y hy => by simp at hy) fit.arms fit.fates (by have := fit.waits; simp; omega) (by simp)).wf fun v h2 wf2 _ ⟨e, nx⟩ => ⟨_, e, ?_⟩
  by_cases he : (actD D 3 6 []).2 = 0
  rotate_left
  · rw [if_pos (by rw [neI_iff]; exact he)]
    have : syncD D = actD D 3 6 [] := by unfold syncD; rw [if_neg ho, if_pos he]
    rw [this]; exact ⟨rfl, nx⟩
  rw [if_neg (by rw [neI_iff]; exact not_not_intro he)]
  have hw : syncD D = ({ D with arms := D.arms.map (Ar.dec 3), waits := [], dur := D.seen, sy := addW .i64 D.sy 1 }, 0) := by
    unfold syncD; rw [if_neg ho, if_neg (not_not_intro he)]
  rw [hw]
  rw [actD_zero (by omega) he] at nx
  obtain ⟨gs2, gd2, gw2, ga2, R2, s2, dd2, w2, a2, x2, m1, m2, m3, m4, r2, k2⟩ := nx
  have hs2 : D.seen.length = s2.l := x2.seen.2
  refine ⟨rfl, rfl, rfl, s2.a, s2.l, s2.c, ⟨rfl, x2.blk.one rfl⟩, (c59 x2.seen.slT (by omega)).wf fun v h3 wf3 _ ⟨s3, g3, e, o3, n3, k3⟩ => ⟨s3.a, s3.l, s3.c, e, ?_⟩⟩
  have x3 := x2.kept k3
  obtain ⟨h4, e4, b4, k4, n4, w4⟩ := x3.blk.set (o := 3) (v := s3.v) (by simp [dcells]) rfl
  have wf4 := w4 wf3
  have nw3 : Nw h2 g3 gd2 := by rcases n3 with n | n; exact .inr (.inl n); exact .inr (.inr n)
  have x4 := x2.setDur wf2 (k3.mono wf2 fun _ _ hf => hf.elim) o3 nw3 k4 b4
  obtain ⟨h5, e5, b5, k5, n5, w5⟩ := x4.blk.set (o := 6) (v := .slice none 0 0) (by simp [dcells]) rfl
  have wf5 := w5 wf4
  have x5 := x4.setWaits wf4 (Keep.refl _ _) (OwT.nil (enc := Wt.enc) (w := 4)) (.inr (.inl rfl)) k5 b5
  obtain ⟨h6, e6, x6, k6, wf6⟩ := x5.put wf5 (o := 12) (v := .int .i64 (addW .i64 D.sy 1)) (D' := { D with arms := D.arms.map (Ar.dec 3), waits := [], dur := D.seen, sy := addW .i64 D.sy 1 }) (by omega) rfl rfl rfl rfl rfl rfl
  refine ⟨rfl, rfl, rfl, rfl, h4, e4, rfl, rfl, rfl, h5, e5, rfl, rfl, rfl, D.sy, ⟨rfl, x5.blk.one rfl⟩, rfl, rfl, rfl, rfl, h6, e6, rfl, ?_⟩
  refine Nx.pre wf m1 m2 m3 m4 r2 k2 ?_
  have k24 : Keep (own g0 gs2 gd2 gw2 ga2) h2 h4 := (k3.mono wf2 (S' := own g0 gs2 gd2 gw2 ga2) fun _ _ hf => hf.elim).trans wf2 k4 fun y _ hy => .inl hy
  refine Nx.pre wf2 Nw.same nw3 Nw.same Nw.same (fun y hy => .inl hy) k24 ?_
  have k45 : Keep (own g0 gs2 g3 gw2 ga2) h4 h5 := k5.mono wf4 fun y _ hy => .inl hy
  exact Nx.pre wf4 Nw.same Nw.same (.inr (.inl rfl)) Nw.same (fun y hy => .inl hy) k45 (x5.nx_own x6 k6)
end
end Go.Proofs.Ytfkhjbfddeahaaa.kc
