/- Contracts: goes. -/
import Derived.Test.YtfkhjbfddeahaaaDiskE
set_option linter.unusedVariables false
namespace Go.Proofs.Ytfkhjbfddeahaaa.kc
open Go Go.Cn Go.Proofs Go.Proofs.Ytfkhjbfddeahaaa.vc

section
variable {h : Hp} {d g0 : Nat} {gs gd gw ga : Option Nat} {R : Nat → Prop} {D : Dk} {s dd w a : Sv}

/-- The durable pages and the record were changed together. -/
theorem DX.setDur2 (wf : Wf h) (x : DX h d g0 gs gd gw ga R D s dd w a) {h2 : Hp} {gd' : Option Nat} {dd' : Sv} {L : List ByteArray} (k : Keep (fun y => y = g0 ∨ gd = some y) h h2) (o : OwT encS 1 h2 gd' dd' L) (n : Nw h gd' gd)
    (hb : Blk h2 d (some g0) (dcells { D with dur := L } s dd' w a)) : DX h2 d g0 gs gd' gw ga R { D with dur := L } s dd' w a := by
  obtain ⟨l0, l1, l2, l3, l4⟩ := x.lts wf
  have m : ∀ {g : Option Nat}, Ap (some g0) g → Ap gd g → ∀ y, g = some y → ¬ (y = g0 ∨ gd = some y) := by
    intro g ha hb y hy he
    rcases he with he | he
    · exact ha g0 rfl (by rw [hy, he])
    · exact hb y he hy
  have c1 := n.ap (x := some g0) (by simpa using l0) x.a2
  refine ⟨hb, x.seen.keep k (m x.a1 x.a5.symm), o, x.waits.keep k (m x.a3 x.a8), x.arms.keep k (m x.a4 x.a9), fun z hz => ?_,
    x.a1, c1, x.a3, x.a4, n.ap l1 x.a5, x.a6, x.a7, (n.ap l3 x.a8.symm).symm, (n.ap l4 x.a9.symm).symm, x.a10, fun y hy => ?_, fun y hy => Nat.lt_of_lt_of_le (x.rlt y hy) k.next⟩
  · obtain ⟨G, hG, sG⟩ := x.fates z hz
    exact ⟨G, hG, sG.keep k fun y hy he => by
      rcases he with he | he
      · exact (x.ro y (hG y hy)).1 he
      · exact (x.ro y (hG y hy)).2.2.1 he⟩
  · obtain ⟨r0, r1, r2, r3, r4⟩ := x.ro y hy
    refine ⟨r0, r1, ?_, r3, r4⟩
    rcases n with rfl | rfl | ⟨z, rfl, hz⟩
    · exact r2
    · simp
    · have := x.rlt y hy; simp; omega

theorem DX.setSeen2 (wf : Wf h) (x : DX h d g0 gs gd gw ga R D s dd w a) {h2 : Hp} {gs' : Option Nat} {s' : Sv} {L : List ByteArray} (k : Keep (fun y => y = g0 ∨ gs = some y) h h2) (o : OwT encS 1 h2 gs' s' L) (n : Nw h gs' gs)
    (hb : Blk h2 d (some g0) (dcells { D with seen := L } s' dd w a)) : DX h2 d g0 gs' gd gw ga R { D with seen := L } s' dd w a := by
  obtain ⟨l0, l1, l2, l3, l4⟩ := x.lts wf
  have m : ∀ {g : Option Nat}, Ap (some g0) g → Ap gs g → ∀ y, g = some y → ¬ (y = g0 ∨ gs = some y) := by
    intro g ha hb y hy he
    rcases he with he | he
    · exact ha g0 rfl (by rw [hy, he])
    · exact hb y he hy
  have c1 := n.ap (x := some g0) (by simpa using l0) x.a1
  refine ⟨hb, o, x.dur.keep k (m x.a2 x.a5), x.waits.keep k (m x.a3 x.a6), x.arms.keep k (m x.a4 x.a7), fun z hz => ?_,
    c1, x.a2, x.a3, x.a4, (n.ap l2 x.a5.symm).symm, (n.ap l3 x.a6.symm).symm, (n.ap l4 x.a7.symm).symm, x.a8, x.a9, x.a10, fun y hy => ?_, fun y hy => Nat.lt_of_lt_of_le (x.rlt y hy) k.next⟩
  · obtain ⟨G, hG, sG⟩ := x.fates z hz
    exact ⟨G, hG, sG.keep k fun y hy he => by
      rcases he with he | he
      · exact (x.ro y (hG y hy)).1 he
      · exact (x.ro y (hG y hy)).2.1 he⟩
  · obtain ⟨r0, r1, r2, r3, r4⟩ := x.ro y hy
    refine ⟨r0, ?_, r2, r3, r4⟩
    rcases n with rfl | rfl | ⟨z, rfl, hz⟩
    · exact r1
    · simp
    · have := x.rlt y hy; simp; omega
end

/-- What is sound about a disk: k: an eighth of a page; M: how many pages there are at most. -/
structure Dk.ok (k M : Nat) (D : Dk) : Prop where
  by_ : D.bytes = ((8 * k : Nat) : Int)
  k0 : 0 < k
  k1 : k ≤ 131072
  m1 : M ≤ 65536
  most : D.most = (M : Int)
  seenS : ∀ x ∈ D.seen, x.size = 8 * k
  durS : ∀ x ∈ D.dur, x.size = 8 * k
  seenL : D.seen.length ≤ M
  durL : D.dur.length ≤ M
  waits : ∀ x ∈ D.waits, (x.act = 1 ∧ 0 ≤ x.page ∧ x.page < M ∧ x.data.size = 8 * k) ∨ (x.act = 2 ∧ 0 ≤ x.pages ∧ x.pages ≤ M)

theorem Dk.ok.pos {k M : Nat} {D : Dk} (o : D.ok k M) : 0 < D.bytes := by rw [o.by_]; have := o.k0; omega

def goStep (bytes : Int) (F : List Int) (i : Nat) (x : Wt) (L : List ByteArray) : List ByteArray :=
  match F[i]? with
  | none => L
  | some f => if f = 0 then L else if x.act = 2 then stretchL bytes L x.pages else layL bytes L x.page x.data f
def goN (bytes : Int) (F : List Int) (ws : List Wt) (dur : List ByteArray) : Nat → List ByteArray
  | 0 => dur
  | n + 1 => match ws[n]? with
    | some x => goStep bytes F n x (goN bytes F ws dur n)
    | none => goN bytes F ws dur n
def goesD (D : Dk) (F : List Int) : Dk :=
  let L := goN D.bytes F D.waits D.dur D.waits.length
  { D with dur := L, seen := L, waits := [], arms := [], off := true, taken := addW .i64 D.taken 1 }

theorem laySec_size {k : Nat} {f : Int} {data old : ByteArray} (hk : 0 < k) (ho : old.size = 8 * k) : (laySec ((8 * k : Nat) : Int) f data old).size = 8 * k := by
  have h1 : old.data.toList.length = 8 * k := by
    have : old.data.toList.length = old.size := Array.length_toList
    omega
  unfold laySec ofBytes
  show (layN _ f data.data.toList 8 old.data.toList).toArray.size = _
  rw [List.size_toArray, layN_len, h1]
  rw [h1, Int.toNat_natCast]; have : 8 * k / 8 = k := by omega
  rw [this]; exact Nat.le_refl _

theorem stretchL_ok {k M : Nat} {L : List ByteArray} {n : Int} (hs : ∀ x ∈ L, x.size = 8 * k) (hl : L.length ≤ M) (hn : n ≤ M) : (∀ x ∈ stretchL ((8 * k : Nat) : Int) L n, x.size = 8 * k) ∧ (stretchL ((8 * k : Nat) : Int) L n).length ≤ M := by
  unfold stretchL
  refine ⟨fun x hx => ?_, by rw [List.length_append, List.length_replicate]; omega⟩
  rcases List.mem_append.mp hx with hx | hx
  · exact hs x hx
  · rw [(List.mem_replicate.mp hx).2, zeros_size]; exact Int.toNat_natCast _

theorem layL_ok {k M : Nat} {L : List ByteArray} {no f : Int} {data : ByteArray} (hk : 0 < k) (hs : ∀ x ∈ L, x.size = 8 * k) (hl : L.length ≤ M) (h0 : 0 ≤ no) (hn : no < M) :
    (∀ x ∈ layL ((8 * k : Nat) : Int) L no data f, x.size = 8 * k) ∧ (layL ((8 * k : Nat) : Int) L no data f).length ≤ M := by
  unfold layL
  split
  · exact ⟨hs, hl⟩
  · obtain ⟨s1, s2⟩ := stretchL_ok (n := no + 1) hs hl (by omega)
    have hlen : no.toNat < (stretchL ((8 * k : Nat) : Int) L (no + 1)).length := by unfold stretchL; rw [List.length_append, List.length_replicate]; omega
    refine ⟨fun x hx => ?_, by rw [List.length_set]; exact s2⟩
    rcases List.mem_or_eq_of_mem_set hx with hx | hx
    · exact s1 x hx
    · rw [hx, List.getElem?_eq_getElem hlen, Option.getD_some]
      exact laySec_size hk (s1 _ (List.getElem_mem hlen))

theorem goN_ok {k M : Nat} {D : Dk} (o : D.ok k M) (F : List Int) : ∀ n, (∀ x ∈ goN D.bytes F D.waits D.dur n, x.size = 8 * k) ∧ (goN D.bytes F D.waits D.dur n).length ≤ M
  | 0 => ⟨o.durS, o.durL⟩
  | n + 1 => by
    have ih := goN_ok o F n
    unfold goN
    split
    · rename_i x hx
      have hw := o.waits x (List.mem_of_getElem? hx)
      unfold goStep
      split
      · exact ih
      · split
        · exact ih
        · rw [o.by_] at ih ⊢
          split
          · rename_i h2
            rcases hw with ⟨h1, _⟩ | ⟨_, h3, h4⟩
            · omega
            · exact stretchL_ok ih.1 ih.2 h4
          · rename_i h2
            rcases hw with ⟨_, h3, h4, h5⟩ | ⟨h1, _⟩
            · exact layL_ok o.k0 ih.1 ih.2 h3 h4
            · omega
    · exact ih

theorem goesD_ok {k M : Nat} {D : Dk} (o : D.ok k M) (F : List Int) : (goesD D F).ok k M := by
  obtain ⟨h1, h2⟩ := goN_ok o F D.waits.length
  exact ⟨o.by_, o.k0, o.k1, o.m1, o.most, h1, h1, h2, h2, by simp [goesD]⟩

section
variable {h : Hp} {d g0 : Nat} {gs gd gw ga : Option Nat} {R : Nat → Prop} {D : Dk} {s dd w a : Sv}

/-- goes. -/
theorem c63 {k M : Nat} (x : DX h d g0 gs gd gw ga R D s dd w a) (ok : D.ok k M) {G : Option Nat} {fa : Option Addr} {fl fc : Nat} {F : List Int} (sf : SlT encF 1 h G fa fl fc F) (hG : ∀ y, G = some y → ¬ own g0 gs gd gw ga y ∧ y < h.next) (hfl : fl ≤ 8589934592) (hw : D.waits.length ≤ 8589934592) :
    C 63 [.pointer (some ⟨d, 0, none⟩), .slice fa fl fc] h fun v h' => v = .tuple #[] ∧ Nx h d g0 gs gd gw ga R (goesD D F) h' := by
  refine SCalls_of_vw fol (pf := pf) (shp := shp63) (f := 63) (fn := Try.f63) (by kernel_rfl) (c := Try.f63.body.getD .skip) (by kernel_rfl) (by kernel_rfl) fun wf => ?_
  rw [vc63]
  have b := x.blk
  refine ⟨rfl, rfl, w.a, w.l, w.c, ⟨rfl, b.one rfl⟩, ?_⟩
  refine ⟨fun vals m hh => ∃ (i : Nat) (gd' : Option Nat) (dd' : Sv), [.int .i64 i] = vals ∧ i ≤ w.l ∧ m = w.l - i ∧ Wf hh ∧ DX hh d g0 gs gd' gw ga R { D with dur := goN D.bytes F D.waits D.dur i } s dd' w a ∧ Nw h gd' gd ∧ Keep (fun y => y = g0 ∨ gd = some y) h hh,
    ⟨w.l, 0, gd, dd, rfl, Nat.zero_le _, rfl, wf, x, Nw.same, Keep.refl _ _⟩, ?_⟩
  rintro n m hh ⟨i, gd', dd', e, hi, rfl, wf1, x1, nw1, k1⟩
  simp at e; subst e
  have hwl := x.waits.2
  have hFl := sf.len
  have b1 := x1.blk
  split
  · rename_i hlt
    have hlt : i < w.l := by rw [ltI_iff] at hlt; simp only [natI] at hlt; omega
    have hz : D.waits[i]? = some (D.waits[i]'(by omega)) := List.getElem?_eq_getElem _
    generalize D.waits[i]'(by omega) = z at hz
    have hzok := ok.waits z (List.mem_of_getElem? hz)
    obtain ⟨i1, i2⟩ := x1.waits.slT.get Wt.w hz (j := 0) (m := 4) (by omega)
    refine ⟨⟨i1, by simp [inR]; omega⟩, z.act, z.page, z.pages, z.data, ⟨rfl, i2.trans rfl⟩, ?_⟩
    intro h2 e2
    obtain ⟨b2, k2, n2, wf2⟩ := new_blk wf1 e2
    obtain ⟨h3, e3, b3, k3, _, n3, wf3⟩ := set_blk wf2 b2 k2 wf1 (Nat.le_refl _) (vs := z.enc) rfl rfl
    have x3 := x1.kept k3
    have k03 : Keep (fun y => y = g0 ∨ gd = some y) h h3 := k1.trans wf k3 fun _ _ hf => hf.elim
    have sf3 : SlT encF 1 h3 G fa fl fc F := sf.keep k03 fun y hy he => (hG y hy).1 (by rcases he with he | he; exact .inl he; exact .inr (.inr (.inl he)))
    refine ⟨rfl, h3, e3, ?_⟩
    have next : addW .i64 (i : Int) 1 = ((i + 1 : Nat) : Int) := by rw [addW_small (by omega) (by omega)]; rfl
    have hstep : ∀ f, F[i]? = some f → goN D.bytes F D.waits D.dur (i + 1) = if f = 0 then goN D.bytes F D.waits D.dur i else if z.act = 2 then stretchL D.bytes (goN D.bytes F D.waits D.dur i) z.pages else layL D.bytes (goN D.bytes F D.waits D.dur i) z.page z.data f := by
      intro f hf
      rw [goN, hz]
      simp only [goStep, hf]
    by_cases hiF : i < F.length
    · have hf : F[i]? = some (F[i]) := List.getElem?_eq_getElem hiF
      generalize F[i] = f at hf
      obtain ⟨j1, j2⟩ := sf3.get encF_w hf (j := 0) (m := 1) (by omega)
      have hge : geI (i : Int) (natI fl) = false := by rw [Bool.eq_false_iff]; intro hx; rw [geI_iff] at hx; simp only [natI] at hx; omega
      have hin : inR (i : Int) fl := by simp only [inR]; omega
      refine ⟨fun _ => ⟨j1, hin⟩, f, fun _ => ⟨rfl, j2.trans rfl⟩, ?_⟩
      rw [hge]
      split
      · rename_i hf0
        have hf0 : f = 0 := eqI_iff.mp hf0
        refine ⟨w.l - (i + 1), by simp only [lessN]; omega, i + 1, gd', dd', by rw [next], by omega, rfl, wf3, ?_, nw1, k03⟩
        rw [hstep f hf, if_pos hf0]; exact x3
      · rename_i hf0
        have hf0 : ¬ f = 0 := fun he => hf0 (eqI_iff.mpr he)
        obtain ⟨ok1, ok2⟩ := goN_ok ok F i
        refine ⟨rfl, rfl, z.act, ⟨rfl, b3.one rfl⟩, ?_⟩
        split
        · rename_i h2
          have h2 : z.act = 2 := eqI_iff.mp h2
          have hpg : 0 ≤ z.pages ∧ z.pages ≤ M := by rcases hzok with ⟨h1, _⟩ | ⟨_, h3⟩; omega; exact h3
          refine ⟨rfl, rfl, rfl, rfl, z.pages, ⟨rfl, b3.one rfl⟩, ?_⟩
          have hM := ok.m1
          refine (c91 x3.blk (o := 2) rfl rfl x3.dur x3.a2 (by rw [ok.by_]; have := ok.k1; omega) (by omega) (by simp only; omega)).wf fun v h4 wf4 _ ⟨e4, gd2, dd2, b4, o4, nw4, k4⟩ => ⟨e4, w.l - (i + 1), by simp only [lessN]; omega, i + 1, gd2, dd2, by rw [next], by omega, rfl, wf4, ?_, nw1.trans k03.next nw4, ?_⟩
          · have x4 := x3.setDur2 wf3 k4 o4 nw4 b4
            rw [hstep f hf, if_neg hf0, if_pos h2]
            exact x4
          · refine k03.trans wf k4 fun y hy he => ?_
            rcases he with he | he
            · exact .inl he
            · rcases nw1 with rfl | rfl | ⟨q, rfl, hq⟩
              · exact .inr he
              · simp at he
              · simp at he; omega
        · rename_i h2
          have h2 : ¬ z.act = 2 := fun he => h2 (eqI_iff.mpr he)
          have hpg : 0 ≤ z.page ∧ z.page < M ∧ z.data.size = 8 * k := by rcases hzok with ⟨_, h3⟩ | ⟨h1, _⟩; exact h3; omega
          refine ⟨rfl, rfl, rfl, rfl, z.page, ⟨rfl, b3.one rfl⟩, rfl, z.data, ⟨rfl, b3.one rfl⟩, ⟨j1, hin⟩, f, ⟨rfl, j2.trans rfl⟩, ?_⟩
          have hM := ok.m1
          rw [toW_i64 (by omega) (by omega)]
          refine (c94 (k := k) x3.blk (o := 2) (by show some (Value.int .i64 D.bytes) = _; rw [ok.by_]) rfl x3.dur x3.a2 ⟨ok.k0, ok.k1⟩ (by omega) (by simp only; omega) ok1 hpg.2.2).wf fun v h4 wf4 _ ⟨e4, gd2, dd2, b4, o4, nw4, k4⟩ => ⟨e4, w.l - (i + 1), by simp only [lessN]; omega, i + 1, gd2, dd2, by rw [next], by omega, rfl, wf4, ?_, nw1.trans k03.next nw4, ?_⟩
          · have x4 := x3.setDur2 wf3 k4 o4 nw4 b4
            rw [hstep f hf, if_neg hf0, if_neg h2]
            rw [← ok.by_] at x4
            exact x4
          · refine k03.trans wf k4 fun y hy he => ?_
            rcases he with he | he
            · exact .inl he
            · rcases nw1 with rfl | rfl | ⟨q, rfl, hq⟩
              · exact .inr he
              · simp at he
              · simp at he; omega
    · have hge : geI (i : Int) (natI fl) = true := by rw [geI_iff]; simp only [natI]; omega
      refine ⟨fun hx => by rw [hge] at hx; simp [notB] at hx, 0, fun hx => by rw [hge] at hx; simp [notB] at hx, ?_⟩
      rw [if_pos (by rw [hge]; rfl)]
      refine ⟨w.l - (i + 1), by simp only [lessN]; omega, i + 1, gd', dd', by rw [next], by omega, rfl, wf3, ?_, nw1, k03⟩
      have : goN D.bytes F D.waits D.dur (i + 1) = goN D.bytes F D.waits D.dur i := by
        rw [goN, hz]
        simp only [goStep, List.getElem?_eq_none (show F.length ≤ i by omega)]
      rw [this]; exact x3
  · rename_i hlt
    have hiw : i = w.l := by rw [ltI_iff] at hlt; simp only [natI] at hlt; omega
    have hL : goN D.bytes F D.waits D.dur i = goN D.bytes F D.waits D.dur D.waits.length := by rw [hiw, hwl]
    obtain ⟨h2, e2, b2, k2, n2, w2⟩ := b1.set (o := 6) (v := .slice none 0 0) (by simp [dcells]) rfl
    obtain ⟨h3, e3, b3, k3, n3, w3⟩ := b2.set (o := 7) (v := .slice none 0 0) (by simp [dcells]) rfl
    obtain ⟨h4, e4, b4, k4, n4, w4⟩ := b3.set (o := 5) (v := .bool true) (by simp [dcells]) rfl
    obtain ⟨h5, e5, b5, k5, n5, w5⟩ := b4.set (o := 9) (v := .int .i64 (addW .i64 D.taken 1)) (by simp [dcells]) rfl
    refine ⟨rfl, rfl, rfl, h2, e2, rfl, rfl, rfl, h3, e3, rfl, rfl, rfl, h4, e4, rfl, rfl, D.taken, ⟨rfl, b4.one rfl⟩, rfl, rfl, rfl, h5, e5, ?_⟩
    have k25 : Keep (· = g0) hh h5 := ((k2.trans wf1 k3 fun _ _ he => he).trans wf1 k4 fun _ _ he => he).trans wf1 k5 fun _ _ he => he
    have m0 : ∀ {g : Option Nat}, Ap (some g0) g → ∀ y, g = some y → ¬ (y = g0) := fun ha y hy he => ha g0 rfl (by rw [hy, he])
    have x5 : DX h5 d g0 gs gd' none none R { D with dur := goN D.bytes F D.waits D.dur i, waits := [], arms := [], off := true, taken := addW .i64 D.taken 1 } s dd' ⟨none, 0, 0⟩ ⟨none, 0, 0⟩ :=
      ⟨b5, x1.seen.keep k25 (m0 x1.a1), x1.dur.keep k25 (m0 x1.a2), OwT.nil, OwT.nil, by simp, x1.a1, x1.a2, Ap.nr _, Ap.nr _, x1.a5, Ap.nr _, Ap.nr _, Ap.nr _, Ap.nr _, Ap.nr _,
        fun y hy => by obtain ⟨r0, r1, r2, r3, r4⟩ := x1.ro y hy; exact ⟨r0, r1, r2, by simp, by simp⟩, fun y hy => Nat.lt_of_lt_of_le (x1.rlt y hy) k25.next⟩
    refine (c68 x5 (by have := (goN_ok ok F i).2; have := ok.m1; simp only; omega)).wf fun v h6 wf6 _ ⟨e6, nx⟩ => ⟨e6, rfl, ?_⟩
    have hD : goesD D F = { D with dur := goN D.bytes F D.waits D.dur i, seen := goN D.bytes F D.waits D.dur i, waits := [], arms := [], off := true, taken := addW .i64 D.taken 1 } := by
      unfold goesD; rw [hL]
    rw [hD]
    refine Nx.pre wf Nw.same nw1 (.inr (.inl rfl)) (.inr (.inl rfl)) (fun y hy => .inl hy) ?_ nx
    refine (k1.mono wf (S' := own g0 gs gd gw ga) fun y _ hy => ?_).trans wf k25 fun y _ hy => .inl hy
    rcases hy with hy | hy
    · exact .inl hy
    · exact .inr (.inr (.inl hy))
end
end Go.Proofs.Ytfkhjbfddeahaaa.kc
