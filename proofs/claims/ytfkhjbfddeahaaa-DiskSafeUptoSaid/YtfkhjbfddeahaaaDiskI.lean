/- Contracts: act. -/
import Derived.Test.YtfkhjbfddeahaaaDiskH
set_option linter.unusedVariables false
namespace Go.Proofs.Ytfkhjbfddeahaaa.kc
open Go Go.Cn Go.Proofs Go.Proofs.Ytfkhjbfddeahaaa.vc

/-- Cells of one element are written. -/
theorem flat_set_in {α : Type} {enc : α → List Value} {w : Nat} (hw : ∀ x, (enc x).length = w) {L : List α} {i j : Nat} {x x' : α} {vs : List Value} (hx : L[i]? = some x) (hj : j + vs.length ≤ w) (he : enc x' = splice (enc x) j vs) :
    splice (L.flatMap enc) (i * w + j) vs = (L.set i x').flatMap enc := by
  induction L generalizing i with
  | nil => simp at hx
  | cons y L ih =>
    have hy := hw y
    cases i with
    | zero =>
      simp at hx; subst hx
      simp only [List.flatMap_cons, List.set_cons_zero, Nat.zero_mul, Nat.zero_add, he, splice]
      rw [List.take_append_of_le_length (by omega), List.drop_append_of_le_length (by omega)]
      simp [List.append_assoc]
    | succ i =>
      have := ih (i := i) (by simpa using hx)
      simp only [splice, List.flatMap_cons, List.set_cons_succ] at this ⊢
      rw [← this]
      rw [show (i + 1) * w + j = (enc y).length + (i * w + j) by rw [hy, Nat.succ_mul]; omega, List.take_append, List.take_of_length_le (by omega), show (enc y).length + (i * w + j) - (enc y).length = i * w + j by omega,
        Nat.add_assoc, List.drop_append, List.drop_eq_nil_of_le (by omega), show (enc y).length + ((i * w + j) + vs.length) - (enc y).length = (i * w + j) + vs.length by omega]
      simp [List.append_assoc]

def Ar.dec (kind : Int) (x : Ar) : Ar := if sel (eqI x.on 0) true (eqI x.on kind) = true then { x with left := subW .i64 x.left 1 } else x
theorem Ar.dec_fa (kind : Int) (x : Ar) : (x.dec kind).fa = x.fa ∧ (x.dec kind).fl = x.fl ∧ (x.dec kind).fc = x.fc ∧ (x.dec kind).fates = x.fates := by unfold Ar.dec; split <;> exact ⟨rfl, rfl, rfl, rfl⟩
def struck (kind : Int) (L : List Ar) (i : Nat) : List Ar := (L.take i).map (Ar.dec kind) ++ L.drop i

theorem struck_zero (kind : Int) (L : List Ar) : struck kind L 0 = L := by simp [struck]
theorem struck_all (kind : Int) (L : List Ar) : struck kind L L.length = L.map (Ar.dec kind) := by simp [struck]
theorem struck_len (kind : Int) {L : List Ar} {i : Nat} (hi : i ≤ L.length) : (struck kind L i).length = L.length := by simp [struck]; omega
theorem struck_get (kind : Int) {L : List Ar} {i : Nat} (hi : i < L.length) : (struck kind L i)[i]? = L[i]? := by
  unfold struck
  rw [List.getElem?_append_right (by simp; omega)]
  simp [List.getElem?_drop]
  congr 1; omega
theorem struck_succ (kind : Int) {L : List Ar} {i : Nat} {x : Ar} (hx : L[i]? = some x) : struck kind L (i + 1) = (struck kind L i).set i (x.dec kind) := by
  obtain ⟨hi, hv⟩ := List.getElem?_eq_some_iff.mp hx
  unfold struck
  have e1 : L.drop i = x :: L.drop (i + 1) := by rw [List.drop_eq_getElem_cons hi, hv]
  have e2 : ((L.take i).map (Ar.dec kind)).length = i := by simp; omega
  rw [e1, List.set_append_right _ _ (by omega), e2, Nat.sub_self, List.set_cons_zero, List.take_add_one, hx]
  simp

theorem First.find {L : List Ar} {n : Int} (f : First L n) : (∃ (i : Nat) (x : Ar), n = (i : Int) ∧ L[i]? = some x ∧ L.find? Ar.due = some x) ∨ (n = -1 ∧ L.find? Ar.due = none) := by
  rcases f with ⟨i, x, rfl, hx, hd, hno⟩ | ⟨rfl, hno⟩
  · refine .inl ⟨i, x, rfl, hx, ?_⟩
    obtain ⟨hi, hv⟩ := List.getElem?_eq_some_iff.mp hx
    rw [List.find?_eq_some_iff_getElem]
    refine ⟨hd, i, hi, hv, fun j hj => ?_⟩
    have := hno j (L[j]'(by omega)) hj (List.getElem?_eq_getElem _)
    rw [this]; rfl
  · refine .inr ⟨rfl, ?_⟩
    rw [List.find?_eq_none]
    intro y hy; rw [hno y hy]; simp

theorem Nw.up {h h1 : Hp} {g' g : Option Nat} (n : Nw h1 g' g) (hn : h.next ≤ h1.next) : Nw h g' g := Nw.trans hn Nw.same n

def Wt.good (k M : Nat) (x : Wt) : Prop := (x.act = 1 ∧ 0 ≤ x.page ∧ x.page < M ∧ x.data.size = 8 * k) ∨ (x.act = 2 ∧ 0 ≤ x.pages ∧ x.pages ≤ M)

/-- What act does. -/
def actD (D : Dk) (kind refused : Int) (adds : List Wt) : Dk × Int :=
  match (D.arms.map (Ar.dec kind)).find? Ar.due with
  | none => ({ D with arms := D.arms.map (Ar.dec kind), waits := D.waits ++ adds }, 0)
  | some z => if z.pw = true then (goesD { D with arms := (D.arms.map (Ar.dec kind)).filter nd, waits := D.waits ++ adds } z.fates, 7) else ({ D with arms := (D.arms.map (Ar.dec kind)).filter nd }, refused)

section
variable {h : Hp} {d g0 : Nat} {gs gd gw ga : Option Nat} {R : Nat → Prop} {D : Dk} {s dd w a : Sv}

/-- What waits grows. -/
theorem waits_app (wf : Wf h) (x : DX h d g0 gs gd gw ga R D s dd w a) {G : Option Nat} {aa : Option Addr} {al ac : Nat} {adds : List Wt} (sa : SlT Wt.enc 4 h G aa al ac adds) (hW : D.waits.length + adds.length ≤ 8589934592) :
    ∃ a' m n h1 h2, cappend Try.prog 98 98 (.slice w.a w.l w.c) (.slice aa al ac) h = some (.slice a' m n, h1) ∧ h1.store d 6 [.slice a' m n] = some h2 ∧
      ∃ gw' w', DX h2 d g0 gs gd gw' ga R { D with waits := D.waits ++ adds } s dd w' a ∧ Nw h gw' gw ∧ Keep (fun y => y = g0 ∨ gw = some y) h h2 ∧ Wf h2 := by
  have hcell : (adds.flatMap Wt.enc).all isCell = true := by
    simp only [List.all_eq_true, List.mem_flatMap]
    rintro v ⟨x, _, hv⟩
    exact List.all_eq_true.mp (Wt.c x) v hv
  have hl := sa.len
  have hwl := x.waits.2
  obtain ⟨a', c', gw', h1, e1, o1, nw1, k1, wf1⟩ := Ow.append wf app98 x.waits.1 (dataOf_sl sa.sl) sa.sl.len hcell (room (by omega) (by omega))
  have b1 : Blk h1 d (some g0) (dcells D s dd w a) := k1.blk x.blk fun y hy he => x.a3 y hy he
  obtain ⟨h2, e2, b2, k2, n2, w2⟩ := b1.set (o := 6) (v := .slice a' (w.l + al) c') (by simp [dcells]) rfl
  refine ⟨a', _, c', h1, h2, e1, e2, gw', ⟨a', w.l + al, c'⟩, ?_, Nw.of nw1, ?_, w2 wf1⟩
  · exact x.setWaits wf k1 ⟨by rw [List.flatMap_append]; exact o1, by simp [hl, hwl]⟩ (Nw.of nw1) k2 b2
  · exact (k1.mono wf fun y _ hy => .inr hy).trans wf k2 fun y _ hy => .inl hy

theorem c73 {k M : Nat} (x : DX h d g0 gs gd gw ga R D s dd w a) (ok : D.ok k M) {kind refused : Int} {G : Option Nat} {aa : Option Addr} {al ac : Nat} {adds : List Wt} (sa : SlT Wt.enc 4 h G aa al ac adds) (hG : ∀ y, G = some y → ¬ own g0 gs gd gw ga y ∧ y < h.next)
    (hA : D.arms.length ≤ 64) (hF : ∀ z ∈ D.arms, z.fates.length ≤ 8589934592) (hW : D.waits.length + adds.length ≤ 8589934592) (okA : ∀ x ∈ adds, x.good k M) :
    C 73 [.pointer (some ⟨d, 0, none⟩), .int .u8 kind, .int .i64 refused, .slice aa al ac] h fun v h' => v = .int .i64 (actD D kind refused adds).2 ∧ Nx h d g0 gs gd gw ga R (actD D kind refused adds).1 h' := by
  refine SCalls_of_vw fol (pf := pf) (shp := shp73) (f := 73) (fn := Try.f73) (by kernel_rfl) (c := Try.f73.body.getD .skip) (by kernel_rfl) (by kernel_rfl) fun wf => ?_
  rw [vc73]
  have b := x.blk
  obtain ⟨l0, l1, l2, l3, l4⟩ := x.lts wf
  have hal := x.arms.2
  refine ⟨rfl, rfl, a.a, a.l, a.c, ⟨rfl, b.one rfl⟩, ?_⟩
  refine ⟨fun vals m hh => ∃ i : Nat, [.int .i64 i] = vals ∧ i ≤ a.l ∧ m = a.l - i ∧ Wf hh ∧ Keep (fun y => ga = some y) h hh ∧ OwT Ar.enc 5 hh ga a (struck kind D.arms i), ⟨a.l, 0, rfl, Nat.zero_le _, rfl, wf, Keep.refl _ _, by rw [struck_zero]; exact x.arms⟩, ?_⟩
  rintro n m hh ⟨i, e, hi, rfl, wf1, k1, o1⟩
  simp at e; subst e
  have b1 : Blk hh d (some g0) (dcells D s dd w a) := k1.blk b fun y hy he => x.a4 y hy he
  split
  · rename_i hlt
    have hlt : i < a.l := by rw [ltI_iff] at hlt; simp only [natI] at hlt; omega
    have hz : D.arms[i]? = some (D.arms[i]'(by omega)) := List.getElem?_eq_getElem _
    generalize D.arms[i]'(by omega) = z at hz
    have hzs : (struck kind D.arms i)[i]? = some z := by rw [struck_get kind (by omega)]; exact hz
    obtain ⟨i1, i2⟩ := o1.slT.get Ar.w hzs (j := 0) (m := 1) (by omega)
    obtain ⟨_, i3⟩ := o1.slT.get Ar.w hzs (j := 4) (m := 1) (by omega)
    have hin : inR (i : Int) a.l := by simp only [inR]; omega
    have next : addW .i64 (i : Int) 1 = ((i + 1 : Nat) : Int) := by rw [addW_small (by omega) (by omega)]; rfl
    have hsl : (struck kind D.arms (i + 1)).length = a.l := by rw [struck_len kind (by omega)]; exact hal
    refine ⟨rfl, rfl, a.a, a.l, a.c, ⟨rfl, b1.one rfl⟩, ⟨i1, hin⟩, rfl, rfl, z.on, ⟨rfl, i2.trans rfl⟩, fun _ => rfl, fun _ => rfl, a.a, a.l, a.c, fun _ => ⟨rfl, b1.one rfl⟩, fun _ => ⟨i1, hin⟩, fun _ => rfl, fun _ => rfl, z.on, fun _ => ⟨rfl, i2.trans rfl⟩, ?_⟩
    split
    · rename_i hd
      have hofs : plusN (plusI (off a.a) (i : Int) 5) 4 = off a.a + (i * 5 + 4) := by simp [plusN, plusI]; omega
      have hlen : (struck kind D.arms i).length = a.l := o1.2
      obtain ⟨_, h4, e4, o4, k4, n4, w4⟩ := o1.1.store (i := i * 5 + 4) (vs := [.int .i64 (subW .i64 z.left 1)]) (by simp; omega) (by omega) rfl
      rw [flat_set_in Ar.w (x' := z.dec kind) hzs (Nat.le_refl _) (by unfold Ar.dec; rw [if_pos hd]; rfl), ← struck_succ kind hz] at o4
      refine ⟨rfl, rfl, a.a, a.l, a.c, ⟨rfl, b1.one rfl⟩, ⟨i1, hin⟩, rfl, z.left, ⟨rfl, i3.trans rfl⟩, ⟨i1, hin⟩, rfl, rfl, h4, by rw [hofs]; exact e4, a.l - (i + 1), by simp only [lessN]; omega, i + 1, by rw [next], by omega, rfl, w4 wf1, k1.trans wf k4 (fun _ _ hg => hg), ⟨o4, hsl⟩⟩
    · rename_i hd
      refine ⟨a.l - (i + 1), by simp only [lessN]; omega, i + 1, by rw [next], by omega, rfl, wf1, k1, ?_⟩
      rw [struck_succ kind hz]
      have : z.dec kind = z := by unfold Ar.dec; rw [if_neg hd]
      rw [this]
      obtain ⟨hi', hv⟩ := List.getElem?_eq_some_iff.mp hzs
      rw [← hv, List.set_getElem_self]
      exact o1
  · rename_i hlt
    have hil : i = a.l := by rw [ltI_iff] at hlt; simp only [natI] at hlt; omega
    have hst : struck kind D.arms i = D.arms.map (Ar.dec kind) := by rw [hil, ← hal, struck_all]
    rw [hst] at o1
    have x1 : DX hh d g0 gs gd gw ga R { D with arms := D.arms.map (Ar.dec kind) } s dd w a := x.setArms wf k1 o1 Nw.same (Keep.refl _ _) b1 (R' := R) (fun y hy => ⟨.inl hy, Nat.lt_of_lt_of_le (x.rlt y hy) k1.next, (x.ro y hy).2.2.2.2⟩) (fun z hz => by
      obtain ⟨z0, hz0, rfl⟩ := List.mem_map.mp hz
      obtain ⟨f1, f2, f3, f4⟩ := z0.dec_fa kind
      rw [f1, f2, f3, f4]
      obtain ⟨G, hG, sG⟩ := x.fates z0 hz0
      exact ⟨G, hG, sG.keep k1 fun y hy he => (x.ro y (hG y hy)).2.2.2.2 he⟩)
    refine ⟨rfl, rfl, a.a, a.l, a.c, ⟨rfl, b1.one rfl⟩, ?_⟩
    refine (c98 o1.slT (by omega)).wf fun v h2 wf2 _ ⟨⟨n, e, hF1⟩, k2⟩ => ⟨n, e, ?_⟩
    have x2 := x1.kept k2
    have k02 : Keep (own g0 gs gd gw ga) h h2 := (k1.mono wf (S' := own g0 gs gd gw ga) fun y _ hy => .inr (.inr (.inr (.inr hy)))).trans wf k2 fun _ _ hf => hf.elim
    have sa2 : SlT Wt.enc 4 h2 G aa al ac adds := sa.keep k02 fun y hy => (hG y hy).1
    rcases hF1.find with ⟨i0, z, rfl, hz, hfd⟩ | ⟨rfl, hfd⟩
    · have hneg : ¬ ltI (i0 : Int) 0 = true := by rw [ltI_iff]; omega
      rw [if_neg hneg]
      have hi0 := (List.getElem?_eq_some_iff.mp hz).1
      have hml : (D.arms.map (Ar.dec kind)).length = a.l := x2.arms.2
      obtain ⟨i1, i2⟩ := x2.arms.slT.get Ar.w hz (j := 0) (m := 5) (by omega)
      have hin : inR (i0 : Int) a.l := by simp only [inR]; omega
      refine ⟨rfl, rfl, a.a, a.l, a.c, ⟨rfl, x2.blk.one rfl⟩, ⟨i1, hin⟩, z.on, z.nth, z.pw, z.fa, z.fl, z.fc, z.left, ⟨rfl, i2.trans rfl⟩, ?_⟩
      intro h3 e3
      obtain ⟨b3, k3, n3, wf3⟩ := new_blk wf2 e3
      obtain ⟨h4, e4, b4, k4, _, n4, wf4⟩ := set_blk wf3 b3 k3 wf2 (Nat.le_refl _) (vs := z.enc) rfl rfl
      have x4 := x2.kept k4
      refine ⟨rfl, h4, e4, rfl, rfl, a.a, a.l, a.c, ⟨rfl, x4.blk.one rfl⟩, ?_⟩
      refine (c99 x4.arms (by omega)).wf fun v h5 wf5 _ ⟨s5, e, o5, k5⟩ => ⟨s5.a, s5.l, s5.c, e, rfl, rfl, rfl, ?_⟩
      have b5 : Blk h5 d (some g0) (dcells { D with arms := D.arms.map (Ar.dec kind) } s dd w a) := k5.blk x4.blk fun y hy he => x.a4 y hy he
      obtain ⟨h6, e6, b6, k6, n6, w6⟩ := b5.set (o := 7) (v := s5.v) (by simp [dcells]) rfl
      have x6 : DX h6 d g0 gs gd gw ga R { D with arms := (D.arms.map (Ar.dec kind)).filter nd } s dd w s5 := x4.setArms wf4 k5 o5 Nw.same k6 b6 (R' := R) (fun y hy => ⟨.inl hy, Nat.lt_of_lt_of_le (x4.rlt y hy) k5.next, (x.ro y hy).2.2.2.2⟩) (fun z hz => by
        obtain ⟨G, hG, sG⟩ := x4.fates z (List.mem_filter.mp hz).1
        exact ⟨G, hG, sG.keep k5 fun y hy he => (x.ro y (hG y hy)).2.2.2.2 he⟩)
      have l24 : ∀ y, ga = some y → y < h2.next := fun y hy => Nat.lt_of_lt_of_le (l4 y hy) k02.next
      have l20 : g0 < h2.next := Nat.lt_of_lt_of_le l0 k02.next
      have bl6 : Blk h6 h2.next (some h2.next) z.enc := k6.blk (k5.blk b4 fun y hy he => by simp at hy; have := l24 y he; omega) fun y hy he => by simp at hy; omega
      have k06 : Keep (own g0 gs gd gw ga) h h6 := ((k02.trans wf k4 fun _ _ hf => hf.elim).trans wf k5 fun y _ hy => .inr (.inr (.inr (.inr hy)))).trans wf k6 fun y _ hy => .inl hy
      refine ⟨h6, e6, rfl, rfl, z.pw, ⟨rfl, bl6.one rfl⟩, ?_⟩
      split
      · rename_i hp
        have hp : z.pw = false := notB_iff.mp hp
        have hact : actD D kind refused adds = ({ D with arms := (D.arms.map (Ar.dec kind)).filter nd }, refused) := by unfold actD; rw [hfd]; simp [hp]
        rw [hact]
        exact ⟨rfl, gs, gd, gw, ga, R, s, dd, w, s5, x6, Nw.same, Nw.same, Nw.same, Nw.same, fun _ hy => .inl hy, k06⟩
      · rename_i hp
        have hp : z.pw = true := by cases hq : z.pw with | true => rfl | false => rw [hq] at hp; simp [notB] at hp
        have hact : actD D kind refused adds = (goesD { D with arms := (D.arms.map (Ar.dec kind)).filter nd, waits := D.waits ++ adds } z.fates, 7) := by unfold actD; rw [hfd]; simp [hp]
        rw [hact]
        have sa6 : SlT Wt.enc 4 h6 G aa al ac adds := sa.keep k06 fun y hy => (hG y hy).1
        obtain ⟨a7, m7, n7, h7, h8, e7, e8, gw8, w8, x8, nw8, k8, wf8⟩ := waits_app (w6 wf5) x6 sa6 hW
        have bl8 : Blk h8 h2.next (some h2.next) z.enc := k8.blk bl6 fun y hy he => by
          simp at hy
          rcases he with he | he
          · omega
          · have := l3 y he; have := k02.next; omega
        refine ⟨rfl, rfl, w.a, w.l, w.c, ⟨rfl, x6.blk.one rfl⟩, a7, m7, n7, h7, e7, rfl, rfl, rfl, h8, e8, rfl, rfl, z.fa, z.fl, z.fc, ⟨rfl, bl8.one rfl⟩, ?_⟩
        have hzm := List.mem_of_getElem? hz
        obtain ⟨z0, hz0, hzz⟩ := List.mem_map.mp hzm
        obtain ⟨f1, f2, f3, f4⟩ := z0.dec_fa kind
        obtain ⟨Gf, hGf, sGf⟩ := x.fates z0 hz0
        have k08 : Keep (own g0 gs gd gw ga) h h8 := k06.trans wf k8 fun y _ hy => by rcases hy with hy | hy; exact .inl hy; exact .inr (.inr (.inr (.inl hy)))
        have sf8 : SlT encF 1 h8 Gf z.fa z.fl z.fc z.fates := by
          rw [← hzz, f1, f2, f3, f4]
          exact sGf.keep k08 fun y hy ho => by
            obtain ⟨r0, r1, r2, r3, r4⟩ := x.ro y (hGf y hy)
            rcases ho with ho | ho | ho | ho | ho
            · exact r0 ho
            · exact r1 ho
            · exact r2 ho
            · exact r3 ho
            · exact r4 ho
        have ok8 : Dk.ok k M { D with arms := (D.arms.map (Ar.dec kind)).filter nd, waits := D.waits ++ adds } := ⟨ok.by_, ok.k0, ok.k1, ok.m1, ok.most, ok.seenS, ok.durS, ok.seenL, ok.durL, fun y hy => by
          rcases List.mem_append.mp hy with hy | hy
          · exact ok.waits y hy
          · exact okA y hy⟩
        have hfl : z.fl ≤ 8589934592 := by rw [← sf8.len, ← hzz, f4]; exact hF z0 hz0
        refine (c63 x8 ok8 sf8 (fun y hy => ?_) hfl (by simp only [List.length_append]; exact hW)).wf fun v h9 wf9 _ ⟨e9, nx⟩ => ⟨e9, rfl, ?_⟩
        · obtain ⟨r0, r1, r2, r3, r4⟩ := x8.ro y (hGf y hy)
          refine ⟨fun ho => ?_, x8.rlt y (hGf y hy)⟩
          rcases ho with ho | ho | ho | ho | ho
          · exact r0 ho
          · exact r1 ho
          · exact r2 ho
          · exact r3 ho
          · exact r4 ho
        · exact Nx.pre wf Nw.same Nw.same (nw8.up k06.next) Nw.same (fun y hy => .inl hy) k08 nx
    · rw [if_pos (by rfl)]
      have hact : actD D kind refused adds = ({ D with arms := D.arms.map (Ar.dec kind), waits := D.waits ++ adds }, 0) := by unfold actD; rw [hfd]
      rw [hact]
      obtain ⟨a7, m7, n7, h7, h8, e7, e8, gw8, w8, x8, nw8, k8, wf8⟩ := waits_app wf2 x2 sa2 hW
      refine ⟨rfl, rfl, w.a, w.l, w.c, ⟨rfl, x2.blk.one rfl⟩, a7, m7, n7, h7, e7, rfl, rfl, rfl, h8, e8, rfl, gs, gd, gw8, ga, R, s, dd, w8, a, x8, Nw.same, Nw.same, nw8.up k02.next, Nw.same, fun _ hy => .inl hy, ?_⟩
      exact k02.trans wf k8 fun y _ hy => by rcases hy with hy | hy; exact .inl hy; exact .inr (.inr (.inr (.inl hy)))
end
end Go.Proofs.Ytfkhjbfddeahaaa.kc
