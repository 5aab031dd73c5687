/- DiskSafe: helpers. -/
import Derived.Test.YtfkhjbfddeahaaaDiskZ1
import Derived.Test.YtfkhjbfddeahaaaDiskT
set_option linter.unusedVariables false
set_option linter.unusedSimpArgs false
namespace Go.Proofs.Ytfkhjbfddeahaaa.kc
open Go Go.Cn Go.Proofs Go.Proofs.Ytfkhjbfddeahaaa.vc

/-! ### one -/
theorem sub_sec {x y : ByteArray} (hx : x.size = 1024) (hy : y.size = 1024) {i : Nat} (hi : i < 8) : strEq (strSub x ((i * 128 : Nat) : Int) ((i * 128 + 128 : Nat) : Int)) (strSub y ((i * 128 : Nat) : Int) ((i * 128 + 128 : Nat) : Int)) = true ↔ secAt x i = secAt y i := by
  have h1 := (sub_bytes x (i * 128) (i * 128 + 128) (by omega) (by omega)).1
  have h2 := (sub_bytes y (i * 128) (i * 128 + 128) (by omega) (by omega)).1
  have e : i * 128 + 128 - i * 128 = 128 := by omega
  rw [e] at h1 h2
  unfold strEq secAt
  rw [beq_iff_eq, toList_eq, toList_eq, h1, h2]

theorem c35 {h : Hp} {G : Option Nat} {a : Option Addr} {l c : Nat} {ws : List ByteArray} (s : SlT encS 1 h G a l c ws) (hl : l ≤ 8589934592) {i : Nat} (hi : i < 8) {x y : ByteArray} (hx : x.size = 1024) (hy : y.size = 1024) (hw : ∀ w ∈ ws, w.size = 1024)
    (hyp : secAt x i = secAt y i ∨ ∃ w ∈ ws, secAt x i = secAt w i) : C 35 [.int .i64 i, .string x, .string y, .slice a l c] h fun v h' => v = .bool true ∧ h' = h := by
  refine SCalls_of_vw fol (pf := pf) (shp := shp35) (f := 35) (fn := Try.f35) (by kernel_rfl) (c := Try.f35.body.getD .skip) (by kernel_rfl) (by kernel_rfl) fun wf => ?_
  rw [vc35]
  have hL := s.len
  have e1 : quoW .i64 (natI (lenS x)) 8 = 128 := by
    have : natI (lenS x) = ((8 * 128 : Nat) : Int) := by simp only [natI, lenS, hx]
    rw [this, quo8 (by omega)]; rfl
  have e2 : mulW .i64 (i : Int) 128 = ((i * 128 : Nat) : Int) := by rw [mulW_small (by omega) (by omega)]; omega
  have e3 : addW .i64 ((i * 128 : Nat) : Int) 128 = ((i * 128 + 128 : Nat) : Int) := by rw [addW_small (by omega) (by omega)]; omega
  rw [e1, e2, e3]
  refine ⟨by simp [nonzero], by simp only [subOk]; omega, by simp only [subOk]; omega, ?_⟩
  by_cases h1 : secAt x i = secAt y i
  · rw [if_pos ((sub_sec hx hy hi).mpr h1)]; exact ⟨rfl, rfl⟩
  rw [if_neg (fun h => h1 ((sub_sec hx hy hi).mp h))]
  refine ⟨fun vals m hh => ∃ j : Nat, [.int .i64 j] = vals ∧ j ≤ l ∧ m = l - j ∧ hh = h ∧ ∀ (q : Nat) w, q < j → ws[q]? = some w → secAt x i ≠ secAt w i, ⟨l, 0, rfl, Nat.zero_le _, rfl, rfl, by omega⟩, ?_⟩
  rintro n m hh ⟨j, e, hj, rfl, rfl, hno⟩
  simp at e; subst e
  by_cases hlt : ltI (j : Int) (natI l) = true
  · rw [if_pos hlt]
    have hlt : j < l := by rw [ltI_iff] at hlt; simp only [natI] at hlt; omega
    have hz : ws[j]? = some (ws[j]'(by omega)) := List.getElem?_eq_getElem _
    generalize ws[j]'(by omega) = z at hz
    have hzs := hw z (List.mem_of_getElem? hz)
    obtain ⟨i1, i2⟩ := s.get encS_w hz (j := 0) (m := 1) (by omega)
    refine ⟨⟨i1, by simp only [inR]; omega⟩, z, ⟨rfl, i2.trans rfl⟩, by simp only [subOk]; omega, ?_⟩
    by_cases h2 : secAt x i = secAt z i
    · rw [if_pos ((sub_sec hx hzs hi).mpr h2)]; exact ⟨rfl, rfl⟩
    rw [if_neg (fun h => h2 ((sub_sec hx hzs hi).mp h))]
    refine ⟨l - (j + 1), by simp only [lessN]; omega, j + 1, by rw [addW_small (by omega) (by omega)]; rfl, by omega, rfl, rfl, fun q w hq hqw => ?_⟩
    by_cases hqj : q = j
    · subst hqj; rw [hz] at hqw; simp at hqw; subst hqw; exact h2
    · exact hno q w (by omega) hqw
  · exfalso
    have hjl : j = l := by rw [ltI_iff] at hlt; simp only [natI] at hlt; omega
    rcases hyp with h2 | ⟨w, hw2, h2⟩
    · exact h1 h2
    · obtain ⟨q, hq⟩ := List.getElem?_of_mem hw2
      exact hno q w (by have := (List.getElem?_eq_some_iff.mp hq).1; omega) hq h2

/-! ### lists of what was written -/
def WrP (b : Nat) (H : List Sv) (g : Nat → Option Nat) (Wr : Nat → List ByteArray) (h : Hp) : Prop := Blk h b (some b) (H.map fun s => s.v) ∧ ∀ (i : Nat) s, H[i]? = some s → OwT encS 1 h (g i) s (Wr i)
def wrF (b : Nat) (g : Nat → Option Nat) (y : Nat) : Prop := y = b ∨ ∃ i, i < 8 ∧ g i = some y
structure WrSep (b : Nat) (H : List Sv) (g : Nat → Option Nat) : Prop where
  len : H.length = 8
  nb : ∀ i, g i ≠ some b
  ap : ∀ i j, i ≠ j → Ap (g i) (g j)
  out : ∀ i, 8 ≤ i → g i = none
def Th.wr (b : Nat) (H : List Sv) (g : Nat → Option Nat) (Wr : Nat → List ByteArray) : Th := ⟨WrP b H g Wr, wrF b g, wrF b g⟩
theorem WrP.keep {b : Nat} {H : List Sv} {g : Nat → Option Nat} {Wr : Nat → List ByteArray} {S : Nat → Prop} {h h' : Hp} (hl : H.length = 8) (k : Keep S h h') (hn : ∀ y, wrF b g y → ¬ S y) (x : WrP b H g Wr h) : WrP b H g Wr h' :=
  ⟨k.blk x.1 fun y hy => hn y (.inl (by simp at hy; exact hy.symm)), fun i s hs => (x.2 i s hs).keep k fun y hy => hn y (.inr ⟨i, by rw [← hl]; exact (List.getElem?_eq_some_iff.mp hs).1, hy⟩)⟩
theorem Th.wr_stable {b : Nat} {H : List Sv} {g : Nat → Option Nat} {Wr : Nat → List ByteArray} (hl : H.length = 8) : (Th.wr b H g Wr).stable := fun k hn x => WrP.keep hl k hn x
theorem WrP.lt {b : Nat} {H : List Sv} {g : Nat → Option Nat} {Wr : Nat → List ByteArray} {h : Hp} (hl : H.length = 8) (wf : Wf h) (x : WrP b H g Wr h) : ∀ y, wrF b g y → y < h.next := by
  intro y hy
  rcases hy with rfl | ⟨i, hi, hy⟩
  · exact x.1.glt wf
  · exact (x.2 i _ (List.getElem?_eq_getElem (by omega))).1.glt wf y hy

theorem app41 : AppT Try.prog 41 41 40 1 24 := AppT.of _ (by kernel_rfl)
theorem zero40 : zero? Try.prog 40 = some (.slice none 0 0) := by kernel_rfl

theorem wr_new {h : Hp} (wf : Wf h) : ∃ h', cmakeSlice Try.prog 41 (.int .i64 8) (.int .i64 8) h = some (.slice (some ⟨h.next, 0, none⟩) 8 8, h') ∧ WrP h.next (List.replicate 8 ⟨none, 0, 0⟩) (fun _ => none) (fun _ => []) h' ∧ Kept h h' ∧ Wf h' := by
  obtain ⟨h', h1, h2⟩ := make_slice wf app41 zero40 (by rfl) (n := 8) (m := 8) rfl (by omega)
  obtain ⟨b, k, n, w⟩ := new_blk wf h2
  refine ⟨h', h1, ⟨b, fun i s hs => ?_⟩, k, w⟩
  have := List.mem_of_getElem? hs
  rw [(List.mem_replicate.mp this).2]
  exact OwT.nil
theorem wr_sep0 (b : Nat) : WrSep b (List.replicate 8 ⟨none, 0, 0⟩) (fun _ => none) := ⟨by simp, by simp, fun _ _ _ => Ap.nl _, fun _ _ => rfl⟩

theorem wr_append {h h1 : Hp} (wf : Wf h) {b : Nat} {H : List Sv} {g : Nat → Option Nat} {Wr : Nat → List ByteArray} (x : WrP b H g Wr h) (sep : WrSep b H g) {no : Nat} {s : Sv} (hs : H[no]? = some s) (hl : s.l ≤ 8589934591) {data : ByteArray} (e1 : h1 = h.alloc [.string data] 9) :
    ∃ a' m n h2 h3 g', cappend Try.prog 40 40 (.slice s.a s.l s.c) (.slice (some ⟨h.next, 0, none⟩) 1 1) h1 = some (.slice a' m n, h2) ∧ h2.store b no [.slice a' m n] = some h3 ∧
      WrP b (H.set no ⟨a', m, n⟩) (fun i => if i = no then g' else g i) (fun i => if i = no then Wr i ++ [data] else Wr i) h3 ∧ WrSep b (H.set no ⟨a', m, n⟩) (fun i => if i = no then g' else g i) ∧ (g' = g no ∨ ∃ y, g' = some y ∧ h.next ≤ y) ∧ Keep (wrF b g) h h3 ∧ Wf h3 := by
  have hno : no < 8 := by rw [← sep.len]; exact (List.getElem?_eq_some_iff.mp hs).1
  have hblt := x.1.glt wf
  obtain ⟨a', c', g', h2, e2, o2, nw, k2, wf2⟩ := Ow.append1 wf app40 (x.2 no s hs).1 e1 rfl rfl (room (by omega) (by omega))
  have b2 : Blk h2 b (some b) (H.map fun s => s.v) := k2.blk x.1 fun y hy he => sep.nb no (by simp at hy; rw [he, hy])
  obtain ⟨h3, e3, b3, k3, n3, w3⟩ := b2.set (o := no) (v := .slice a' (s.l + 1) c') (by simp; rw [sep.len]; exact hno) rfl
  have hg' : g' ≠ some b := by
    rcases nw with rfl | ⟨y, rfl, hy⟩
    · exact sep.nb no
    · simp; omega
  have lts := x.lt sep.len wf
  have one : ∀ j, j ≠ no → Ap g' (g j) := by
    intro j hj
    rcases nw with rfl | ⟨y, rfl, hy⟩
    · exact sep.ap no j fun h => hj h.symm
    · intro z hz he
      by_cases hj8 : j < 8
      · have := lts z (.inr ⟨j, hj8, he⟩)
        simp at hz; omega
      · rw [sep.out j (by omega)] at he; simp at he
  refine ⟨a', _, c', h2, h3, g', e2, e3, ⟨?_, fun i t ht => ?_⟩, ⟨by rw [List.length_set]; exact sep.len, fun i => ?_, fun i j hij => ?_, fun i hi => ?_⟩, nw, ?_, w3 wf2⟩
  · rw [List.map_set]; exact b3
  · by_cases hi : i = no
    · subst hi
      rw [List.getElem?_set_self (by rw [sep.len]; exact hno)] at ht
      simp at ht; subst ht
      simp only [if_true]
      refine OwT.keep k3 ⟨?_, ?_⟩ fun y hy he => hg' (by rw [hy, he])
      · rw [flatS]; exact o2
      · have := (x.2 i s hs).2; simp; omega
    · rw [List.getElem?_set_ne (fun h => hi h.symm)] at ht
      simp only [if_neg hi]
      refine ((x.2 i t ht).keep k2 fun y hy he => sep.ap i no hi y hy he).keep k3 fun y hy he => sep.nb i (by rw [hy, he])
  · split
    · exact hg'
    · exact sep.nb i
  · by_cases hi : i = no
    · by_cases hj : j = no
      · omega
      · rw [if_pos hi, if_neg hj]; exact one j hj
    · by_cases hj : j = no
      · rw [if_neg hi, if_pos hj]; exact (one i hi).symm
      · rw [if_neg hi, if_neg hj]; exact sep.ap i j hij
  · rw [if_neg (by omega)]; exact sep.out i hi
  · refine (k2.mono wf fun y _ hy => .inr ⟨no, hno, hy⟩).trans wf k3 fun y _ hy => .inl hy

/-! ### what is told is as it was -/
theorem told_alike_if {h : Hp} {F1 : FuncId} {d : Nat} {L : List ByteArray} (wf : Wf h) {P N P2 N2 : Prop} (hN : ¬ N) (hN2 : ¬ N2) (c1 : C F1 [.pointer (some ⟨d, 0, none⟩)] h (Cloned encS 1 h L)) {G : Option Nat} {a0 : Option Addr} {l0 c0 : Nat} (s : SlT encS 1 h G a0 l0 c0 L) (hl : L.length ≤ 8589934592) {Z : Bool → Hp → Prop} (rest : ∀ h', Wf h' → Kept h h' → Z true h') :
    ∃ Q : Value → Hp → Prop, (P → C F1 [.pointer (some ⟨d, 0, none⟩)] h fun v h' => ∃ a l c, v = Value.slice a l c ∧ Q (Value.slice a l c) h') ∧ (N → ∃ a l c, Q (Value.slice a l c) h) ∧ ∀ a l c h', Q (Value.slice a l c) h' →
      ∃ Q : Value → Hp → Prop, (P2 → C 33 [Value.slice a l c, Value.slice a0 l0 c0] h' fun v h' => ∃ b, v = Value.bool b ∧ Q (Value.bool b) h') ∧ (N2 → ∃ b, Q (Value.bool b) h') ∧ ∀ b' h', Q (Value.bool b') h' → Z b' h' := by
  refine ⟨fun v hh => (∃ s g, v = Sv.v s ∧ OwT encS 1 hh g s L) ∧ Wf hh ∧ Kept h hh, fun _ => ?_, fun hf => absurd hf hN, ?_⟩
  · exact c1.wf fun v h1 wf1 _ ⟨s', g', e, o, _, k'⟩ => ⟨_, _, _, e, ⟨s', g', rfl, o⟩, wf1, k'⟩
  rintro a l c h1 ⟨⟨s1, g1, e1, o1⟩, wf1, k1⟩
  simp at e1
  obtain ⟨rfl, rfl, rfl⟩ := e1
  refine ⟨fun v hh => v = .bool true ∧ hh = h1, fun _ => ?_, fun hf => absurd hf hN2, ?_⟩
  · refine (c33 o1.slT (s.keep k1 fun _ _ hf => hf) (by rw [← o1.2]; exact hl)).mono fun v hh ⟨e, e'⟩ => ⟨_, e, ?_, e'⟩
    simp
  rintro b' h3 ⟨e, rfl⟩
  simp at e; subst e
  exact rest _ wf1 k1

/-! ### one step -/
theorem playD_safe {D : Dk} {S : List ByteArray} {Wr : Nat → List ByteArray} (sf : Safe D S Wr) (x : Stp) (so : x.ok) :
    (x.dO = 3 → (playD D x).2 = true ∧ Safe (playD D x).1 D.seen (fun _ => []) ∧ seenL (playD D x).1 = D.seen) ∧
    (x.dO = 1 → (playD D x).2 = true → Safe (playD D x).1 S (fun i => if i = (remW x.no 8).toNat then Wr i ++ [textB x.b x.st (textN x.len 1024)] else Wr i)) ∧
    (x.dO ≠ 3 → ¬ (x.dO = 1 ∧ (playD D x).2 = true) → Safe (playD D x).1 S Wr) := by
  have c := sf.calm
  have ho : ¬ D.off = true := by rw [c.on]; simp
  have e0 : eqI (0 : Int) 0 = true := rfl
  have ne : ∀ n : Int, n ≠ 0 → eqI n 0 = false := fun n h => by rw [Bool.eq_false_iff]; intro h2; exact h (eqI_iff.mp h2)
  have hA : ∀ kd, D.arms.map (Ar.dec kd) = [] := fun kd => by rw [c.arms]; rfl
  refine ⟨fun h3 => ?_, fun h1 h2 => ?_, fun h3 h1 => ?_⟩
  · have hp : playD D x = ((syncD D).1, eqI (syncD D).2 0) := by unfold playD; rw [if_neg (by omega), if_neg (by omega), if_pos h3]
    have w1 : syncD D = ({ D with arms := D.arms.map (Ar.dec 3), waits := [], dur := D.seen, sy := addW .i64 D.sy 1 }, 0) := by
      unfold syncD
      rw [if_neg ho, if_neg (by rw [actD_calm c.arms]; simp)]
    rw [hp, w1]
    exact ⟨rfl, sf.sync _ (hA 3) _, by unfold seenL; rw [if_neg (show ¬ D.off = true from ho)]⟩
  · have hp : playD D x = ((writeD D (remW x.no 8) (textB x.b x.st (textN x.len 1024))).1, eqI (writeD D (remW x.no 8) (textB x.b x.st (textN x.len 1024))).2 0) := by unfold playD; rw [if_pos h1]
    rw [hp] at h2 ⊢
    have hr := rem8 so.no0
    generalize remW x.no 8 = no at h2 hr ⊢
    generalize textB x.b x.st (textN x.len 1024) = data at h2 ⊢
    by_cases hb : no < D.seen.length
    rotate_left
    · have w1 : writeD D no data = (D, 41) := by unfold writeD; rw [if_neg ho, if_pos hb]
      rw [w1, ne 41 (by omega)] at h2; simp at h2
    by_cases hs : (data.size : Int) = D.bytes
    rotate_left
    · have w1 : writeD D no data = (D, 2) := by unfold writeD; rw [if_neg ho, if_neg (not_not_intro hb), if_pos hs]
      rw [w1, ne 2 (by omega)] at h2; simp at h2
    have w1 : writeD D no data = ({ D with arms := D.arms.map (Ar.dec 1), waits := D.waits ++ [⟨1, no, 0, data⟩], seen := D.seen.set no.toNat data, wr := addW .i64 D.wr 1 }, 0) := by
      unfold writeD
      rw [if_neg ho, if_neg (not_not_intro hb), if_neg (not_not_intro hs), if_neg (by rw [actD_calm c.arms]; simp)]
    rw [w1]
    have hbytes := sf.bytes
    refine sf.write hr hb (by omega) (fun i => ?_) _ (hA 1) _
    by_cases hi : i = no.toNat
    · rw [if_pos hi, if_pos (by omega)]
    · rw [if_neg hi, if_neg (by omega)]
  · by_cases hw : x.dO = 1
    · have hp : playD D x = ((writeD D (remW x.no 8) (textB x.b x.st (textN x.len 1024))).1, eqI (writeD D (remW x.no 8) (textB x.b x.st (textN x.len 1024))).2 0) := by unfold playD; rw [if_pos hw]
      have h2 : (playD D x).2 = false := by cases hq : (playD D x).2 with | false => rfl | true => exact absurd ⟨hw, hq⟩ h1
      rw [hp] at h2 ⊢
      generalize remW x.no 8 = no at h2 ⊢
      generalize textB x.b x.st (textN x.len 1024) = data at h2 ⊢
      by_cases hb : no < D.seen.length
      rotate_left
      · have w1 : writeD D no data = (D, 41) := by unfold writeD; rw [if_neg ho, if_pos hb]
        rw [w1]; exact sf
      by_cases hs : (data.size : Int) = D.bytes
      rotate_left
      · have w1 : writeD D no data = (D, 2) := by unfold writeD; rw [if_neg ho, if_neg (not_not_intro hb), if_pos hs]
        rw [w1]; exact sf
      have w1 : writeD D no data = ({ D with arms := D.arms.map (Ar.dec 1), waits := D.waits ++ [⟨1, no, 0, data⟩], seen := D.seen.set no.toNat data, wr := addW .i64 D.wr 1 }, 0) := by
        unfold writeD
        rw [if_neg ho, if_neg (not_not_intro hb), if_neg (not_not_intro hs), if_neg (by rw [actD_calm c.arms]; simp)]
      rw [w1, e0] at h2; simp at h2
    by_cases hg : x.dO = 2
    · have hp : playD D x = ((growD D x.n).1, eqI (growD D x.n).2 0) := by unfold playD; rw [if_neg hw, if_pos hg]
      rw [hp]
      by_cases hb : x.n < 1
      · have w1 : growD D x.n = (D, 2) := by unfold growD; rw [if_neg ho, if_pos hb]
        rw [w1]; exact sf
      by_cases hs : x.n > D.most - D.seen.length
      · have w1 : growD D x.n = (D, 5) := by unfold growD; rw [if_neg ho, if_neg hb, if_pos hs]
        rw [w1]; exact sf
      have w1 : growD D x.n = ({ D with arms := D.arms.map (Ar.dec 2), waits := D.waits ++ [⟨2, 0, D.seen.length + x.n, ⟨#[]⟩⟩], seen := stretchL D.bytes D.seen (D.seen.length + x.n), gr := addW .i64 D.gr 1 }, 0) := by
        unfold growD
        rw [if_neg ho, if_neg hb, if_neg hs, if_neg (by rw [actD_calm c.arms]; simp)]
      rw [w1]
      exact sf.grow (by omega) _ (hA 2) _ _
    · have hp : playD D x = (D, true) := by unfold playD; rw [if_neg hw, if_neg hg, if_neg h3]
      rw [hp]; exact sf
end Go.Proofs.Ytfkhjbfddeahaaa.kc
