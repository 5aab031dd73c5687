/- Contracts: Arm. -/
import Derived.Test.YtfkhjbfddeahaaaDiskN
set_option linter.unusedVariables false
set_option linter.unusedSimpArgs false
namespace Go.Proofs.Ytfkhjbfddeahaaa.kc
open Go Go.Cn Go.Proofs Go.Proofs.Ytfkhjbfddeahaaa.vc

def Ar.enc4 (x : Ar) : List Value := [.int .u8 x.on, .int .i64 x.nth, .bool x.pw, .slice x.fa x.fl x.fc]
theorem Ar.w4 (x : Ar) : x.enc4.length = 4 := rfl
def Ar.bad (x : Ar) : Bool := sel (gtI x.on 3) true (ltI x.nth 1)
def Ar.key (x : Ar) : Int × Int × Bool × List Int × Int := (x.on, x.nth, x.pw, x.fates, x.left)
def Ar.key' (x : Ar) : Int × Int × Bool × List Int × Int := (x.on, x.nth, x.pw, x.fates, x.nth)

def armE (D : Dk) (Ls : List Ar) : Int := if D.off = true then 7 else if Ls.any Ar.bad = true then 2 else if D.arms.length + Ls.length > 64 then 4 else 0
def ArmTo (D : Dk) (Ls : List Ar) (D' : Dk) : Prop := (armE D Ls ≠ 0 ∧ D' = D) ∨ (armE D Ls = 0 ∧ ∃ N : List Ar, N.map Ar.key = Ls.map Ar.key' ∧ D' = { D with arms := D.arms ++ N })

section
variable {h : Hp} {d g0 : Nat} {gs gd gw ga : Option Nat} {R : Nat → Prop} {D : Dk} {s dd w a : Sv}

theorem c44 {k M N : Nat} (x : DX h d g0 gs gd gw ga R D s dd w a) (fit : D.fit k M N) {G : Option Nat} {aa : Option Addr} {al ac : Nat} {Ls : List Ar} (sa : SlT Ar.enc4 4 h G aa al ac Ls) (hG : ∀ y, G = some y → ¬ own g0 gs gd gw ga y)
    (hF : ∀ z ∈ Ls, ∃ Gz, (∀ y, Gz = some y → ¬ own g0 gs gd gw ga y) ∧ SlT encF 1 h Gz z.fa z.fl z.fc z.fates) (hl : al ≤ 1048576) (hfl : ∀ z ∈ Ls, z.fates.length ≤ 8589934592) :
    C 44 [.pointer (some ⟨d, 0, none⟩), .slice aa al ac] h fun v h' => v = .int .i64 (armE D Ls) ∧ ∃ D', ArmTo D Ls D' ∧ Nx h d g0 gs gd gw ga R D' h' := by
  refine SCalls_of_vw fol (pf := pf) (shp := shp44) (f := 44) (fn := Try.f44) (by kernel_rfl) (c := Try.f44.body.getD .skip) (by kernel_rfl) (by kernel_rfl) fun wf => ?_
  rw [vc44]
  have hal := sa.len
  refine (c62 x fit.ok.pos).mono fun v h' ⟨e, e'⟩ => ⟨_, e, ?_⟩
  subst e'
  by_cases ho : D.off = true
  · rw [if_pos ho, if_pos (by rfl)]
    have : armE D Ls = 7 := by unfold armE; rw [if_pos ho]
    rw [this]; exact ⟨rfl, D, .inl ⟨by rw [this]; omega, rfl⟩, x.nx⟩
  rw [if_neg ho, if_neg (by rw [neI_iff]; simp)]
  refine ⟨fun vals m hh => ∃ i : Nat, [.int .i64 i] = vals ∧ i ≤ al ∧ m = al - i ∧ Wf hh ∧ Kept h' hh ∧ (Ls.take i).any Ar.bad = false, ⟨al, 0, rfl, Nat.zero_le _, rfl, wf, Keep.refl _ _, by simp⟩, ?_⟩
  rintro n m hh ⟨i, e, hi, rfl, wf1, k1, hno⟩
  simp at e; subst e
  have s1 := sa.keep k1 fun _ _ hf => hf
  split
  · rename_i hlt
    have hlt : i < al := by rw [ltI_iff] at hlt; simp only [natI] at hlt; omega
    have hz : Ls[i]? = some (Ls[i]'(by omega)) := List.getElem?_eq_getElem _
    generalize Ls[i]'(by omega) = z at hz
    obtain ⟨i1, i2⟩ := s1.get Ar.w4 hz (j := 0) (m := 4) (by omega)
    refine ⟨⟨i1, by simp only [inR]; omega⟩, z.on, z.nth, z.pw, z.fa, z.fl, z.fc, ⟨rfl, i2.trans rfl⟩, ?_⟩
    intro h2 e2
    obtain ⟨b2, k2, n2, wf2⟩ := new_blk wf1 e2
    obtain ⟨h3, e3, b3, k3, _, n3, wf3⟩ := set_blk wf2 b2 k2 wf1 (Nat.le_refl _) (vs := z.enc4) rfl rfl
    refine ⟨rfl, h3, e3, rfl, z.on, ⟨rfl, b3.one rfl⟩, fun _ => rfl, z.nth, fun _ => ⟨rfl, b3.one rfl⟩, ?_⟩
    have k13 := k1.trans wf k3 fun _ _ hf => hf
    by_cases hb : z.bad = true
    · rw [if_pos (show sel (gtI z.on 3) true (ltI z.nth 1) = true from hb)]
      have : armE D Ls = 2 := by unfold armE; rw [if_neg ho, if_pos (List.any_eq_true.mpr ⟨z, List.mem_of_getElem? hz, hb⟩)]
      rw [this]
      exact ⟨rfl, D, .inl ⟨by rw [this]; omega, rfl⟩, Nx.after wf k13 (x.kept k13).nx⟩
    · rw [if_neg (show ¬ sel (gtI z.on 3) true (ltI z.nth 1) = true from hb)]
      refine ⟨al - (i + 1), by simp only [lessN]; omega, i + 1, by rw [addW_small (by omega) (by omega)]; rfl, by omega, rfl, wf3, k13, ?_⟩
      rw [List.take_add_one, hz, List.any_append, hno]; simpa using hb
  · rename_i hlt
    have hil : i = al := by rw [ltI_iff] at hlt; simp only [natI] at hlt; omega
    have ht : Ls.take i = Ls := List.take_of_length_le (by omega)
    rw [ht] at hno
    have x1 := x.kept k1
    have hal' := x1.arms.2
    have hA := fit.arms
    refine ⟨rfl, rfl, a.a, a.l, a.c, ⟨rfl, x1.blk.one rfl⟩, ?_⟩
    rw [addW_small (by simp only [natI]; omega) (by simp only [natI]; omega)]
    by_cases h64 : D.arms.length + Ls.length > 64
    · rw [if_pos (by rw [gtI_iff]; simp only [natI]; omega)]
      have : armE D Ls = 4 := by unfold armE; rw [if_neg ho, if_neg (by rw [hno]; simp), if_pos h64]
      rw [this]
      exact ⟨rfl, D, .inl ⟨by rw [this]; omega, rfl⟩, Nx.after wf k1 x1.nx⟩
    rw [if_neg (by rw [gtI_iff]; simp only [natI]; omega)]
    have hE : armE D Ls = 0 := by unfold armE; rw [if_neg ho, if_neg (by rw [hno]; simp), if_neg h64]
    obtain ⟨l0, l1, l2, l3, l4⟩ := x.lts wf
    refine ⟨fun vals m hh => ∃ (i : Nat) (ga' : Option Nat) (R' : Nat → Prop) (a' : Sv) (N : List Ar), [.int .i64 i] = vals ∧ i ≤ al ∧ m = al - i ∧ Wf hh ∧ DX hh d g0 gs gd gw ga' R' { D with arms := D.arms ++ N } s dd w a' ∧ N.map Ar.key = (Ls.take i).map Ar.key' ∧ Nw h' ga' ga ∧ (∀ y, R' y → R y ∨ h'.next ≤ y) ∧ Keep (own g0 gs gd gw ga) h' hh,
      ⟨al, 0, ga, R, a, [], rfl, Nat.zero_le _, rfl, wf1, by simpa using x1, by simp, Nw.same, fun _ hy => .inl hy, k1.mono wf fun _ _ hf => hf.elim⟩, ?_⟩
    clear hlt ht hi hno
    rintro n m h5 ⟨i, ga', R', a', N, e, hi, rfl, wf5, x5, hN, nw5, hR5, k5⟩
    simp at e; subst e
    have hNl : N.length = i := by have := congrArg List.length hN; simp at this; omega
    have s5 := sa.keep k5 hG
    split
    · rename_i hlt
      have hlt : i < al := by rw [ltI_iff] at hlt; simp only [natI] at hlt; omega
      have hz : Ls[i]? = some (Ls[i]'(by omega)) := List.getElem?_eq_getElem _
      generalize Ls[i]'(by omega) = z at hz
      have hzm := List.mem_of_getElem? hz
      obtain ⟨Gz, hGz, sz⟩ := hF z hzm
      obtain ⟨i1, i2⟩ := s5.get Ar.w4 hz (j := 0) (m := 4) (by omega)
      refine ⟨⟨i1, by simp only [inR]; omega⟩, z.on, z.nth, z.pw, z.fa, z.fl, z.fc, ⟨rfl, i2.trans rfl⟩, ?_⟩
      intro h6 e6
      obtain ⟨b6, k6, n6, wf6⟩ := new_blk wf5 e6
      obtain ⟨h7, e7, b7, k7, _, n7, wf7⟩ := set_blk wf6 b6 k6 wf5 (Nat.le_refl _) (vs := z.enc4) rfl rfl
      have sz7 := (sz.keep k5 hGz).keep k7 fun _ _ hf => hf
      refine ⟨rfl, h7, e7, rfl, z.fa, z.fl, z.fc, ⟨rfl, b7.one rfl⟩, ?_⟩
      refine (c72 sz7 (by rw [← sz7.len]; exact hfl z hzm)).wf fun v h8 wf8 _ ⟨s8, g8, e8, o8, m8, k8⟩ => ⟨s8.a, s8.l, s8.c, e8, rfl, rfl, ?_⟩
      have b8 : Blk h8 h5.next (some h5.next) z.enc4 := k8.blk b7
      obtain ⟨h9, e9, b9, k9, n9, w9⟩ := b8.set (o := 3) (v := s8.v) (by simp [Ar.enc4]) rfl
      have wf9 := w9 wf8
      have k59 : Kept h5 h9 := (k7.trans wf5 k8 fun _ _ hf => hf).trans wf5 k9 fun y hy he => by omega
      have x9 := x5.kept k59
      refine ⟨h9, e9, rfl, rfl, a'.a, a'.l, a'.c, ⟨rfl, x9.blk.one rfl⟩, z.on, z.nth, z.pw, s8.a, s8.l, s8.c, ⟨rfl, (b9.cells (o := 0) (n := 4) (Nat.le_of_ble_eq_true rfl)).trans rfl⟩, rfl, z.nth, ⟨rfl, b9.one rfl⟩, ?_⟩
      intro h10 e10
      obtain ⟨b10, k10, n10, wf10⟩ := new_blk wf9 e10
      have x10 := x9.kept k10
      refine ⟨⟨rfl, x10.blk.one rfl⟩, ?_⟩
      have hal9 : (D.arms ++ N).length = a'.l := x9.arms.2
      rw [List.length_append] at hal9
      obtain ⟨a11, c11, g11, h11, e11, o11, nw11, k11, wf11⟩ := Ow.append1 wf9 app99 x9.arms.1 e10 rfl rfl (room (by omega) (by omega))
      have b11 : Blk h11 d (some g0) (dcells { D with arms := D.arms ++ N } s dd w a') := k11.blk x9.blk fun y hy he => x9.a4 y hy he
      obtain ⟨h12, e12, b12, k12, n12, w12⟩ := b11.set (o := 7) (v := .slice a11 (a'.l + 1) c11) (by simp [dcells]) rfl
      refine ⟨a11, _, c11, h11, e11, rfl, rfl, rfl, h12, e12, al - (i + 1), by simp only [lessN]; omega, ?_⟩
      have q57 := k7.next
      have q78 := k8.next
      have q89 := k9.next
      have hg8 : ∀ y, g8 = some y → h7.next ≤ y ∧ y < h8.next := fun y hy => by
        refine ⟨?_, o8.1.glt wf8 y hy⟩
        rcases m8 with rfl | ⟨z, rfl, hz⟩
        · simp at hy
        · simp at hy; omega
      have hg11 : ∀ y, g11 = some y → ga' = some y ∨ h9.next ≤ y := fun y hy => by
        rcases nw11 with rfl | ⟨z, rfl, hz⟩
        · exact .inl hy
        · simp at hy; subst hy; exact .inr hz
      obtain ⟨_, _, _, _, la5⟩ := x5.lts wf5
      have o8' : SlT encF 1 h11 g8 s8.a s8.l s8.c z.fates := ((o8.keep k9 fun y hy he => by have := (hg8 y hy).1; omega).keep k11 fun y hy he => by have := la5 y he; have := (hg8 y hy).1; omega).slT
      have x12 : DX h12 d g0 gs gd gw g11 (fun y => R' y ∨ g8 = some y) { D with arms := D.arms ++ N ++ [⟨z.on, z.nth, z.pw, s8.a, s8.l, s8.c, z.nth, z.fates⟩] } s dd w ⟨a11, a'.l + 1, c11⟩ := by
        have k5_11 : Keep (fun y => ga' = some y) h5 h11 := (k59.mono wf5 (S' := fun y => ga' = some y) fun _ _ hf => hf.elim).trans wf5 k11 fun _ _ hy => hy
        refine x5.setArms wf5 (h1 := h11) (h2 := h12) (ga' := g11) (L := D.arms ++ N ++ [⟨z.on, z.nth, z.pw, s8.a, s8.l, s8.c, z.nth, z.fates⟩]) (R' := fun y => R' y ∨ g8 = some y) k5_11 (a' := ⟨a11, a'.l + 1, c11⟩) ⟨?_, ?_⟩ ?_ k12 b12 (fun y hy => ?_) (fun y hy => ?_)
        · have : (D.arms ++ N ++ [Ar.mk z.on z.nth z.pw s8.a s8.l s8.c z.nth z.fates]).flatMap Ar.enc = (D.arms ++ N).flatMap Ar.enc ++ [.int .u8 z.on, .int .i64 z.nth, .bool z.pw, .slice s8.a s8.l s8.c, .int .i64 z.nth] := by
            rw [List.flatMap_append]; simp [Ar.enc]
          rw [this]; exact o11
        · rw [List.length_append, List.length_append]; simp; omega
        · rcases nw11 with rfl | ⟨z, rfl, hz⟩
          · exact Nw.same
          · exact .inr (.inr ⟨z, rfl, by omega⟩)
        · rcases hy with hy | hy
          · refine ⟨.inl hy, Nat.lt_of_lt_of_le (x5.rlt y hy) k5_11.next, fun he => ?_⟩
            rcases hg11 y he with h1 | h1
            · exact (x5.ro y hy).2.2.2.2 h1
            · have := x5.rlt y hy; omega
          · obtain ⟨q1, q2⟩ := hg8 y hy
            refine ⟨.inr (by omega), by have := k11.next; omega, fun he => ?_⟩
            rcases hg11 y he with h1 | h1
            · have := la5 y h1; omega
            · omega
        · rcases List.mem_append.mp hy with hy | hy
          · obtain ⟨Gy, hGy, sy⟩ := x5.fates y hy
            exact ⟨Gy, fun z hz => .inl (hGy z hz), sy.keep k5_11 fun z hz he => (x5.ro z (hGy z hz)).2.2.2.2 he⟩
          · simp at hy; subst hy
            exact ⟨g8, fun z hz => .inr hz, o8'⟩
      have x12' : DX h12 d g0 gs gd gw g11 (fun y => R' y ∨ g8 = some y) { D with arms := D.arms ++ (N ++ [⟨z.on, z.nth, z.pw, s8.a, s8.l, s8.c, z.nth, z.fates⟩]) } s dd w ⟨a11, a'.l + 1, c11⟩ := by rw [← List.append_assoc]; exact x12
      refine ⟨i + 1, g11, _, _, _, by rw [addW_small (by omega) (by omega)]; rfl, by omega, rfl, w12 wf11, x12', ?_, ?_, fun y hy => ?_, ?_⟩
      · rw [List.take_add_one, hz]; simp [hN, Ar.key, Ar.key']
      · rcases nw11 with rfl | ⟨z, rfl, hz⟩
        · exact nw5
        · exact .inr (.inr ⟨z, rfl, by have := k5.next; omega⟩)
      · rcases hy with hy | hy
        · exact hR5 y hy
        · have := (hg8 y hy).1; have := k5.next; exact .inr (by omega)
      · refine ((k5.trans wf k59 fun _ _ hf => hf.elim).trans wf k11 fun y hy he => ?_).trans wf k12 fun y hy he => .inl he
        rcases nw5 with rfl | rfl | ⟨z, rfl, hz⟩
        · exact .inr (.inr (.inr (.inr he)))
        · simp at he
        · simp at he; omega
    · rename_i hlt
      have hil : i = al := by rw [ltI_iff] at hlt; simp only [natI] at hlt; omega
      have ht : Ls.take i = Ls := List.take_of_length_le (by omega)
      rw [ht] at hN
      rw [hE]
      exact ⟨rfl, _, .inr ⟨hE, N, hN, rfl⟩, gs, gd, gw, ga', R', s, dd, w, a', x5, Nw.same, Nw.same, Nw.same, nw5, hR5, k5⟩
end
end Go.Proofs.Ytfkhjbfddeahaaa.kc
