/- Joined: SzO, SzP, SzQ, SzR, SzW, SzS, PkN, Clo. -/
import Derived.Test.YtfgdeboogfbgcaaGreatDoorFn14
import Derived.Test.YtfgdeboogfbgcaaGreatDoorProg
import Derived.KernelRfl
/- Contract of the program's own sha256: Write. -/
set_option linter.unusedVariables false
namespace Go.Proofs.YtfgdeboogfbgcaaGreatDoor.sb
open Go Go.Cn Go.Cn.Sha Go.Proofs Go.Proofs.YtfgdeboogfbgcaaGreatDoor.vc

set_option maxRecDepth 20000 in
theorem c258 {h : Hp} {b : Nat} {gr ga : Option Nat} {aa : Option Addr} {la ca : Nat} {bs : List Nat} {parts : List ByteArray} (hh : HS h b gr (hst bs) (rest bs) bs.length) (hbo : ∀ x ∈ bs, x < 256)
    (sp : SlT (fun s => [Value.string s]) 1 h ga aa la ca parts) (hga : ∀ x, ga = some x → ¬ (x = b ∨ gr = some x)) (hgl : ∀ x, ga = some x → x < h.next) (hsz : bs.length + (parts.flatMap bytes8).length ≤ 1073741824) (hla : la ≤ 1073741824) :
    C 306 [.pointer (some ⟨b, 0, none⟩), .slice aa la ca] h fun v h' => v = .tuple #[] ∧ ∃ gr', HS h' b gr' (hst (bs ++ parts.flatMap bytes8)) (rest (bs ++ parts.flatMap bytes8)) (bs ++ parts.flatMap bytes8).length ∧ (gr' = gr ∨ ∃ y, gr' = some y ∧ h.next ≤ y) ∧ Keep (fun x => x = b ∨ gr = some x) h h' := by
  refine SCalls_of_vw fol (pf := pf) (shp := shp258) (f := 306) (fn := Tryz.f306) (by kernel_rfl) (c := Tryz.f306.body.getD .skip) (by kernel_rfl) (by kernel_rfl) fun wf => ?_
  rw [vc258]
  obtain ⟨a0, c0, hb0, ho0, hg0⟩ := id hh
  refine (c266 hb0).mono fun v h1 ⟨e1, e2⟩ => ?_
  cases e2
  refine ⟨false, e1, ?_⟩
  rw [if_neg (by simp)]
  have hbl := hb0.lt wf
  have hpl := sp.len
  refine ⟨fun vals m hh => ∃ (i : Nat) (gr' : Option Nat), [.int .i64 (i : Int)] = vals ∧ m = la - i ∧ i ≤ la ∧ Wf hh ∧ HS hh b gr' (hst (bs ++ (parts.take i).flatMap bytes8)) (rest (bs ++ (parts.take i).flatMap bytes8)) (bs ++ (parts.take i).flatMap bytes8).length ∧ (gr' = gr ∨ ∃ y, gr' = some y ∧ h.next ≤ y) ∧ Keep (fun x => x = b ∨ gr = some x) h hh,
    ⟨la, 0, gr, rfl, rfl, Nat.zero_le _, wf, by simpa using hh, .inl rfl, Keep.refl _ _⟩, ?_⟩
  rintro x m h2 ⟨i, gr2, e, rfl, hi, wf2, hs2, hg2, k2⟩
  simp at e
  subst e
  by_cases hc : ltI (i : Int) (natI la) = true
  · rw [if_pos hc]
    have hila : i < la := by rw [ltI_iff, natI_eq] at hc; omega
    have ep : parts[i]? = some (parts[i]'(by omega)) := List.getElem?_eq_getElem _
    generalize parts[i]'(by omega) = s at ep
    have hr := SlT.get (enc := fun s => [Value.string s]) (w := 1) (fun _ => rfl) (sp.keep k2 hga) ep (j := 0) (m := 1) (Nat.le_refl 1)
    obtain ⟨a2, c2, b2, o2, g2⟩ := hs2
    have hst8 := hst_len (bs ++ (parts.take i).flatMap bytes8)
    have etk : (parts.take (i + 1)).flatMap bytes8 = (parts.take i).flatMap bytes8 ++ bytes8 s := by
      rw [List.take_add_one, ep]
      simp
    have hsz2 : bs.length + ((parts.take i).flatMap bytes8).length + s.size ≤ 1073741824 := by
      have : parts = parts.take (i + 1) ++ parts.drop (i + 1) := (List.take_append_drop _ _).symm
      rw [this, List.flatMap_append, etk] at hsz
      simp only [List.length_append, bytes8_len] at hsz
      omega
    have hcur : ∀ x ∈ bs ++ (parts.take i).flatMap bytes8, x < 256 := by
      intro x hx
      rcases List.mem_append.1 hx with hx | hx
      · exact hbo x hx
      · obtain ⟨y, _, hy⟩ := List.mem_flatMap.1 hx
        exact bytes8_ok y x hy
    have elen : (bs ++ (parts.take i).flatMap bytes8).length = bs.length + ((parts.take i).flatMap bytes8).length := List.length_append
    generalize hcur0 : bs ++ (parts.take i).flatMap bytes8 = cur at *
    rw [← elen] at hsz2
    refine ⟨⟨hr.1, Int.natCast_nonneg _, by omega⟩, s, ⟨rfl, hr.2.trans rfl⟩, rfl, rfl, _, ⟨rfl, b2.one (hc10 hst8 _ _ _ _)⟩, rfl, rfl, rfl, ?_⟩
    have en : addW .i64 (cur.length : Int) (natI (lenS s)) = ((cur.length + s.size : Nat) : Int) := by
      rw [addW_small (by rw [natI_eq]; unfold lenS; omega) (by rw [natI_eq]; unfold lenS; omega), natI_eq]
      unfold lenS
      omega
    rw [en]
    obtain ⟨h3, q1, q2, q3, q4, q5⟩ := b2.set (o := 10) (by rw [hc_len hst8]; omega) (v := .int .i64 ((cur.length + s.size : Nat) : Int)) rfl
    rw [hs10 hst8] at q2
    refine ⟨h3, q1, ?_⟩
    have k3 : Keep (fun x => x = b ∨ gr = some x) h h3 := k2.trans wf q3 fun x hx q => .inl q
    have o3 := o2.keep q3 fun x hx q => by subst q; exact g2 hx
    refine ⟨fun vals m hh => ∃ (p : ByteArray) (t : List Nat) (gr' : Option Nat), [.string p] = vals ∧ m = p.size ∧ t ++ bytes8 p = bytes8 s ∧ Wf hh ∧ HS hh b gr' (hst (cur ++ t)) (rest (cur ++ t)) (cur.length + s.size) ∧ (gr' = gr ∨ ∃ y, gr' = some y ∧ h.next ≤ y) ∧ Keep (fun x => x = b ∨ gr = some x) h hh,
      ⟨s.size, s, [], gr2, rfl, rfl, rfl, q5 wf2, by rw [List.append_nil]; exact ⟨a2, c2, q2, o3, g2⟩, hg2, k3⟩, ?_⟩
    clear q1 q2 q3 q4 q5 o3 o2 b2 hr k3 k2
    rintro x m1 h4 ⟨p, t, gr4, e, rfl, htp, wf4, ⟨a4, c4, b4, o4, g4⟩, hg4, k4⟩
    simp at e
    subst e
    have hst8 := hst_len (cur ++ t)
    by_cases hc : gtI (natI (lenS p)) 0 = true
    · rw [if_pos hc]
      have hp0 : 0 < p.size := by rw [gtI_iff, natI_eq] at hc; unfold lenS at hc; omega
      have hl64 : (rest (cur ++ t)).length < 64 := by rw [rest_len]; omega
      have hlt : t.length + p.size = s.size := by
        have := congrArg List.length htp
        simpa [bytes8_len] using this
      obtain ⟨kk, hkk, hk0, hk1, hk2, hk3⟩ : ∃ kk : Nat, minI (subW .i64 64 (natI (rest (cur ++ t)).length)) (natI (lenS p)) = (kk : Int) ∧ 0 < kk ∧ kk ≤ p.size ∧ (rest (cur ++ t)).length + kk ≤ 64 ∧ ((rest (cur ++ t)).length + kk < 64 → kk = p.size) := by
        have e1 : subW .i64 64 (natI (rest (cur ++ t)).length) = ((64 - (rest (cur ++ t)).length : Nat) : Int) := by
          rw [natI_eq, subW_small (by omega) (by omega)]; omega
        rw [e1]
        unfold minI lenS
        rw [natI_eq]
        by_cases hq : 64 - (rest (cur ++ t)).length ≤ p.size
        · exact ⟨64 - (rest (cur ++ t)).length, by rw [if_pos (by omega)], by omega, hq, by omega, fun _ => by omega⟩
        · exact ⟨p.size, by rw [if_neg (by omega)], hp0, Nat.le_refl _, by omega, fun _ => rfl⟩
      have r9 := b4.one (hc9 hst8 a4 (rest (cur ++ t)).length c4 (cur.length + s.size))
      refine ⟨rfl, rfl, _, _, _, ⟨rfl, r9⟩, rfl, rfl, _, _, _, ⟨rfl, r9⟩, ?_⟩
      rw [hkk]
      have sb1 := sub8 p (l := 0) (h := kk) (Nat.zero_le _) hk1
      rw [List.drop_zero, Nat.sub_zero] at sb1
      have sb2 := sub8 p (l := kk) (h := p.size) hk1 (Nat.le_refl _)
      have hrl : (((bytes8 p).drop kk).take (p.size - kk)) = (bytes8 p).drop kk := List.take_of_length_le (by rw [List.length_drop, bytes8_len]; exact Nat.le_refl _)
      rw [hrl] at sb2
      have hsz1 : (strSub p 0 (kk : Int)).size = kk := by
        rw [← bytes8_len, show strSub p 0 (kk : Int) = strSub p ((0 : Nat) : Int) (kk : Int) from rfl, sb1, List.length_take, bytes8_len]
        omega
      have hdat : dataOf 1 (.string (strSub p 0 (kk : Int))) h4 = some (kk, ((bytes8 p).take kk).map u8) := by
        have : dataOf 1 (.string (strSub p 0 (kk : Int))) h4 = some ((strSub p 0 (kk : Int)).size, byteCells (strSub p 0 (kk : Int))) := rfl
        rw [this, hsz1, byteCells_eq]
        rw [show strSub p 0 (kk : Int) = strSub p ((0 : Nat) : Int) (kk : Int) from rfl, sb1]
      have htk : ((bytes8 p).take kk).length = kk := by rw [List.length_take, bytes8_len]; omega
      obtain ⟨a5, c5, g5, h5, y1, y2, y3, y4, y5⟩ := Ow.append wf4 app9 o4 hdat (by rw [List.length_map, htk, Nat.mul_one]) (isCell_u8 _) (roomy_of (by omega))
      have b5 := y4.blk b4 fun x hx q => by simp at hx; subst hx; exact g4 q
      obtain ⟨h6, q1, q2, q3, q4, q5⟩ := b5.set (o := 9) (by rw [hc_len hst8]; omega) (v := .slice a5 ((rest (cur ++ t)).length + kk) c5) rfl
      rw [hs9 hst8] at q2
      have g5b : g5 ≠ some b := by
        rcases y3 with e | ⟨y, e, hy⟩
        · rw [e]; exact g4
        · rw [e]; intro e'; simp at e'; have := b4.lt wf4; omega
      have o6 := y2.keep q3 fun x hx q => by subst q; exact g5b hx
      have k6 : Keep (fun x => x = b ∨ gr = some x) h h6 := by
        refine (k4.trans wf y4 fun x hx q => ?_).trans wf q3 fun x hx q => .inl q
        rcases hg4 with e | ⟨y, e, hy⟩
        · rw [← e]; exact .inr q
        · rw [e] at q; simp at q; omega
      have hg5 : g5 = gr ∨ ∃ y, g5 = some y ∧ h.next ≤ y := by
        rcases y3 with e | ⟨y, e, hy⟩
        · rw [e]; exact hg4
        · exact .inr ⟨y, e, Nat.le_trans k4.next hy⟩
      have wf6 := q5 y5
      refine ⟨⟨Int.le_refl _, Int.natCast_nonneg _, by omega⟩, a5, _, c5, h5, y1, rfl, rfl, rfl, h6, q1, ⟨Int.natCast_nonneg _, by rw [natI_eq]; unfold lenS; omega, by rw [natI_eq]; unfold lenS; omega⟩, rfl, rfl, _, _, _, ⟨rfl, q2.one (hc9 hst8 _ _ _ _)⟩, ?_⟩
      have enx : strSub p (kk : Int) (natI (lenS p)) = strSub p (kk : Int) (p.size : Int) := rfl
      rw [enx]
      have hszr : (strSub p (kk : Int) (p.size : Int)).size = p.size - kk := by
        rw [← bytes8_len, sb2, List.length_drop, bytes8_len]
      have htp' : (t ++ (bytes8 p).take kk) ++ bytes8 (strSub p (kk : Int) (p.size : Int)) = bytes8 s := by
        rw [sb2, List.append_assoc, List.take_append_drop, htp]
      have ecur : cur ++ (t ++ (bytes8 p).take kk) = (cur ++ t) ++ (bytes8 p).take kk := by rw [List.append_assoc]
      by_cases he : eqI (natI ((rest (cur ++ t)).length + kk)) 64 = true
      · rw [if_pos he]
        have h64 : (rest (cur ++ t)).length + kk = 64 := by rw [eqI_iff, natI_eq] at he; omega
        have hfl : (rest (cur ++ t) ++ (bytes8 p).take kk).length = 64 := by rw [List.length_append, htk]; exact h64
        have hcl := (o6.sl).cells (i := 0) (m := 64) (by omega) (by omega)
        rw [← List.map_append, Nat.add_zero, List.drop_zero, List.take_of_length_le (by rw [List.length_map, hfl]; exact Nat.le_refl _)] at hcl
        obtain ⟨f1, f2⟩ := take_full (bs := cur ++ t) (t := (bytes8 p).take kk) (by rw [htk]; exact h64)
        have hLok : ∀ x ∈ rest (cur ++ t) ++ (bytes8 p).take kk, x < 256 := by
          intro x hx
          rcases List.mem_append.1 hx with hx | hx
          · refine rest_ok (fun y hy => ?_) x hx
            rcases List.mem_append.1 hy with hy | hy
            · exact hcur y hy
            · exact bytes8_ok s y (by rw [← htp]; exact List.mem_append_left _ hy)
          · exact bytes8_ok p x (List.mem_of_mem_take hx)
        have K267 := c267 q2 (n := 1) (hs := hst (cur ++ t)) (bs := rest (cur ++ t) ++ (bytes8 p).take kk) (by rw [hc_len hst8]; omega) (hc1 hst8 _ _ _ _) hst8 hfl hLok (hst_ok _)
        rw [hsp1 hst8 _ _ _ _ (block_len hst8), ← f2] at K267
        have o7 := o6.cut (k := 0) (Nat.zero_le _)
        rw [Nat.zero_mul, List.take_zero] at o7
        have hlea : (rest (cur ++ t)).length + kk ≤ c5 := o6.sl.le
        have hspo : spotOk 1 a5 := by
          have := o6.sl.mem
          unfold spotOk
          cases a5 with
          | none => trivial
          | some q => obtain ⟨b', o', sp'⟩ := q; exact this.1
        clear f2 hLok o6 y1 y2 hdat
        generalize rest (cur ++ t) ++ (bytes8 p).take kk = L at hcl K267 hfl
        obtain ⟨x0, x1, x2, x3, x4, x5, x6, x7, x8, x9, x10, x11, x12, x13, x14, x15, x16, x17, x18, x19, x20, x21, x22, x23, x24, x25, x26, x27, x28, x29, x30, x31, x32, x33, x34, x35, x36, x37, x38, x39, x40, x41, x42, x43, x44, x45, x46, x47, x48, x49, x50, x51, x52, x53, x54, x55, x56, x57, x58, x59, x60, x61, x62, x63, rfl⟩ := ex64 hfl
        refine ⟨rfl, rfl, rfl, rfl, _, _, _, ⟨rfl, q2.one (hc9 hst8 _ _ _ _)⟩, ⟨hcl.1, by unfold leN; omega⟩, _, _, _, _, _, _, _, _, _, _, _, _, _, _, _, _, _, _, _, _, _, _, _, _, _, _, _, _, _, _, _, _, _, _, _, _, _, _, _, _, _, _, _, _, _, _, _, _, _, _, _, _, _, _, _, _, _, _, _, _, _, _, _, _, ⟨rfl, hcl.2.trans rfl⟩, ?_⟩
        refine K267.wf fun v h7 wf7 hn7 ⟨e7, b7, k7⟩ => ?_
        have hst8' := hst_len (cur ++ t ++ (bytes8 p).take kk)
        obtain ⟨h8, p1, p2, p3, p4, p5⟩ := b7.set (o := 9) (by rw [hc_len hst8']; omega) (v := .slice a5 0 c5) rfl
        rw [hs9 hst8'] at p2
        refine ⟨e7, rfl, rfl, _, _, _, ⟨rfl, b7.one (hc9 hst8' _ _ _ _)⟩, ⟨⟨Int.le_refl _, Int.le_refl _, Int.natCast_nonneg _, Int.le_refl _⟩, hspo⟩, rfl, rfl, rfl, h8, ?_, (strSub p (kk : Int) (p.size : Int)).size, by simp only [lessN]; omega, strSub p (kk : Int) (p.size : Int), t ++ (bytes8 p).take kk, g5, rfl, rfl, htp', p5 wf7, ?_, hg5, (k6.trans wf k7 fun x hx q => .inl q).trans wf p3 fun x hx q => .inl q⟩
        · rw [cutA_zero]
          exact p1
        · rw [ecur, f1]
          exact ⟨a5, c5, p2, (o7.keep k7 fun x hx q => by subst q; exact g5b hx).keep p3 fun x hx q => by subst q; exact g5b hx, g5b⟩
      · rw [if_neg he]
        have h64 : (rest (cur ++ t)).length + kk < 64 := by
          by_cases hq : (rest (cur ++ t)).length + kk < 64
          · exact hq
          · exact absurd (eqI_iff.2 (by rw [natI_eq]; omega)) he
        obtain ⟨f1, f2⟩ := take_less (bs := cur ++ t) (t := (bytes8 p).take kk) (by rw [htk]; exact h64)
        refine ⟨(strSub p (kk : Int) (p.size : Int)).size, by simp only [lessN]; omega, strSub p (kk : Int) (p.size : Int), t ++ (bytes8 p).take kk, g5, rfl, rfl, htp', wf6, ?_, hg5, k6⟩
        rw [ecur, f1, f2]
        have hll : (rest (cur ++ t) ++ (bytes8 p).take kk).length = (rest (cur ++ t)).length + kk := by rw [List.length_append, htk]
        refine ⟨a5, c5, ?_, ?_, g5b⟩
        · rw [hll]; exact q2
        · rw [hll, List.map_append]; exact o6
    · rw [if_neg hc]
      have hp0 : p.size = 0 := by
        by_cases hq : p.size = 0
        · exact hq
        · exact absurd (gtI_iff.2 (by rw [natI_eq]; unfold lenS; omega)) hc
      have hpn : bytes8 p = [] := List.eq_nil_of_length_eq_zero (by rw [bytes8_len]; exact hp0)
      rw [hpn, List.append_nil] at htp
      subst htp
      have hfin : bs ++ (parts.take (i + 1)).flatMap bytes8 = cur ++ bytes8 s := by rw [etk, ← List.append_assoc, hcur0]
      refine ⟨la - (i + 1), by simp only [lessN]; omega, i + 1, gr4, ?_, rfl, by omega, wf4, ?_, hg4, k4⟩
      · rw [show addW .i64 (i : Int) 1 = ((i + 1 : Nat) : Int) by rw [addW_small (by omega) (by omega)]; omega]
      · rw [hfin, List.length_append, bytes8_len]
        exact ⟨a4, c4, b4, o4, g4⟩
  · rw [if_neg hc]
    have hila : i = la := by
      by_cases hq : i = la
      · exact hq
      · exact absurd (ltI_iff.2 (by rw [natI_eq]; omega)) hc
    subst hila
    rw [List.take_of_length_le (by omega)] at hs2
    exact ⟨rfl, gr2, hs2, hg2, k2⟩

end Go.Proofs.YtfgdeboogfbgcaaGreatDoor.sb

/- Contract of the program's own sha256: Sum. -/
set_option linter.unusedVariables false
namespace Go.Proofs.YtfgdeboogfbgcaaGreatDoor.sb
open Go Go.Cn Go.Cn.Sha Go.Proofs Go.Proofs.YtfgdeboogfbgcaaGreatDoor.vc

theorem ex32 : ∀ {L : List Nat}, L.length = 32 → ∃ x0 x1 x2 x3 x4 x5 x6 x7 x8 x9 x10 x11 x12 x13 x14 x15 x16 x17 x18 x19 x20 x21 x22 x23 x24 x25 x26 x27 x28 x29 x30 x31, L = [x0, x1, x2, x3, x4, x5, x6, x7, x8, x9, x10, x11, x12, x13, x14, x15, x16, x17, x18, x19, x20, x21, x22, x23, x24, x25, x26, x27, x28, x29, x30, x31] := by
  intro L h
  match L, h with
  | [x0, x1, x2, x3, x4, x5, x6, x7, x8, x9, x10, x11, x12, x13, x14, x15, x16, x17, x18, x19, x20, x21, x22, x23, x24, x25, x26, x27, x28, x29, x30, x31], _ => exact ⟨x0, x1, x2, x3, x4, x5, x6, x7, x8, x9, x10, x11, x12, x13, x14, x15, x16, x17, x18, x19, x20, x21, x22, x23, x24, x25, x26, x27, x28, x29, x30, x31, rfl⟩

theorem sh8 {j : Nat} (hj : j < 4) : subW .i64 24 (mulW .i64 8 (j : Int)) = ((24 - 8 * j : Nat) : Int) := by
  have e2 : mulW .i64 8 (j : Int) = ((8 * j : Nat) : Int) := by
    unfold mulW
    have := addW_small (a := ((8 * j : Nat) : Int)) (b := 0) (by omega) (by omega)
    unfold addW at this
    rw [show (8 * (j : Int)) = ((8 * j : Nat) : Int) by omega]
    simpa using this
  rw [e2]
  exact subN (a := 24) (by omega) (by omega)
theorem ix4 {i j : Nat} (hi : i < 8) (hj : j < 4) : addW .i64 (mulW .i64 4 (i : Int)) (j : Int) = ((4 * i + j : Nat) : Int) := by
  rw [mul4 (by omega)]
  exact addN j (by omega)

set_option maxRecDepth 20000 in
theorem c259 {h : Hp} {b : Nat} {gr : Option Nat} {bs : List Nat} (hh : HS h b gr (hst bs) (rest bs) bs.length) (hbo : ∀ x ∈ bs, x < 256) (hsz : bs.length ≤ 1073741824) :
    C 307 [.pointer (some ⟨b, 0, none⟩)] h fun v h' => v = .agg ((sum bs).map u8).toArray ∧ Kept h h' := by
  refine SCalls_of_vw fol (pf := pf) (shp := shp259) (f := 307) (fn := Tryz.f307) (by kernel_rfl) (c := Tryz.f307.body.getD .skip) (by kernel_rfl) (by kernel_rfl) fun wf => ?_
  rw [vc259]
  obtain ⟨a0, c0, hb0, ho0, hg0⟩ := hh
  have hbl := hb0.lt wf
  have hst8 := hst_len bs
  have hsok := hst_ok bs
  have hrl := rest_len bs
  intro h1 e1 h2 e2
  obtain ⟨b1, k1, n1, wf1⟩ := new_blk wf e1
  obtain ⟨b2, k2, n2, wf2⟩ := new_blk wf1 e2
  have k02 := k1.trans wf k2 fun _ _ hf => hf
  have b1' : Blk h2 h.next (some h.next) (List.replicate 32 (u8 0)) := Kept.blk k2 b1
  have b2' : Blk h2 h1.next (some h1.next) ((List.replicate 32 0).map u8) := b2
  have hb2 := Kept.blk k02 hb0
  have ho2 := ho0.keep k02 fun _ _ hf => hf
  clear b1 b2
  refine (c266 hb2).mono fun v h3 ⟨e3, e4⟩ => ?_
  cases e4
  refine ⟨false, e3, ?_⟩
  rw [if_neg (by simp)]
  obtain ⟨m, hm1, hm2⟩ := tail_len bs
  have hsum := tail_sum bs hm2
  have htok := tail_ok hbo
  have hcs8 : h2.cellsAt b 1 8 = some ((hst bs).map u32) := by rw [hb2.cells (by rw [hc_len hst8]; omega), hc1 hst8]
  have r9 : (hcells (hst bs) a0 (rest bs).length c0 bs.length)[9]? = some (.slice a0 (rest bs).length c0) := hc9 hst8 _ _ _ _
  have r10 : (hcells (hst bs) a0 (rest bs).length c0 bs.length)[10]? = some (.int .i64 (bs.length : Int)) := hc10 hst8 _ _ _ _
  generalize hcells (hst bs) a0 (rest bs).length c0 bs.length = HC at hb2 r9 r10
  have ex : ∃ v0 v1 v2 v3 v4 v5 v6 v7 : Nat, hst bs = [v0, v1, v2, v3, v4, v5, v6, v7] := ex8 hst8
  obtain ⟨v0, v1, v2, v3, v4, v5, v6, v7, hv⟩ := ex
  rw [hv] at hcs8
  refine ⟨rfl, rfl, _, _, _, _, _, _, _, _, ⟨rfl, hcs8.trans rfl⟩, ?_⟩
  intro h3 e3
  obtain ⟨b3, k3, n3, wf3⟩ := new_blk wf2 e3
  obtain ⟨h4, y1, y2, y3, y4, y5, y6⟩ := set_blk wf3 b3 k3 wf2 (Nat.le_refl _) (vs := (hst bs).map u32) (by simp [hst8]) (isCell_u32 _)
  have y1' : h3.store h2.next 0 ([v0, v1, v2, v3, v4, v5, v6, v7].map u32) = some h4 := by rw [← hv]; exact y1
  have b4 := Kept.blk y3 hb2
  have o4 := ho2.keep y3 fun _ _ hf => hf
  have k04 := k02.trans wf y3 fun _ _ hf => hf
  have bd4 := Kept.blk y3 b2'
  have br4 := Kept.blk y3 b1'
  refine ⟨rfl, h4, y1', rfl, rfl, _, _, _, ⟨rfl, b4.one r9⟩, ?_⟩
  clear y1 y1' hcs8 b3
  have hd := dataOf_sl o4.sl
  obtain ⟨a5, h5, z1, z2, z3, z4⟩ := Bd.append y6 app201 (S := (h4.next ≤ ·)) (fun g hg => hg) (Bd.nil _ _ _) hd (by simp) (isCell_u8 _) (roomy_of (by omega))
  rw [List.nil_append] at z2
  refine ⟨a5, _, _, h5, z1, ?_⟩
  intro h6 e6
  obtain ⟨a7, h7, w1, w2, w3, w4⟩ := Bd.append1 z4 app201 (S := (h4.next ≤ ·)) (fun g hg => Nat.le_trans z3.next hg) z2 e6 (new := [u8 128]) rfl rfl (roomy_of (by omega))
  refine ⟨a7, _, _, h7, w1, ?_⟩
  have k47 : Kept h4 h7 := (z3.trans y6 w3 fun x hx q => q).mono y6 fun x hx q => by omega
  have hz : zeros bs.length < 64 := Nat.mod_lt _ (by decide)
  generalize hR : (rest bs).length = R at *
  have hRl : R < 64 := by omega
  have h0R : 0 + R = R := Nat.zero_add R
  rw [h0R] at w2 ⊢
  refine ⟨fun vals m hh => ∃ (a : Option Addr) (j : Nat), [.slice a (R + 1 + j) (R + 1 + j)] = vals ∧ m = zeros bs.length - j ∧ j ≤ zeros bs.length ∧ Wf hh ∧ Kept h4 hh ∧ Bd hh 1 (h4.next ≤ ·) a (R + 1 + j) (R + 1 + j) ((rest bs ++ 128 :: List.replicate j 0).map u8), ⟨zeros bs.length, a7, 0, rfl, rfl, Nat.zero_le _, w4, k47, by simpa [u8] using w2⟩, ?_⟩
  clear z1 z2 z3 z4 w1 w2 w3 w4 hd o4 b4 ho2
  rintro a l c m1 h8 ⟨a8, j, e, rfl, hj, wf8, k8, bd⟩
  simp at e
  obtain ⟨rfl, rfl, rfl⟩ := e
  refine ⟨by simp [nonzero], ?_⟩
  rw [rem64]
  by_cases hc : neI (((R + 1 + j) % 64 : Nat) : Int) 56 = true
  · rw [if_pos hc]
    rw [neI_iff] at hc
    have hjz : j < zeros bs.length := by
      unfold zeros at *
      omega
    intro h9 e9
    obtain ⟨a2, h10, y1, y2, y3, y4⟩ := Bd.append1 wf8 app201 (S := (h4.next ≤ ·)) (fun g hg => by have := k8.next; omega) bd e9 rfl rfl (roomy_of (by omega))
    refine ⟨a2, _, _, h10, y1, zeros bs.length - (j + 1), by simp only [lessN]; omega, a2, j + 1, rfl, rfl, by omega, y4, k8.trans y6 y3 fun g hg hs => by omega, ?_⟩
    rw [List.replicate_succ']
    show Bd h10 1 (h4.next ≤ ·) a2 (R + 1 + j + 1) (R + 1 + j + 1) _
    simpa [u8] using y2
  · rw [if_neg hc]
    have hc' : ((R + 1 + j) % 64 : Nat) = 56 := by
      by_cases hq : ((R + 1 + j) % 64 : Nat) = 56
      · exact hq
      · exact absurd (neI_iff.2 (by omega)) hc
    have hjz : j = zeros bs.length := by
      unfold zeros at *
      omega
    subst hjz
    refine ⟨rfl, rfl, _, ⟨rfl, (Kept.blk k8 (Kept.blk y3 hb2)).one r10⟩, ?_⟩
    refine ⟨fun vals m hh => ∃ (a : Option Addr) (j : Nat), [.slice a (R + 1 + zeros bs.length + j) (R + 1 + zeros bs.length + j), .int .i64 (56 - 8 * (j : Int))] = vals ∧ m = 8 - j ∧ j ≤ 8 ∧ Wf hh ∧ Kept h4 hh ∧ Bd hh 1 (h4.next ≤ ·) a (R + 1 + zeros bs.length + j) (R + 1 + zeros bs.length + j) ((rest bs ++ 128 :: (List.replicate (zeros bs.length) 0 ++ (lenBytes bs.length).take j)).map u8), ⟨8, a8, 0, rfl, rfl, Nat.zero_le _, wf8, k8, by simpa using bd⟩, ?_⟩
    clear bd
    rintro a l c n m2 h9 ⟨a9, j, e, rfl, hj, wf9, k9, bd9⟩
    simp at e
    obtain ⟨⟨rfl, rfl, rfl⟩, rfl⟩ := e
    by_cases hg : geI (56 - 8 * (j : Int)) 0 = true
    · rw [if_pos hg]
      rw [geI_iff] at hg
      have hj8 : j < 8 := by omega
      have m1 : (56 - 8 * (j : Int)) = ((56 - 8 * j : Nat) : Int) := by omega
      have m3 : mulW .u64 (toW .u64 (bs.length : Int)) 8 = ((bs.length * 8 % 18446744073709551616 : Nat) : Int) := mul8 bs.length
      have m5 : subW .i64 (56 - 8 * (j : Int)) 8 = 56 - 8 * ((j + 1 : Nat) : Int) := by rw [subW_small (by omega) (by omega)]; omega
      rw [m5, m1, m3, shrW_nat _ _ _ (show 56 - 8 * j ≤ 64 by omega)]
      have m4 : ∀ x : Nat, toW .u8 (x : Int) = ((x % 256 : Nat) : Int) := fun x => by unfold toW; rw [wrap_u8]
      rw [m4]
      refine ⟨Int.natCast_nonneg _, ?_⟩
      have m6 := lenBytes_take bs.length j hj8
      generalize (bs.length * 8 % 18446744073709551616) >>> (56 - 8 * j) % 256 = bt at m6 ⊢
      clear m1 m3 m4 m5
      intro h10 e10
      obtain ⟨a2, h11, y1, y2, y3, y4⟩ := Bd.append1 wf9 app201 (S := (h4.next ≤ ·)) (fun g hg => by have := k9.next; omega) bd9 e10 rfl rfl (roomy_of (by omega))
      refine ⟨a2, _, _, h11, y1, 8 - (j + 1), by simp only [lessN]; omega, a2, j + 1, rfl, rfl, by omega, y4, k9.trans y6 y3 fun g hg hs => by omega, ?_⟩
      rw [m6]
      show Bd h11 1 (h4.next ≤ ·) a2 (R + 1 + zeros bs.length + j + 1) (R + 1 + zeros bs.length + j + 1) _
      simpa [u8] using y2
    · rw [if_neg hg]
      have hj8 : j = 8 := by
        by_cases hq : j = 8
        · exact hq
        · exact absurd (geI_iff.2 (by omega)) hg
      subst hj8
      have hl8 : (lenBytes bs.length).length = 8 := rfl
      have hp : (rest bs ++ 128 :: (List.replicate (zeros bs.length) 0 ++ (lenBytes bs.length).take 8)) = tailOf bs := by
        unfold tailOf
        rw [List.take_of_length_le (by rw [hl8]; omega)]
      rw [hp] at bd9
      have htl : (tailOf bs).length = R + 1 + zeros bs.length + 8 := by
        unfold tailOf
        simp only [List.length_append, List.length_cons, List.length_replicate, hR, hl8]
        omega
      generalize hT : tailOf bs = T at *
      rw [← htl] at bd9 ⊢
      have bd9' := bd9.bound wf9
      have bst := Kept.blk k9 y2
      have hn24 := y3.next
      refine ⟨fun vals mm hh => ∃ (a : Option Addr) (l c j : Nat) (cur : List Nat) (g : Option Nat), [.slice a l c] = vals ∧ mm = m - j ∧ j ≤ m ∧ l = T.length - 64 * j ∧ cur.length = 8 ∧ (∀ w ∈ cur, W32 w) ∧ blocks (m - j) cur (T.drop (64 * j)) = blocks m (hst bs) T ∧ Wf hh ∧ Kept h2 hh ∧ SL8 hh g a l c (T.drop (64 * j)) ∧ (∀ x, g = some x → h4.next ≤ x) ∧ Blk hh h2.next (some h2.next) (cur.map u32),
        ⟨m, a9, T.length, T.length, 0, hst bs, by
          rw [flat_map] at bd9
          obtain ⟨g, hg1, hg2⟩ := bd9.slT rfl
          exact ⟨g, rfl, rfl, Nat.zero_le _, rfl, hst8, hsok, rfl, wf9, y3.trans wf2 k9 fun _ _ hf => hf, hg2, hg1, bst⟩⟩, ?_⟩
      clear bd9 bd9' bst
      rintro a l c mm h10 ⟨a10, l10, c10, j, cur, g10, e, rfl, hj, hl, hcl, hco, hbk, wf10, k10, t10, hg10, bst⟩
      simp at e
      obtain ⟨rfl, rfl, rfl⟩ := e
      by_cases hc : gtI (natI l10) 0 = true
      · rw [if_pos hc]
        have hl0 : 0 < l10 := by rw [gtI_iff, natI_eq] at hc; omega
        have hjm : j < m := by omega
        have hl64 : 64 ≤ l10 := by omega
        have hlc := t10.sl.le
        have hspo : spotOk 1 a10 := by
          have := t10.sl.mem
          unfold spotOk
          cases a10 with
          | none => trivial
          | some q => obtain ⟨b', o', sp'⟩ := q; exact this.1
        have hcell := (t10.sl).cells (i := 0) (m := 64) (by omega) hl0
        rw [← flat_map, Nat.add_zero, List.drop_zero, ← List.map_take] at hcell
        have hfl : ((T.drop (64 * j)).take 64).length = 64 := by rw [List.length_take, List.length_drop]; omega
        have K267 := c267 bst (n := 0) (hs := cur) (bs := (T.drop (64 * j)).take 64) (by simp [hcl]) (by rw [List.drop_zero, List.take_of_length_le (by simp [hcl])]) hcl hfl (fun x hx => htok x (List.mem_of_mem_drop (List.mem_of_mem_take hx))) hco
        have hspl : splice (cur.map u32) 0 ((block cur ((T.drop (64 * j)).take 64)).map u32) = (block cur ((T.drop (64 * j)).take 64)).map u32 := by
          have := block_len (bs := (T.drop (64 * j)).take 64) hcl
          generalize block cur ((T.drop (64 * j)).take 64) = B at this ⊢
          unfold splice
          rw [List.take_zero, List.nil_append]
          have hd : (cur.map u32).drop (0 + (B.map u32).length) = [] := List.drop_eq_nil_of_le (by simp [hcl, this])
          rw [hd, List.append_nil]
        rw [hspl] at K267
        have hbs : blocks (m - (j + 1)) (block cur ((T.drop (64 * j)).take 64)) (T.drop (64 * (j + 1))) = blocks m (hst bs) T := by
          rw [← hbk, show m - j = (m - (j + 1)) + 1 by omega]
          show _ = blocks (m - (j + 1)) (block cur ((T.drop (64 * j)).take 64)) ((T.drop (64 * j)).drop 64)
          rw [List.drop_drop, show 64 * j + 64 = 64 * (j + 1) by omega]
        have hblen := block_len (bs := (T.drop (64 * j)).take 64) hcl
        have hbok := block_ok cur ((T.drop (64 * j)).take 64)
        have tcut := cut_sl t10 (i := 64) (k := l10 - 64) (by omega)
        have hdd : ((T.drop (64 * j)).drop 64).take (l10 - 64) = T.drop (64 * (j + 1)) := by
          rw [List.drop_drop, show 64 * j + 64 = 64 * (j + 1) by omega]
          exact List.take_of_length_le (by rw [List.length_drop]; omega)
        rw [hdd] at tcut
        have hd1 : diffN (natI l10) 64 = l10 - 64 := by unfold diffN; rw [natI_eq]; omega
        have hd2 : diffN (natI c10) 64 = c10 - 64 := by unfold diffN; rw [natI_eq]; omega
        generalize hB : block cur ((T.drop (64 * j)).take 64) = B at *
        clear hB
        generalize (T.drop (64 * j)).take 64 = L at hcell K267 hfl
        obtain ⟨x0, x1, x2, x3, x4, x5, x6, x7, x8, x9, x10, x11, x12, x13, x14, x15, x16, x17, x18, x19, x20, x21, x22, x23, x24, x25, x26, x27, x28, x29, x30, x31, x32, x33, x34, x35, x36, x37, x38, x39, x40, x41, x42, x43, x44, x45, x46, x47, x48, x49, x50, x51, x52, x53, x54, x55, x56, x57, x58, x59, x60, x61, x62, x63, rfl⟩ := ex64 hfl
        rw [cutA_zero, hd1, hd2]
        refine ⟨⟨⟨Int.le_refl _, by omega, by rw [natI_eq]; omega, Int.le_refl _⟩, hspo⟩, ⟨hcell.1, by unfold leN diffN; omega⟩, _, _, _, _, _, _, _, _, _, _, _, _, _, _, _, _, _, _, _, _, _, _, _, _, _, _, _, _, _, _, _, _, _, _, _, _, _, _, _, _, _, _, _, _, _, _, _, _, _, _, _, _, _, _, _, _, _, _, _, _, _, _, _, _, ⟨rfl, hcell.2.trans rfl⟩, ?_⟩
        refine K267.wf fun v h11 wf11 hn11 ⟨e11, b11, k11⟩ => ?_
        refine ⟨e11, ⟨⟨by omega, by rw [natI_eq]; omega, by rw [natI_eq, natI_eq]; omega, Int.le_refl _⟩, hspo⟩, m - (j + 1), by simp only [lessN]; omega, cutA 64 1 a10, l10 - 64, c10 - 64, j + 1, B, g10, rfl, rfl, by omega, by omega, hblen, hbok, hbs, wf11, k10.trans wf2 k11 fun x hx q => by omega, tcut.keep k11 fun x hx q => by have := hg10 x hx; omega, hg10, b11⟩
      · rw [if_neg hc]
        have hl0 : l10 = 0 := by
          by_cases hq : l10 = 0
          · exact hq
          · exact absurd (gtI_iff.2 (by rw [natI_eq]; omega)) hc
        have hjm : j = m := by omega
        subst hjm
        have hcur : cur = blocks j (hst bs) T := by rw [← hbk, Nat.sub_self]; rfl
        rw [← hcur] at hsum
        have hol : (sum bs).length = 32 := sum_len bs
        generalize hout : sum bs = out at *
        have hcc : h10.cellsAt h2.next 0 8 = some (cur.map u32) := by rw [bst.cells (by simp [hcl]), List.drop_zero, List.take_of_length_le (by simp [hcl])]
        have bd10 := Kept.blk k10 b2'
        have br10 := Kept.blk k10 b1'
        obtain ⟨v0, v1, v2, v3, v4, v5, v6, v7, hcv⟩ := ex8 hcl
        rw [hcv] at hcc
        refine ⟨_, _, _, _, _, _, _, _, ⟨rfl, hcc.trans rfl⟩, ?_⟩
        have k010 := k02.trans wf k10 fun _ _ hf => hf
        refine ⟨fun vals mm hh => ∃ i : Nat, [.int .i64 (i : Int)] = vals ∧ mm = 8 - i ∧ i ≤ 8 ∧ Wf hh ∧ Kept h hh ∧ Blk hh h.next (some h.next) (List.replicate 32 (u8 0)) ∧ Blk hh h1.next (some h1.next) ((out.take (4 * i) ++ List.replicate (32 - 4 * i) 0).map u8), ⟨8, 0, rfl, rfl, Nat.zero_le _, wf10, k010, br10, by simpa using bd10⟩, ?_⟩
        clear bd10 br10 bst t10
        rintro n mm h11 ⟨i, e, rfl, hi, wf11, k11, br11, bd11⟩
        simp at e
        subst e
        by_cases hc : ltI (i : Int) 8 = true
        · rw [if_pos hc]
          have hi8 : i < 8 := by rw [ltI_iff] at hc; omega
          have ew : cur[i]? = some (cur[i]'(by omega)) := List.getElem?_eq_getElem _
          generalize cur[i]'(by omega) = w at ew
          have hnth : (Array.mk ([v0, v1, v2, v3, v4, v5, v6, v7].map u32))[(i : Int).toNat]? = some (.int .u32 (w : Int)) := by
            rw [Int.toNat_natCast]
            show ([v0, v1, v2, v3, v4, v5, v6, v7].map u32).toArray[i]? = _
            rw [List.getElem?_toArray, ← hcv, List.getElem?_map, ew]
            rfl
          have hnv : nthI (Array.mk ([v0, v1, v2, v3, v4, v5, v6, v7].map u32)) (i : Int) = (w : Int) := by
            unfold nthI
            rw [hnth]
          have hnv' : nthI (Array.mk [Value.int IntKind.u32 (v0 : Int), Value.int IntKind.u32 (v1 : Int), Value.int IntKind.u32 (v2 : Int), Value.int IntKind.u32 (v3 : Int), Value.int IntKind.u32 (v4 : Int), Value.int IntKind.u32 (v5 : Int), Value.int IntKind.u32 (v6 : Int), Value.int IntKind.u32 (v7 : Int)]) (i : Int) = (w : Int) := hnv
          refine ⟨⟨⟨Int.natCast_nonneg _, by omega⟩, ?_⟩, ?_⟩
          · unfold isNth
            rw [hnv']
            exact hnth
          rw [hnv']
          refine ⟨fun vals mm hh => ∃ j : Nat, [.int .i64 (j : Int)] = vals ∧ mm = 4 - j ∧ j ≤ 4 ∧ Wf hh ∧ Kept h hh ∧ Blk hh h.next (some h.next) (List.replicate 32 (u8 0)) ∧ Blk hh h1.next (some h1.next) ((out.take (4 * i + j) ++ List.replicate (32 - (4 * i + j)) 0).map u8), ⟨4, 0, rfl, rfl, Nat.zero_le _, wf11, k11, br11, bd11⟩, ?_⟩
          rintro n mm h12 ⟨j', e, rfl, hj', wf12, k12, br12, bd12⟩
          simp at e
          subst e
          by_cases hc : ltI (j' : Int) 4 = true
          · rw [if_pos hc]
            have hj4 : j' < 4 := by rw [ltI_iff] at hc; omega
            rw [sh8 hj4, ix4 hi8 hj4]
            have eo : out[4 * i + j']? = some ((w >>> (24 - 8 * j')) % 256) := by
              rw [hsum]
              have := out_get (H := []) (show cur[(4 * i + j') / 4]? = some w by rw [show (4 * i + j') / 4 = i by omega]; exact ew)
              rw [this, show (4 * i + j') % 4 = j' by omega]
            have m4 : toW .u8 ((w >>> (24 - 8 * j') : Nat) : Int) = ((w >>> (24 - 8 * j') % 256 : Nat) : Int) := by unfold toW; rw [wrap_u8]
            rw [shrW_nat _ _ _ (show 24 - 8 * j' ≤ 32 by omega), m4]
            have hlen : ((out.take (4 * i + j') ++ List.replicate (32 - (4 * i + j')) 0).map u8).length = 32 := by simp; omega
            obtain ⟨h13, y1, y2, y3, y4, y5⟩ := bd12.set (o := 4 * i + j') (by omega) (v := u8 (w >>> (24 - 8 * j') % 256)) rfl
            rw [fill_step eo 32 hol] at y2
            have hpi : plusI 0 ((4 * i + j' : Nat) : Int) 1 = 4 * i + j' := by simp only [plusI, Int.toNat_natCast]; omega
            rw [hpi]
            refine ⟨Int.natCast_nonneg _, ⟨rfl, Int.natCast_nonneg _, by omega⟩, rfl, h13, y1, 4 - (j' + 1), by simp only [lessN]; omega, j' + 1, ?_, rfl, by omega, y5 wf12, k12.trans wf y3 fun g hg hs => by have := k1.next; omega, y3.blk br12 fun x hx q => by simp at hx; omega, y2⟩
            rw [show addW .i64 (j' : Int) 1 = ((j' + 1 : Nat) : Int) from addN 1 (by omega)]
          · rw [if_neg hc]
            have hj4 : j' = 4 := by
              by_cases hq : j' = 4
              · exact hq
              · exact absurd (ltI_iff.2 (by omega)) hc
            subst hj4
            refine ⟨8 - (i + 1), by simp only [lessN]; omega, i + 1, ?_, rfl, by omega, wf12, k12, br12, bd12⟩
            rw [show addW .i64 (i : Int) 1 = ((i + 1 : Nat) : Int) from addN 1 (by omega)]
        · rw [if_neg hc]
          have hi8 : i = 8 := by
            by_cases hq : i = 8
            · exact hq
            · exact absurd (ltI_iff.2 (by omega)) hc
          subst hi8
          rw [show 4 * 8 = 32 from rfl, List.take_of_length_le (by omega), Nat.sub_self, List.replicate_zero, List.append_nil] at bd11
          obtain ⟨h12, y1, y2, y3, y4, y5, y6⟩ := set_blk wf11 br11 k11 wf (Nat.le_refl _) (vs := out.map u8) (by simp [hol]) (isCell_u8 _)
          clear hout hsum hcur hbk
          obtain ⟨x0, x1, x2, x3, x4, x5, x6, x7, x8, x9, x10, x11, x12, x13, x14, x15, x16, x17, x18, x19, x20, x21, x22, x23, x24, x25, x26, x27, x28, x29, x30, x31, rfl⟩ := ex32 hol
          exact ⟨_, _, _, _, _, _, _, _, _, _, _, _, _, _, _, _, _, _, _, _, _, _, _, _, _, _, _, _, _, _, _, _, ⟨rfl, (bd11.cells (Nat.le_of_ble_eq_true rfl)).trans rfl⟩, rfl, h12, y1, _, _, _, _, _, _, _, _, _, _, _, _, _, _, _, _, _, _, _, _, _, _, _, _, _, _, _, _, _, _, _, _, ⟨rfl, (y2.cells (Nat.le_of_ble_eq_true rfl)).trans rfl⟩, rfl, y3⟩

end Go.Proofs.YtfgdeboogfbgcaaGreatDoor.sb

/- Contract of the program's own sha256. -/
set_option linter.unusedVariables false
namespace Go.Proofs.YtfgdeboogfbgcaaGreatDoor.sb
open Go Go.Cn Go.Cn.Sha Go.Proofs Go.Proofs.YtfgdeboogfbgcaaGreatDoor.vc

set_option maxRecDepth 20000 in
theorem c244' (s : ByteArray) (h : Hp) (hs : s.size ≤ 1073741824) : C 265 [.string s] h fun v h' => v = sumV s ∧ Kept h h' := by
  refine SCalls_of_vw fol (pf := pf) (shp := shp244) (f := 265) (fn := Tryz.f265) (by kernel_rfl) (c := Tryz.f265.body.getD .skip) (by kernel_rfl) (by kernel_rfl) fun wf => ?_
  rw [vc244]
  intro h1 e1
  obtain ⟨b1, k1, n1, wf1⟩ := new_blk wf e1
  refine (c257 h1).wf fun v h2 wf2 hn2 ⟨b, e2, hb, bb, k2⟩ => ?_
  refine ⟨_, e2, ?_⟩
  intro h3 e3
  obtain ⟨b3, k3, n3, wf3⟩ := new_blk wf2 e3
  have k02 := k1.trans wf k2 fun _ _ hf => hf
  have k03 := k02.trans wf k3 fun _ _ hf => hf
  have hbl := bb.lt wf2
  have hs3 : HS h3 b none (hst []) (rest []) ([] : List Nat).length := ⟨none, 0, Kept.blk k3 bb, Ow.nil _ _, by simp⟩
  have sp : SlT (fun s => [Value.string s]) 1 h3 (some h2.next) (some ⟨h2.next, 0, none⟩) 1 1 [s] := ⟨⟨Nat.le_refl _, rfl, .inl rfl, fun _ => ⟨_, b3, Nat.le_refl _, rfl⟩⟩, rfl⟩
  refine (c258 hs3 (by simp) sp (fun x hx => by simp at hx; subst hx; simp; omega) (fun x hx => by simp at hx; omega) (by simp [bytes8_len]; omega) (by omega)).wf fun v h4 wf4 hn4 ⟨e4, gr', hs4, hg4, k4⟩ => ?_
  simp only [List.flatMap_cons, List.flatMap_nil, List.append_nil, List.nil_append] at hs4
  refine ⟨e4, ?_⟩
  refine (c259 hs4 (bytes8_ok s) (by rw [bytes8_len]; exact hs)).wf fun v h5 wf5 hn5 ⟨e5, k5⟩ => ?_
  have k04 : Kept h h4 := k03.trans wf k4 fun x hx q => by
    rcases q with q | q
    · omega
    · simp at q
  have k05 := k04.trans wf k5 fun _ _ hf => hf
  have b4 := k4.blk (Kept.blk k3 (Kept.blk k2 b1)) fun x hx q => by
    simp at hx
    rcases q with q | q
    · omega
    · simp at q
  have b5 := Kept.blk k5 b4
  have hl := sum_len (bytes8 s)
  obtain ⟨h6, y1, y2, y3, y4, y5, y6⟩ := set_blk wf5 b5 k05 wf (Nat.le_refl _) (vs := (sum (bytes8 s)).map u8) (by simp [hl]) (isCell_u8 _)
  unfold sumV
  generalize sum (bytes8 s) = out at *
  obtain ⟨x0, x1, x2, x3, x4, x5, x6, x7, x8, x9, x10, x11, x12, x13, x14, x15, x16, x17, x18, x19, x20, x21, x22, x23, x24, x25, x26, x27, x28, x29, x30, x31, rfl⟩ := ex32 hl
  exact ⟨_, _, _, _, _, _, _, _, _, _, _, _, _, _, _, _, _, _, _, _, _, _, _, _, _, _, _, _, _, _, _, _, e5, rfl, h6, y1, _, _, _, _, _, _, _, _, _, _, _, _, _, _, _, _, _, _, _, _, _, _, _, _, _, _, _, _, _, _, _, _, ⟨rfl, (y2.cells (Nat.le_of_ble_eq_true rfl)).trans rfl⟩, rfl, y3⟩

theorem c244 (s : ByteArray) (h : Hp) (hs : s.size ≤ 1073741824) : C 265 [.string s] h fun v h' => v = sumV s ∧ h' = h :=
  (c244' s h hs).trim (of_decide_eq_true (by kernel_rfl)) fun v h' ⟨e, k⟩ => ⟨stay_of k, by rw [e]; exact sumV_plain s, e⟩

end Go.Proofs.YtfgdeboogfbgcaaGreatDoor.sb

/- Contract of the program's own cyclic sum: the bytes of a string fed to a register; the functions that answer by a law. -/
set_option linter.unusedVariables false
namespace Go.Proofs.YtfgdeboogfbgcaaGreatDoor.sb
open Go Go.Cn Go.Cn.Sha Go.Cn.Crc Go.Proofs Go.Proofs.YtfgdeboogfbgcaaGreatDoor.vc

theorem byteAt_eq {s : ByteArray} {i b : Nat} (h : (bytes8 s)[i]? = some b) : byteAt s (i : Int) = (b : Int) := by
  unfold bytes8 at h
  rw [List.getElem?_map] at h
  have hi : i < s.data.toList.length := by
    cases hx : s.data.toList[i]? with
    | none => rw [hx] at h; simp at h
    | some x => exact (List.getElem?_eq_some_iff.1 hx).1
  have hi' : i < s.size := by simpa using hi
  rw [List.getElem?_eq_getElem hi] at h
  simp only [Option.map_some, Option.some.injEq] at h
  unfold byteAt
  rw [Int.toNat_natCast, getElem?_pos s i hi', ← h]
  rfl

theorem odd_iff {y : Nat} (hy : W32 y) : eqI (andW .u32 (y : Int) 1) 1 = y.testBit 0 := by
  have e : andW .u32 (y : Int) 1 = ((y &&& 1 : Nat) : Int) := andW_u32 (b := 1) hy (by unfold W32; omega)
  rw [e, Nat.and_one_is_mod, Nat.testBit_zero, Bool.eq_iff_iff, eqI_iff, decide_eq_true_eq]
  omega

theorem c301 {r : Nat} (hr : W32 r) (s : ByteArray) (hs : s.size ≤ 1073741824) (h : Hp) : C 301 [.int .u32 r, .string s] h fun v h' => v = .int .u32 (feedN r (bytes8 s) : Nat) ∧ h' = h := by
  refine SCalls_of_vw fol (pf := pf) (shp := shp301) (f := 301) (fn := Tryz.f301) (by kernel_rfl) (c := Tryz.f301.body.getD .skip) (by kernel_rfl) (by kernel_rfl) fun wf => ?_
  rw [vc301]
  have hl : (bytes8 s).length = s.size := bytes8_len s
  refine ⟨fun vals m hh => ∃ (x i : Nat), [.int .u32 (x : Int), .int .i64 (i : Int)] = vals ∧ m = s.size - i ∧ i ≤ s.size ∧ W32 x ∧ x = feedN r ((bytes8 s).take i) ∧ hh = h, ⟨s.size, r, 0, rfl, rfl, Nat.zero_le _, hr, rfl, rfl⟩, ?_⟩
  rintro n n1 m hh ⟨x, i, e, rfl, hi, hx, hxe, rfl⟩
  simp at e
  obtain ⟨rfl, rfl⟩ := e
  by_cases hc : ltI (i : Int) (natI (lenS s)) = true
  · rw [if_pos hc]
    have his : i < s.size := by rw [ltI_iff, natI_eq] at hc; unfold lenS at hc; omega
    have eb : (bytes8 s)[i]? = some ((bytes8 s)[i]'(by omega)) := List.getElem?_eq_getElem _
    generalize (bytes8 s)[i]'(by omega) = b at eb
    have hb : b < 256 := bytes8_ok s b (List.mem_of_getElem? eb)
    have hbw : W32 b := by unfold W32; omega
    have e1 : toW .u32 (byteAt s (i : Int)) = (b : Int) := by rw [byteAt_eq eb]; unfold toW; rw [wrap_u32, Nat.mod_eq_of_lt hbw]
    rw [e1, xorW_u32 hx hbw]
    refine ⟨⟨Int.natCast_nonneg _, by unfold lenS; omega⟩, ?_⟩
    refine ⟨fun vals m hz => ∃ (y k : Nat), [.int .u32 (y : Int), .int .i64 (k : Int)] = vals ∧ m = 8 - k ∧ k ≤ 8 ∧ W32 y ∧ y = steps k (x ^^^ b) ∧ hz = hh, ⟨8, x ^^^ b, 0, rfl, rfl, Nat.zero_le _, hx.xor hbw, rfl, rfl⟩, ?_⟩
    rintro n n2 m1 hh' ⟨y, k, e, rfl, hk, hy, hye, rfl⟩
    simp at e
    obtain ⟨rfl, rfl⟩ := e
    by_cases hc : ltI (k : Int) 8 = true
    · rw [if_pos hc]
      have hk8 : k < 8 := by rw [ltI_iff] at hc; omega
      have hstep : steps (k + 1) (x ^^^ b) = step1 y := by rw [steps_succ, hye]
      have hkk : addW .i64 (k : Int) 1 = ((k + 1 : Nat) : Int) := addN 1 (by omega)
      have hsh : shrW .u32 (y : Int) 1 = ((y >>> 1 : Nat) : Int) := shrW_nat .u32 y 1 (by decide)
      refine ⟨by simp [nonneg], ?_⟩
      rw [odd_iff hy, hsh, hkk]
      cases hodd : y.testBit 0 with
      | true =>
        rw [if_pos rfl]
        have e3 : step1 y = (y >>> 1) ^^^ poly := by unfold step1; rw [hodd]; rfl
        have e4 : xorW .u32 ((y >>> 1 : Nat) : Int) 3988292384 = (((y >>> 1) ^^^ poly : Nat) : Int) := xorW_u32 (b := poly) (hy.shr 1) (by unfold W32 poly; omega)
        rw [e4]
        exact ⟨8 - (k + 1), by simp only [lessN]; omega, _, k + 1, rfl, rfl, by omega, by rw [← e3]; exact step1_ok hy, by rw [hstep, e3], rfl⟩
      | false =>
        rw [if_neg (by simp)]
        have e3 : step1 y = y >>> 1 := by unfold step1; rw [hodd]; rfl
        exact ⟨8 - (k + 1), by simp only [lessN]; omega, _, k + 1, rfl, rfl, by omega, hy.shr 1, by rw [hstep, e3], rfl⟩
    · rw [if_neg hc]
      have hk8 : k = 8 := by
        by_cases hq : k = 8
        · exact hq
        · exact absurd (ltI_iff.2 (by omega)) hc
      subst hk8
      refine ⟨s.size - (i + 1), by simp only [lessN]; omega, y, i + 1, ?_, rfl, by omega, hy, ?_, rfl⟩
      · rw [show addW .i64 (i : Int) 1 = ((i + 1 : Nat) : Int) from addN 1 (by omega)]
      · rw [List.take_add_one, eb, feedN_append, ← hxe, hye]
        rfl
  · rw [if_neg hc]
    have his : i = s.size := by
      by_cases hq : i = s.size
      · exact hq
      · exact absurd (ltI_iff.2 (by rw [natI_eq]; unfold lenS; omega)) hc
    subst his
    rw [List.take_of_length_le (by omega)] at hxe
    exact ⟨by rw [hxe], rfl⟩

/-- The functions that answer by a law. -/
def nat : FuncId → List Value → Hp → Option (Option Value) := fun f args _ =>
  match Nat.beq f 265 with
  | true => match args with
    | [.string s] => match Nat.ble s.size 1073741824 with
      | true => some (some (sumV s))
      | false => some none
    | _ => some none
  | false => match Nat.beq f 301 with
    | true => match args with
      | [.int .u32 (.ofNat r), .string s] => match Nat.ble s.size 1073741824 && Nat.blt r 4294967296 with
        | true => some (some (.int .u32 (.ofNat (fast r (bytes8 s)))))
        | false => some none
      | _ => some none
    | false => none

theorem nat_ok : NatOk Tryz.prog nat := by
  intro f args h v hn
  unfold nat at hn
  split at hn
  · rename_i hf
    have hf := Nat.eq_of_beq_eq_true hf
    subst hf
    split at hn
    · rename_i s
      split at hn
      · rename_i hs
        simp only [Option.some.injEq] at hn
        subst hn
        exact c244 s h (Nat.le_of_ble_eq_true hs)
      · simp at hn
    · simp at hn
  · split at hn
    · rename_i hf
      have hf := Nat.eq_of_beq_eq_true hf
      subst hf
      split at hn
      · rename_i r s
        split at hn
        · rename_i hs
          simp only [Bool.and_eq_true] at hs
          simp only [Option.some.injEq] at hn
          subst hn
          rw [fast_eq _ _ (bytes8_ok s)]
          exact c301 (r := r) (by have := hs.2; unfold W32; simpa [Nat.blt_eq] using this) s (Nat.le_of_ble_eq_true hs.1) h
        · simp at hn
      · simp at hn
    · simp at hn
end Go.Proofs.YtfgdeboogfbgcaaGreatDoor.sb

/- The conditions of the symbolic runs of functions of the program (printed by a program of ours, vcgen.py; checked by the kernel). -/
set_option linter.unusedVariables false
set_option maxRecDepth 100000
namespace Go.Proofs.YtfgdeboogfbgcaaGreatDoor.vc
open Go Go.Cn Go.Proofs

def shp274 : Nat → List (Tmp × TypeId) := fun i => if i = 1 then [(0, 9)] else []
theorem vc274 (C : FuncId → List Value → Hp → (Value → Hp → Prop) → Prop) (s : ByteArray) (n : Int) (h : Hp) (K : Value → Hp → Prop) : vBody Tryz.prog C pf shp274 Tryz.f274 (Tryz.f274.body.getD .skip) [.string s, .int .u8 n] h K = (
 ∃ (I : List Value → Nat → Hp → Prop), (∃ (m : Nat), I [Value.string s] m h) ∧ ∀ (s : ByteArray) (m : Nat) (h : Hp), I [Value.string s] m h → (gtI (natI (lenS s)) 0 = true → inR 0 (lenS s)) ∧ if sel (gtI (natI (lenS s)) 0) (eqI (byteAt s 0) n) false = true then subOk s 1 (natI (lenS s)) ∧ ∃ (m' : Nat), lessN m' m ∧ I [Value.string (strSub s 1 (natI (lenS s)))] m' h else K (Value.string s) h) := by kernel_rfl

def shp275 : Nat → List (Tmp × TypeId) := fun i => if i = 1 then [(0, 9)] else []
theorem vc275 (C : FuncId → List Value → Hp → (Value → Hp → Prop) → Prop) (s : ByteArray) (n : Int) (h : Hp) (K : Value → Hp → Prop) : vBody Tryz.prog C pf shp275 Tryz.f275 (Tryz.f275.body.getD .skip) [.string s, .int .u8 n] h K = (
 ∃ (I : List Value → Nat → Hp → Prop),
 (∃ (m : Nat), I [Value.string s] m h) ∧
 ∀ (s : ByteArray) (m : Nat) (h : Hp),
 I [Value.string s] m h → (gtI (natI (lenS s)) 0 = true → inR (subW IntKind.i64 (natI (lenS s)) 1) (lenS s)) ∧ if sel (gtI (natI (lenS s)) 0) (eqI (byteAt s (subW IntKind.i64 (natI (lenS s)) 1)) n) false = true then subOk s 0 (subW IntKind.i64 (natI (lenS s)) 1) ∧ ∃ (m' : Nat), lessN m' m ∧ I [Value.string (strSub s 0 (subW IntKind.i64 (natI (lenS s)) 1))] m' h else K (Value.string s) h) := by kernel_rfl
end Go.Proofs.YtfgdeboogfbgcaaGreatDoor.vc

/- Contracts of strings.trimLeftByte and strings.trimRightByte. -/
set_option linter.unusedVariables false
namespace Go.Proofs.YtfgdeboogfbgcaaGreatDoor.sb
open Go Go.Cn Go.Cn.Sha Go.Proofs Go.Proofs.YtfgdeboogfbgcaaGreatDoor.vc

def trimL (c : Nat) : List UInt8 → List UInt8
  | [] => []
  | x :: l => match Nat.beq x.toNat c with
    | true => trimL c l
    | false => x :: l
def trimR (c : Nat) (l : List UInt8) : List UInt8 := (trimL c l.reverse).reverse

theorem bytes_ext {s : ByteArray} {l : List UInt8} (h : s.data.toList = l) : s = ⟨⟨l⟩⟩ := by
  subst h
  rfl
theorem subL (s : ByteArray) {l h : Nat} : (strSub s (l : Int) (h : Int)).data.toList = (s.data.toList.drop l).take (h - l) := by
  unfold strSub
  rw [Int.toNat_natCast, Int.toNat_natCast, ByteArray.data_extract, Array.toList_extract, List.extract_eq_take_drop]
theorem byteAt_get {s : ByteArray} {i : Nat} {b : UInt8} (h : s.data.toList[i]? = some b) : byteAt s (i : Int) = (b.toNat : Int) := by
  refine byteAt_eq ?_
  unfold bytes8
  rw [List.getElem?_map, h]
  rfl

theorem c274 (s : ByteArray) (c : Nat) (h : Hp) (hs : s.size ≤ 1073741824) : C 274 [.string s, .int .u8 (c : Int)] h fun v h' => v = .string ⟨⟨trimL c s.data.toList⟩⟩ ∧ h' = h := by
  refine SCalls_of_vw fol (pf := pf) (shp := shp274) (f := 274) (fn := Tryz.f274) (by kernel_rfl) (c := Tryz.f274.body.getD .skip) (by kernel_rfl) (by kernel_rfl) fun wf => ?_
  rw [vc274]
  refine ⟨fun vals m hh => ∃ t : ByteArray, [.string t] = vals ∧ m = t.size ∧ t.size ≤ s.size ∧ trimL c t.data.toList = trimL c s.data.toList ∧ hh = h, ⟨s.size, s, rfl, rfl, Nat.le_refl _, rfl, rfl⟩, ?_⟩
  rintro x m hh ⟨t, e, rfl, hle, ht, rfl⟩
  simp at e
  subst e
  have hl : t.data.toList.length = t.size := by simp
  cases htl : t.data.toList with
  | nil =>
    rw [htl] at hl ht
    have h0 : gtI (natI (lenS t)) 0 = false := by
      rw [Bool.eq_false_iff, Ne, gtI_iff, natI_eq]; unfold lenS; simp at hl; omega
    rw [h0]
    refine ⟨fun h => by simp at h, ?_⟩
    rw [if_neg (by simp [sel])]
    exact ⟨by rw [bytes_ext htl, ← ht]; rfl, rfl⟩
  | cons b l =>
    rw [htl] at hl ht
    simp only [List.length_cons] at hl
    have h0 : gtI (natI (lenS t)) 0 = true := by rw [gtI_iff, natI_eq]; unfold lenS; omega
    have hb : byteAt t 0 = (b.toNat : Int) := byteAt_get (i := 0) (by rw [htl]; rfl)
    rw [h0, hb]
    refine ⟨fun _ => ⟨Int.le_refl _, by unfold lenS; omega⟩, ?_⟩
    cases hc : Nat.beq b.toNat c with
    | true =>
      have he : b.toNat = c := Nat.eq_of_beq_eq_true hc
      rw [if_pos (by simp [sel, eqI, he])]
      have hsub : (strSub t 1 (natI (lenS t))).data.toList = l := by
        have := subL t (l := 1) (h := t.size)
        rw [htl, List.drop_one, List.tail_cons, List.take_of_length_le (by omega)] at this
        exact this
      have hsz : (strSub t 1 (natI (lenS t))).size = l.length := by rw [← hsub]; simp
      refine ⟨⟨by omega, by rw [natI_eq]; unfold lenS; omega, by rw [natI_eq]; unfold lenS; omega⟩, l.length, by simp only [lessN]; omega, _, rfl, hsz.symm, by omega, ?_, rfl⟩
      rw [hsub, ← ht]
      conv => rhs; unfold trimL
      rw [hc]
    | false =>
      have he : b.toNat ≠ c := fun h => by rw [h] at hc; simp at hc
      rw [if_neg (by simp [sel, eqI]; omega)]
      refine ⟨?_, rfl⟩
      rw [bytes_ext htl, ← ht]
      conv => rhs; unfold trimL
      rw [hc]

theorem c275 (s : ByteArray) (c : Nat) (h : Hp) (hs : s.size ≤ 1073741824) : C 275 [.string s, .int .u8 (c : Int)] h fun v h' => v = .string ⟨⟨trimR c s.data.toList⟩⟩ ∧ h' = h := by
  refine SCalls_of_vw fol (pf := pf) (shp := shp275) (f := 275) (fn := Tryz.f275) (by kernel_rfl) (c := Tryz.f275.body.getD .skip) (by kernel_rfl) (by kernel_rfl) fun wf => ?_
  rw [vc275]
  refine ⟨fun vals m hh => ∃ t : ByteArray, [.string t] = vals ∧ m = t.size ∧ t.size ≤ s.size ∧ trimR c t.data.toList = trimR c s.data.toList ∧ hh = h, ⟨s.size, s, rfl, rfl, Nat.le_refl _, rfl, rfl⟩, ?_⟩
  rintro x m hh ⟨t, e, rfl, hle, ht, rfl⟩
  simp at e
  subst e
  have hl : t.data.toList.length = t.size := by simp
  have hrev : t.data.toList = t.data.toList.reverse.reverse := (List.reverse_reverse _).symm
  cases htl : t.data.toList.reverse with
  | nil =>
    rw [htl] at hrev
    have h0 : gtI (natI (lenS t)) 0 = false := by
      rw [Bool.eq_false_iff, Ne, gtI_iff, natI_eq]; unfold lenS; rw [hrev] at hl; simp at hl; omega
    rw [h0]
    refine ⟨fun h => by simp at h, ?_⟩
    rw [if_neg (by simp [sel])]
    refine ⟨?_, rfl⟩
    rw [bytes_ext hrev, ← ht]
    unfold trimR
    rw [htl]
    rfl
  | cons b l =>
    have hlen : l.length + 1 = t.size := by
      have := congrArg List.length htl
      simp only [List.length_reverse, List.length_cons] at this
      omega
    have hcut : t.data.toList = l.reverse ++ [b] := by rw [hrev, htl, List.reverse_cons]
    have h0 : gtI (natI (lenS t)) 0 = true := by rw [gtI_iff, natI_eq]; unfold lenS; omega
    have hi : subW .i64 (natI (lenS t)) 1 = ((t.size - 1 : Nat) : Int) := by
      rw [natI_eq]; unfold lenS
      rw [subW_small (by omega) (by omega)]; omega
    have hb : byteAt t ((t.size - 1 : Nat) : Int) = (b.toNat : Int) := byteAt_get (by
      rw [hcut, List.getElem?_append_right (by simp; omega)]
      simp [show t.size - 1 - l.length = 0 by omega])
    rw [h0, hi, hb]
    refine ⟨fun _ => ⟨Int.natCast_nonneg _, by unfold lenS; omega⟩, ?_⟩
    cases hc : Nat.beq b.toNat c with
    | true =>
      have he : b.toNat = c := Nat.eq_of_beq_eq_true hc
      rw [if_pos (by simp [sel, eqI, he])]
      have hsub : (strSub t 0 ((t.size - 1 : Nat) : Int)).data.toList = l.reverse := by
        have := subL t (l := 0) (h := t.size - 1)
        rw [hcut, List.drop_zero, Nat.sub_zero, List.take_append_of_le_length (by simp; omega), List.take_of_length_le (by simp; omega)] at this
        exact this
      have hsz : (strSub t 0 ((t.size - 1 : Nat) : Int)).size = l.length := by
        have := congrArg List.length hsub
        simpa using this
      refine ⟨⟨by omega, Int.natCast_nonneg _, by omega⟩, l.length, by simp only [lessN]; omega, _, rfl, hsz.symm, by omega, ?_, rfl⟩
      rw [hsub, ← ht]
      unfold trimR
      rw [htl, List.reverse_reverse]
      congr 1
      conv => rhs; unfold trimL
      rw [hc]
    | false =>
      have he : b.toNat ≠ c := fun h => by rw [h] at hc; simp at hc
      rw [if_neg (by simp [sel, eqI]; omega)]
      refine ⟨?_, rfl⟩
      rw [bytes_ext hrev, ← ht]
      unfold trimR
      rw [htl]
      congr 4
      conv => rhs; unfold trimL
      rw [hc]

/-- Strings are trimmed by a law, too. -/
def nat2 : FuncId → List Value → Hp → Option (Option Value) := fun f args h =>
  match Nat.beq f 274 with
  | true => match args with
    | [.string s, .int .u8 (.ofNat c)] => match Nat.ble s.size 1073741824 with
      | true => some (some (.string ⟨⟨trimL c s.data.toList⟩⟩))
      | false => some none
    | _ => some none
  | false => match Nat.beq f 275 with
    | true => match args with
      | [.string s, .int .u8 (.ofNat c)] => match Nat.ble s.size 1073741824 with
        | true => some (some (.string ⟨⟨trimR c s.data.toList⟩⟩))
        | false => some none
      | _ => some none
    | false => nat f args h

theorem nat2_ok : NatOk Tryz.prog nat2 := by
  intro f args h v hn
  unfold nat2 at hn
  split at hn
  · rename_i hf
    have hf := Nat.eq_of_beq_eq_true hf
    subst hf
    split at hn
    · rename_i s c
      split at hn
      · rename_i hs
        simp only [Option.some.injEq] at hn
        subst hn
        exact c274 s c h (Nat.le_of_ble_eq_true hs)
      · simp at hn
    · simp at hn
  · split at hn
    · rename_i hf
      have hf := Nat.eq_of_beq_eq_true hf
      subst hf
      split at hn
      · rename_i s c
        split at hn
        · rename_i hs
          simp only [Option.some.injEq] at hn
          subst hn
          exact c275 s c h (Nat.le_of_ble_eq_true hs)
        · simp at hn
      · simp at hn
    · exact nat_ok f args h v hn
end Go.Proofs.YtfgdeboogfbgcaaGreatDoor.sb

/- Pages are written and read by a law, too: what the kernel reckons. -/
set_option linter.unusedVariables false
namespace Go.Proofs.YtfgdeboogfbgcaaGreatDoor.pk
open Go Go.Cn Go.Cn.Pk Go.Proofs

def eqU : List UInt8 → List UInt8 → Bool
  | [], [] => true
  | a :: x, b :: y => match Nat.beq a.toNat b.toNat with | true => eqU x y | false => false
  | _, _ => false
theorem eqU_iff : ∀ {x y : List UInt8}, eqU x y = true ↔ x = y
  | [], [] => by simp [eqU]
  | [], _ :: _ => by simp [eqU]
  | _ :: _, [] => by simp [eqU]
  | a :: x, b :: y => by
    unfold eqU
    cases hc : Nat.beq a.toNat b.toNat with
    | true =>
      have := Nat.eq_of_beq_eq_true hc
      have hab : a = b := UInt8.toNat_inj.1 this
      simp only [eqU_iff (x := x) (y := y), hab, List.cons.injEq, true_and]
    | false =>
      have : a ≠ b := fun h => by rw [h] at hc; simp at hc
      simp [this]

def frB (p w : Int) : Bool := (decide (p = 1024) || decide (p = 2048) || decide (p = 4096) || decide (p = 8192)) && (decide (1 ≤ w) && decide (w ≤ 32))
theorem frB_iff (p w : Int) : frB p w = true ↔ Fr p w := by
  unfold frB Fr
  simp only [Bool.and_eq_true, Bool.or_eq_true, decide_eq_true_eq]
  constructor <;> (rintro ⟨h1, h2⟩; refine ⟨?_, h2⟩; omega)
def err (p w : Int) (kind no ver len : Nat) : Int :=
  bif !frB p w then 2 else bif Nat.blt kind 1 || Nat.blt 3 kind then 50 else bif !(Nat.ble 2 no && Nat.blt no 2147483648) || Nat.blt ver 1 || Nat.blt 1099511627776 ver then 2 else bif decide (p - 32 < len) then 4 else 0
theorem err_eq (p w : Int) (kind no ver len : Nat) : err p w kind no ver len = pageErr p w kind no ver len := by
  unfold err pageErr
  by_cases h1 : Fr p w
  · rw [(frB_iff p w).2 h1, if_neg (fun h => h h1)]
    simp only [Bool.not_true, cond_false]
    by_cases h2 : kind < 1 ∨ 3 < kind
    · rw [if_pos h2]
      have : (Nat.blt kind 1 || Nat.blt 3 kind) = true := by simp only [Bool.or_eq_true, Nat.blt_eq]; exact h2
      rw [this, cond_true]
    · rw [if_neg h2]
      have : (Nat.blt kind 1 || Nat.blt 3 kind) = false := by rw [Bool.eq_false_iff]; simp only [ne_eq, Bool.or_eq_true, Nat.blt_eq]; exact h2
      rw [this, cond_false]
      by_cases h3 : (¬ (2 ≤ no ∧ no < 2147483648) ∨ ver < 1) ∨ 1099511627776 < ver
      · rw [if_pos h3]
        have : (!(Nat.ble 2 no && Nat.blt no 2147483648) || Nat.blt ver 1 || Nat.blt 1099511627776 ver) = true := by
          simp only [Bool.or_eq_true, Bool.not_eq_true', Bool.and_eq_false_iff, Nat.blt_eq]
          rcases h3 with (h3 | h3) | h3
          · left; left
            by_cases h5 : 2 ≤ no
            · right; rw [Bool.eq_false_iff]; simp only [ne_eq, Nat.blt_eq]; omega
            · left; rw [Bool.eq_false_iff]; simp only [ne_eq, Nat.ble_eq]; omega
          · left; right; exact h3
          · right; exact h3
        rw [this, cond_true]
      · rw [if_neg h3]
        have : (!(Nat.ble 2 no && Nat.blt no 2147483648) || Nat.blt ver 1 || Nat.blt 1099511627776 ver) = false := by
          rw [Bool.eq_false_iff]
          simp only [ne_eq, Bool.or_eq_true, Bool.not_eq_true', Bool.and_eq_false_iff, Nat.blt_eq]
          rintro ((h5 | h5) | h5)
          · rcases h5 with h5 | h5
            · rw [Bool.eq_false_iff] at h5; simp only [ne_eq, Nat.ble_eq] at h5; omega
            · rw [Bool.eq_false_iff] at h5; simp only [ne_eq, Nat.blt_eq] at h5; omega
          · omega
          · omega
        rw [this, cond_false]
        by_cases h4 : p - 32 < (len : Int)
        · rw [if_pos h4, decide_eq_true h4, cond_true]
        · rw [if_neg h4, decide_eq_false h4, cond_false]
  · have : frB p w = false := by rw [Bool.eq_false_iff]; intro hc; exact h1 ((frB_iff p w).1 hc)
    rw [this, if_pos h1]
    rfl

def pgW (p w : Int) (kind no ver : Nat) (body : ByteArray) : Value :=
  match err p w kind no ver body.size with
  | .ofNat 0 => .tuple #[.string (str (pageForm p kind no ver body.data.toList)), .int .i64 0]
  | e => .tuple #[.string ⟨#[]⟩, .int .i64 e]
theorem pgW_eq (p w : Int) (kind no ver : Nat) (body : ByteArray) : pgW p w kind no ver body = pageW p w kind no ver body := by
  unfold pgW pageW
  rw [err_eq]
  split
  · rename_i e; rw [if_neg (by rw [e]; simp)]
  · rename_i e
    have e' : pageErr p w kind no ver body.size ≠ 0 := fun h => e h
    rw [if_pos e']
def pgR (p w : Int) (s : ByteArray) : Value :=
  bif !frB p w then noPage 2 else bif !decide ((s.size : Int) = p) then noPage 51 else
  bif !eqU (be 4 (crc (cutS s 0 28 ++ cutS s 32 (s.size - 32)))) (cutS s 28 4) then noPage 52 else
  bif decide (p - 32 < (num (cutS s 6 2) : Nat)) then noPage 53 else
  match err p w (num (cutS s 5 1)) (num (cutS s 8 4)) (num (cutS s 16 8)) (num (cutS s 6 2)), eqU (pageForm p (num (cutS s 5 1)) (num (cutS s 8 4)) (num (cutS s 16 8)) (cutS s 32 (num (cutS s 6 2)))) s.data.toList with
  | .ofNat 0, true => .tuple #[.agg #[.int .u8 (num (cutS s 5 1) : Nat), .int .u32 (num (cutS s 8 4) : Nat), .int .u64 (num (cutS s 16 8) : Nat), .string (str (cutS s 32 (num (cutS s 6 2))))], .int .i64 0]
  | _, _ => noPage 53
theorem pgR_eq (p w : Int) (s : ByteArray) : pgR p w s = pageR p w s := by
  unfold pgR pageR
  by_cases h1 : Fr p w
  · rw [(frB_iff p w).2 h1, if_neg (fun h => h h1)]
    simp only [Bool.not_true, cond_false]
    by_cases h2 : (s.size : Int) = p
    · rw [decide_eq_true h2, if_neg (fun h => h h2)]
      simp only [Bool.not_true, cond_false]
      by_cases h3 : be 4 (crc (cutS s 0 28 ++ cutS s 32 (s.size - 32))) = cutS s 28 4
      · rw [eqU_iff.2 h3, if_neg (fun h => h h3)]
        simp only [Bool.not_true, cond_false]
        by_cases h4 : p - 32 < ((num (cutS s 6 2) : Nat) : Int)
        · rw [if_pos h4, decide_eq_true h4, cond_true]
        · rw [if_neg h4, decide_eq_false h4, cond_false, err_eq]
          split
          · rename_i e1 e2
            rw [if_neg]
            rintro (h5 | h5)
            · exact h5 e1
            · exact h5 (eqU_iff.1 e2)
          · rename_i e
            rw [if_pos]
            apply Classical.byContradiction
            intro hc
            refine e ?_ ?_
            · exact Classical.not_not.1 fun h => hc (.inl h)
            · exact eqU_iff.2 (Classical.not_not.1 fun h => hc (.inr h))
      · have : eqU (be 4 (crc (cutS s 0 28 ++ cutS s 32 (s.size - 32)))) (cutS s 28 4) = false := by rw [Bool.eq_false_iff]; intro hc; exact h3 (eqU_iff.1 hc)
        rw [this, if_pos h3]
        rfl
    · rw [decide_eq_false h2, if_pos h2]
      rfl
  · have : frB p w = false := by rw [Bool.eq_false_iff]; intro hc; exact h1 ((frB_iff p w).1 hc)
    rw [this, if_pos h1]
    rfl

def nat3 : FuncId → List Value → Hp → Option (Option Value) := fun f args h =>
  match Nat.beq f 242 with
  | true => match args with
    | [.agg (Array.mk [.int .i64 p, .int .i64 w]), .agg (Array.mk [.int .u8 (.ofNat kind), .int .u32 (.ofNat no), .int .u64 (.ofNat ver), .string body])] => some (some (pgW p w kind no ver body))
    | _ => some none
  | false => match Nat.beq f 172 with
    | true => match args with
      | [.agg (Array.mk [.int .i64 p, .int .i64 w]), .string s] => match Nat.ble s.size 1099511627776 with
        | true => some (some (pgR p w s))
        | false => some none
      | _ => some none
    | false => sb.nat2 f args h

theorem nat3_ok : NatOk Tryz.prog nat3 := by
  intro f args h v hn
  unfold nat3 at hn
  split at hn
  · rename_i hf
    have hf := Nat.eq_of_beq_eq_true hf
    subst hf
    split at hn
    · simp only [Option.some.injEq] at hn
      subst hn
      rw [pgW_eq]
      exact cPWrite _ _ _ _ _ _ h
    · simp at hn
  · split at hn
    · rename_i hf
      have hf := Nat.eq_of_beq_eq_true hf
      subst hf
      split at hn
      · split at hn
        · rename_i hs
          simp only [Option.some.injEq] at hn
          subst hn
          rw [pgR_eq]
          exact cPRead _ _ _ (Nat.le_of_ble_eq_true hs) h
        · simp at hn
      · simp at hn
    · exact sb.nat2_ok f args h v hn
end Go.Proofs.YtfgdeboogfbgcaaGreatDoor.pk

/- A law without arguments, from its contract over the empty heap. -/
set_option linter.unusedVariables false
namespace Go.Cn
open Go.RowKit
/-- A law without arguments that answers true. -/
theorem closed_scalls {P : Program} {f : FuncId} (hlt : f < P.funcs.size) (hc : SCalls P f [] Hp.empty fun v _ => v = .bool true) (w : World) :
    Calls P f #[] w fun e w' => e = .returned (.bool true) ∧ Below w.heap.size w w' := by
  refine ((hc.func hlt).2 w.heap.size (fun _ => none) w #[] (HR_empty _ w (Nat.le_refl _)) (LRel.nil _)).mono ?_
  rintro e w' ⟨v, v', h', σ', rfl, hv, hr, _, he⟩
  subst hv
  exact ⟨by rw [hr.bool_inv], he.toBelow⟩
end Go.Cn
