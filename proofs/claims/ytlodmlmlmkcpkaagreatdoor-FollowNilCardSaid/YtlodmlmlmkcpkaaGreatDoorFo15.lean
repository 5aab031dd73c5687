/- Joined: PkB, PkC, PgA, PkD, PkE, PkF, PkN, SrN, Clo, FollowNilE. -/
import Derived.Test.YtlodmlmlmkcpkaaGreatDoorFo14
/- Contracts of the program's writers (layer 1): a new one, fixed numbers, the string. -/
set_option linter.unusedVariables false
namespace Go.Proofs.YtlodmlmlmkcpkaaGreatDoor.pk
open Go Go.Cn Go.Cn.Pk Go.Proofs Go.Proofs.YtlodmlmlmkcpkaaGreatDoor.vc

abbrev C := SCalls Tryz.prog
theorem fol : Tryz.prog.follows .mixedOrders = true := by kernel_rfl
def nat0 : FuncId → List Value → Hp → Option (Option Value) := fun _ _ _ => none
theorem nat0_ok : NatOk Tryz.prog nat0 := by intro f args h v hn; simp [nat0] at hn
abbrev pt (b : Nat) : Value := .pointer (some ⟨b, 0, none⟩)

theorem appB : AppT Tryz.prog 200 200 5 1 1 := AppT.of _ (by kernel_rfl)

theorem cNew (h : Hp) : C 214 [] h fun v h' => v = pt h.next ∧ WAt h.next h' h.next [] ∧ Kept h h' := by
  refine SCalls_of_vw fol (pf := pfk) (shp := shp_New) (f := 214) (fn := Tryz.f214) (by kernel_rfl) (c := Tryz.f214.body.getD .skip) (by kernel_rfl) (by kernel_rfl) fun wf => ?_
  rw [vc_New]
  intro h1 e1
  obtain ⟨w, k, _⟩ := WAt.new wf e1
  exact ⟨rfl, w, k⟩

theorem cString {n0 b : Nat} {L : List UInt8} {h : Hp} (w : WAt n0 h b L) : C 220 [pt b] h fun v h' => v = .string (str L) ∧ h' = h := by
  refine SCalls_of_vw fol (pf := pfk) (shp := shp_WString) (f := 220) (fn := Tryz.f220) (by kernel_rfl) (c := Tryz.f220.body.getD .skip) (by kernel_rfl) (by kernel_rfl) fun wf => ?_
  rw [vc_WString]
  obtain ⟨hn0, a, hb, bd⟩ := w
  rw [if_neg (by simp [isN])]
  exact ⟨rfl, rfl, a, _, _, ⟨rfl, hb.one rfl⟩, str L, WAt.read bd, rfl, rfl⟩

theorem cWidthU8 (h : Hp) : C 186 [] h fun v h' => v = .int .i64 1 ∧ h' = h :=
  bareV (m := 1000) (n := 5) fol nat0_ok (of_decide_eq_true (by kernel_rfl)) rfl (fun K => by kernel_rfl) rfl h

theorem cPutU8 {n0 b : Nat} {L : List UInt8} {h : Hp} (w : WAt n0 h b L) (x : Nat) (hx : x ≤ 255) (hl : L.length ≤ 1099511620000) :
    C 216 [pt b, .int .u8 (x : Int)] h fun v h' => v = .tuple #[] ∧ WAt n0 h' b (L ++ be 1 x) ∧ Keep (n0 ≤ ·) h h' := by
  refine SCalls_of_vw fol (pf := pfk) (shp := shp_PutU8) (f := 216) (fn := Tryz.f216) (by kernel_rfl) (c := Tryz.f216.body.getD .skip) (by kernel_rfl) (by kernel_rfl) fun wf => ?_
  rw [vc_PutU8]
  have w0 := w
  obtain ⟨hn0, a, hb, bd⟩ := w
  refine ⟨fun _ => rfl, fun _ => rfl, true, fun _ => ⟨rfl, hb.one rfl⟩, ?_⟩
  rw [if_neg (by simp [sel, isN, notB])]
  refine (cWidthU8 h).mono fun v h' ⟨e, eh⟩ => ?_
  subst eh
  refine ⟨1, e, fun vals m hh => ∃ i : Nat, [.int .i64 ((i : Int) - 1)] = vals ∧ m = i ∧ i ≤ 1 ∧ WAt n0 hh b (L ++ (be 1 x).take (1 - i)) ∧ Keep (n0 ≤ ·) h' hh ∧ Wf hh, ⟨1, 1, rfl, rfl, Nat.le_refl _, by simpa using w0, Keep.refl _ _, wf⟩, ?_⟩
  rintro n i hh ⟨_, e, rfl, hi, w, k, wfh⟩
  simp at e
  subst e
  by_cases hc : geI ((i : Int) - 1) 0 = true
  · rw [if_pos hc]
    have hi1 : 1 ≤ i := by rw [geI_iff] at hc; omega
    obtain ⟨j, rfl⟩ : ∃ j : Nat, i = j + 1 := ⟨i - 1, by omega⟩
    obtain ⟨_, a, hb, bd⟩ := w
    have ej : (((j + 1 : Nat) : Int) - 1) = (j : Int) := by omega
    rw [ej]
    refine ⟨rfl, rfl, a, _, _, ⟨rfl, hb.one rfl⟩, nonneg_8 j (by omega), ?_⟩
    intro h1 e1
    have hlen : ((be 1 x).take (1 - (j + 1))).length = 1 - (j + 1) := by rw [List.length_take, be_len]; omega
    obtain ⟨a', h2, e2, h3, e3, w3, k3, wf3⟩ := WAt.app1 wfh appB hn0 hb bd (u := UInt8.ofNat (x >>> (8 * j))) (byte_u8 x j (by omega) (by omega)) e1 (by rw [List.length_append, hlen]; omega)
    refine ⟨a', _, _, h2, e2, rfl, rfl, rfl, h3, e3, j, by simp only [lessN]; omega, j, ?_, rfl, by omega, ?_, k.trans wf k3 fun _ _ hg => hg, wf3⟩
    · rw [subW_small (by omega) (by omega)]
    · rw [List.append_assoc, be_take 1 x j (by omega)] at w3
      exact w3
  · rw [if_neg hc]
    have hi0 : i = 0 := by
      by_cases hq : i = 0
      · exact hq
      · exact absurd (geI_iff.2 (by omega)) hc
    subst hi0
    refine ⟨rfl, ?_, k⟩
    rw [List.take_of_length_le (by rw [be_len]; omega)] at w
    exact w

theorem cWidthU16 (h : Hp) : C 278 [] h fun v h' => v = .int .i64 2 ∧ h' = h :=
  bareV (m := 1000) (n := 5) fol nat0_ok (of_decide_eq_true (by kernel_rfl)) rfl (fun K => by kernel_rfl) rfl h

theorem cPutU16 {n0 b : Nat} {L : List UInt8} {h : Hp} (w : WAt n0 h b L) (x : Nat) (hx : x ≤ 65535) (hl : L.length ≤ 1099511620000) :
    C 218 [pt b, .int .u16 (x : Int)] h fun v h' => v = .tuple #[] ∧ WAt n0 h' b (L ++ be 2 x) ∧ Keep (n0 ≤ ·) h h' := by
  refine SCalls_of_vw fol (pf := pfk) (shp := shp_PutU16) (f := 218) (fn := Tryz.f218) (by kernel_rfl) (c := Tryz.f218.body.getD .skip) (by kernel_rfl) (by kernel_rfl) fun wf => ?_
  rw [vc_PutU16]
  have w0 := w
  obtain ⟨hn0, a, hb, bd⟩ := w
  refine ⟨fun _ => rfl, fun _ => rfl, true, fun _ => ⟨rfl, hb.one rfl⟩, ?_⟩
  rw [if_neg (by simp [sel, isN, notB])]
  refine (cWidthU16 h).mono fun v h' ⟨e, eh⟩ => ?_
  subst eh
  refine ⟨2, e, fun vals m hh => ∃ i : Nat, [.int .i64 ((i : Int) - 1)] = vals ∧ m = i ∧ i ≤ 2 ∧ WAt n0 hh b (L ++ (be 2 x).take (2 - i)) ∧ Keep (n0 ≤ ·) h' hh ∧ Wf hh, ⟨2, 2, rfl, rfl, Nat.le_refl _, by simpa using w0, Keep.refl _ _, wf⟩, ?_⟩
  rintro n i hh ⟨_, e, rfl, hi, w, k, wfh⟩
  simp at e
  subst e
  by_cases hc : geI ((i : Int) - 1) 0 = true
  · rw [if_pos hc]
    have hi1 : 1 ≤ i := by rw [geI_iff] at hc; omega
    obtain ⟨j, rfl⟩ : ∃ j : Nat, i = j + 1 := ⟨i - 1, by omega⟩
    obtain ⟨_, a, hb, bd⟩ := w
    have ej : (((j + 1 : Nat) : Int) - 1) = (j : Int) := by omega
    rw [ej]
    refine ⟨rfl, rfl, a, _, _, ⟨rfl, hb.one rfl⟩, nonneg_8 j (by omega), ?_⟩
    intro h1 e1
    have hlen : ((be 2 x).take (2 - (j + 1))).length = 2 - (j + 1) := by rw [List.length_take, be_len]; omega
    obtain ⟨a', h2, e2, h3, e3, w3, k3, wf3⟩ := WAt.app1 wfh appB hn0 hb bd (u := UInt8.ofNat (x >>> (8 * j))) (byte_u16 x j (by omega) (by omega)) e1 (by rw [List.length_append, hlen]; omega)
    refine ⟨a', _, _, h2, e2, rfl, rfl, rfl, h3, e3, j, by simp only [lessN]; omega, j, ?_, rfl, by omega, ?_, k.trans wf k3 fun _ _ hg => hg, wf3⟩
    · rw [subW_small (by omega) (by omega)]
    · rw [List.append_assoc, be_take 2 x j (by omega)] at w3
      exact w3
  · rw [if_neg hc]
    have hi0 : i = 0 := by
      by_cases hq : i = 0
      · exact hq
      · exact absurd (geI_iff.2 (by omega)) hc
    subst hi0
    refine ⟨rfl, ?_, k⟩
    rw [List.take_of_length_le (by rw [be_len]; omega)] at w
    exact w

theorem cWidthU32 (h : Hp) : C 191 [] h fun v h' => v = .int .i64 4 ∧ h' = h :=
  bareV (m := 1000) (n := 5) fol nat0_ok (of_decide_eq_true (by kernel_rfl)) rfl (fun K => by kernel_rfl) rfl h

theorem cPutU32 {n0 b : Nat} {L : List UInt8} {h : Hp} (w : WAt n0 h b L) (x : Nat) (hx : x ≤ 4294967295) (hl : L.length ≤ 1099511620000) :
    C 215 [pt b, .int .u32 (x : Int)] h fun v h' => v = .tuple #[] ∧ WAt n0 h' b (L ++ be 4 x) ∧ Keep (n0 ≤ ·) h h' := by
  refine SCalls_of_vw fol (pf := pfk) (shp := shp_PutU32) (f := 215) (fn := Tryz.f215) (by kernel_rfl) (c := Tryz.f215.body.getD .skip) (by kernel_rfl) (by kernel_rfl) fun wf => ?_
  rw [vc_PutU32]
  have w0 := w
  obtain ⟨hn0, a, hb, bd⟩ := w
  refine ⟨fun _ => rfl, fun _ => rfl, true, fun _ => ⟨rfl, hb.one rfl⟩, ?_⟩
  rw [if_neg (by simp [sel, isN, notB])]
  refine (cWidthU32 h).mono fun v h' ⟨e, eh⟩ => ?_
  subst eh
  refine ⟨4, e, fun vals m hh => ∃ i : Nat, [.int .i64 ((i : Int) - 1)] = vals ∧ m = i ∧ i ≤ 4 ∧ WAt n0 hh b (L ++ (be 4 x).take (4 - i)) ∧ Keep (n0 ≤ ·) h' hh ∧ Wf hh, ⟨4, 4, rfl, rfl, Nat.le_refl _, by simpa using w0, Keep.refl _ _, wf⟩, ?_⟩
  rintro n i hh ⟨_, e, rfl, hi, w, k, wfh⟩
  simp at e
  subst e
  by_cases hc : geI ((i : Int) - 1) 0 = true
  · rw [if_pos hc]
    have hi1 : 1 ≤ i := by rw [geI_iff] at hc; omega
    obtain ⟨j, rfl⟩ : ∃ j : Nat, i = j + 1 := ⟨i - 1, by omega⟩
    obtain ⟨_, a, hb, bd⟩ := w
    have ej : (((j + 1 : Nat) : Int) - 1) = (j : Int) := by omega
    rw [ej]
    refine ⟨rfl, rfl, a, _, _, ⟨rfl, hb.one rfl⟩, nonneg_8 j (by omega), ?_⟩
    intro h1 e1
    have hlen : ((be 4 x).take (4 - (j + 1))).length = 4 - (j + 1) := by rw [List.length_take, be_len]; omega
    obtain ⟨a', h2, e2, h3, e3, w3, k3, wf3⟩ := WAt.app1 wfh appB hn0 hb bd (u := UInt8.ofNat (x >>> (8 * j))) (byte_u32 x j (by omega) (by omega)) e1 (by rw [List.length_append, hlen]; omega)
    refine ⟨a', _, _, h2, e2, rfl, rfl, rfl, h3, e3, j, by simp only [lessN]; omega, j, ?_, rfl, by omega, ?_, k.trans wf k3 fun _ _ hg => hg, wf3⟩
    · rw [subW_small (by omega) (by omega)]
    · rw [List.append_assoc, be_take 4 x j (by omega)] at w3
      exact w3
  · rw [if_neg hc]
    have hi0 : i = 0 := by
      by_cases hq : i = 0
      · exact hq
      · exact absurd (geI_iff.2 (by omega)) hc
    subst hi0
    refine ⟨rfl, ?_, k⟩
    rw [List.take_of_length_le (by rw [be_len]; omega)] at w
    exact w

theorem cWidthU64 (h : Hp) : C 279 [] h fun v h' => v = .int .i64 8 ∧ h' = h :=
  bareV (m := 1000) (n := 5) fol nat0_ok (of_decide_eq_true (by kernel_rfl)) rfl (fun K => by kernel_rfl) rfl h

theorem cPutU64 {n0 b : Nat} {L : List UInt8} {h : Hp} (w : WAt n0 h b L) (x : Nat) (hx : x ≤ 18446744073709551615) (hl : L.length ≤ 1099511620000) :
    C 219 [pt b, .int .u64 (x : Int)] h fun v h' => v = .tuple #[] ∧ WAt n0 h' b (L ++ be 8 x) ∧ Keep (n0 ≤ ·) h h' := by
  refine SCalls_of_vw fol (pf := pfk) (shp := shp_PutU64) (f := 219) (fn := Tryz.f219) (by kernel_rfl) (c := Tryz.f219.body.getD .skip) (by kernel_rfl) (by kernel_rfl) fun wf => ?_
  rw [vc_PutU64]
  have w0 := w
  obtain ⟨hn0, a, hb, bd⟩ := w
  refine ⟨fun _ => rfl, fun _ => rfl, true, fun _ => ⟨rfl, hb.one rfl⟩, ?_⟩
  rw [if_neg (by simp [sel, isN, notB])]
  refine (cWidthU64 h).mono fun v h' ⟨e, eh⟩ => ?_
  subst eh
  refine ⟨8, e, fun vals m hh => ∃ i : Nat, [.int .i64 ((i : Int) - 1)] = vals ∧ m = i ∧ i ≤ 8 ∧ WAt n0 hh b (L ++ (be 8 x).take (8 - i)) ∧ Keep (n0 ≤ ·) h' hh ∧ Wf hh, ⟨8, 8, rfl, rfl, Nat.le_refl _, by simpa using w0, Keep.refl _ _, wf⟩, ?_⟩
  rintro n i hh ⟨_, e, rfl, hi, w, k, wfh⟩
  simp at e
  subst e
  by_cases hc : geI ((i : Int) - 1) 0 = true
  · rw [if_pos hc]
    have hi1 : 1 ≤ i := by rw [geI_iff] at hc; omega
    obtain ⟨j, rfl⟩ : ∃ j : Nat, i = j + 1 := ⟨i - 1, by omega⟩
    obtain ⟨_, a, hb, bd⟩ := w
    have ej : (((j + 1 : Nat) : Int) - 1) = (j : Int) := by omega
    rw [ej]
    refine ⟨rfl, rfl, a, _, _, ⟨rfl, hb.one rfl⟩, nonneg_8 j (by omega), ?_⟩
    intro h1 e1
    have hlen : ((be 8 x).take (8 - (j + 1))).length = 8 - (j + 1) := by rw [List.length_take, be_len]; omega
    obtain ⟨a', h2, e2, h3, e3, w3, k3, wf3⟩ := WAt.app1 wfh appB hn0 hb bd (u := UInt8.ofNat (x >>> (8 * j))) (byte_u64 x j (by omega) (by omega)) e1 (by rw [List.length_append, hlen]; omega)
    refine ⟨a', _, _, h2, e2, rfl, rfl, rfl, h3, e3, j, by simp only [lessN]; omega, j, ?_, rfl, by omega, ?_, k.trans wf k3 fun _ _ hg => hg, wf3⟩
    · rw [subW_small (by omega) (by omega)]
    · rw [List.append_assoc, be_take 8 x j (by omega)] at w3
      exact w3
  · rw [if_neg hc]
    have hi0 : i = 0 := by
      by_cases hq : i = 0
      · exact hq
      · exact absurd (geI_iff.2 (by omega)) hc
    subst hi0
    refine ⟨rfl, ?_, k⟩
    rw [List.take_of_length_le (by rw [be_len]; omega)] at w
    exact w

theorem cWidthKind (h : Hp) : C 277 [] h fun v h' => v = .int .i64 1 ∧ h' = h :=
  bareV (m := 1000) (n := 5) fol nat0_ok (of_decide_eq_true (by kernel_rfl)) rfl (fun K => by kernel_rfl) rfl h

theorem cPutKind {n0 b : Nat} {L : List UInt8} {h : Hp} (w : WAt n0 h b L) (x : Nat) (hx : x ≤ 255) (hl : L.length ≤ 1099511620000) :
    C 217 [pt b, .int .u8 (x : Int)] h fun v h' => v = .tuple #[] ∧ WAt n0 h' b (L ++ be 1 x) ∧ Keep (n0 ≤ ·) h h' := by
  refine SCalls_of_vw fol (pf := pfk) (shp := shp_PutKind) (f := 217) (fn := Tryz.f217) (by kernel_rfl) (c := Tryz.f217.body.getD .skip) (by kernel_rfl) (by kernel_rfl) fun wf => ?_
  rw [vc_PutKind]
  have w0 := w
  obtain ⟨hn0, a, hb, bd⟩ := w
  refine ⟨fun _ => rfl, fun _ => rfl, true, fun _ => ⟨rfl, hb.one rfl⟩, ?_⟩
  rw [if_neg (by simp [sel, isN, notB])]
  refine (cWidthKind h).mono fun v h' ⟨e, eh⟩ => ?_
  subst eh
  refine ⟨1, e, fun vals m hh => ∃ i : Nat, [.int .i64 ((i : Int) - 1)] = vals ∧ m = i ∧ i ≤ 1 ∧ WAt n0 hh b (L ++ (be 1 x).take (1 - i)) ∧ Keep (n0 ≤ ·) h' hh ∧ Wf hh, ⟨1, 1, rfl, rfl, Nat.le_refl _, by simpa using w0, Keep.refl _ _, wf⟩, ?_⟩
  rintro n i hh ⟨_, e, rfl, hi, w, k, wfh⟩
  simp at e
  subst e
  by_cases hc : geI ((i : Int) - 1) 0 = true
  · rw [if_pos hc]
    have hi1 : 1 ≤ i := by rw [geI_iff] at hc; omega
    obtain ⟨j, rfl⟩ : ∃ j : Nat, i = j + 1 := ⟨i - 1, by omega⟩
    obtain ⟨_, a, hb, bd⟩ := w
    have ej : (((j + 1 : Nat) : Int) - 1) = (j : Int) := by omega
    rw [ej]
    refine ⟨rfl, rfl, a, _, _, ⟨rfl, hb.one rfl⟩, nonneg_8 j (by omega), ?_⟩
    intro h1 e1
    have hlen : ((be 1 x).take (1 - (j + 1))).length = 1 - (j + 1) := by rw [List.length_take, be_len]; omega
    obtain ⟨a', h2, e2, h3, e3, w3, k3, wf3⟩ := WAt.app1 wfh appB hn0 hb bd (u := UInt8.ofNat (x >>> (8 * j))) (byte_u8 x j (by omega) (by omega)) e1 (by rw [List.length_append, hlen]; omega)
    refine ⟨a', _, _, h2, e2, rfl, rfl, rfl, h3, e3, j, by simp only [lessN]; omega, j, ?_, rfl, by omega, ?_, k.trans wf k3 fun _ _ hg => hg, wf3⟩
    · rw [subW_small (by omega) (by omega)]
    · rw [List.append_assoc, be_take 1 x j (by omega)] at w3
      exact w3
  · rw [if_neg hc]
    have hi0 : i = 0 := by
      by_cases hq : i = 0
      · exact hq
      · exact absurd (geI_iff.2 (by omega)) hc
    subst hi0
    refine ⟨rfl, ?_, k⟩
    rw [List.take_of_length_le (by rw [be_len]; omega)] at w
    exact w
end Go.Proofs.YtlodmlmlmkcpkaaGreatDoor.pk

/- Contracts of the program's readers (layer 1): fixed numbers, raw bytes. -/
set_option linter.unusedVariables false
namespace Go.Proofs.YtlodmlmlmkcpkaaGreatDoor.pk
open Go Go.Cn Go.Cn.Pk Go.Proofs Go.Proofs.YtlodmlmlmkcpkaaGreatDoor.vc

theorem cOpen (s : ByteArray) (h : Hp) : C 118 [.string s] h fun v h' => v = pt h.next ∧ RAt h' h.next s 0 0 ∧ Kept h h' := by
  refine SCalls_of_vw fol (pf := pfk) (shp := shp_ROpen) (f := 118) (fn := Tryz.f118) (by kernel_rfl) (c := Tryz.f118.body.getD .skip) (by kernel_rfl) (by kernel_rfl) fun wf => ?_
  rw [vc_ROpen]
  intro h1 e1
  obtain ⟨b1, k1, n1, wf1⟩ := new_blk wf e1
  exact ⟨rfl, b1, k1⟩

theorem cDead {b : Nat} {s : ByteArray} {at' : Nat} {f : Int} {h : Hp} (r : RAt h b s at' f) : C 185 [pt b] h fun v h' => v = .bool (decide (f ≠ 0)) ∧ h' = h := by
  refine SCalls_of_vw fol (pf := pfk) (shp := shp_RDead) (f := 185) (fn := Tryz.f185) (by kernel_rfl) (c := Tryz.f185.body.getD .skip) (by kernel_rfl) (by kernel_rfl) fun wf => ?_
  rw [vc_RDead]
  refine ⟨fun _ => rfl, fun _ => rfl, true, fun _ => ⟨rfl, Blk.one r rfl⟩, fun _ => rfl, fun _ => rfl, f, fun _ => ⟨rfl, Blk.one r rfl⟩, ?_, rfl⟩
  rw [show neI f 0 = decide (f ≠ 0) by unfold neI; by_cases hq : f = 0 <;> simp [hq]]
  rfl

theorem cLeft {b : Nat} {s : ByteArray} {at' : Nat} {f : Int} {h : Hp} (r : RAt h b s at' f) (ha : at' ≤ s.size) (hs : s.size ≤ 1099511627776) : C 187 [pt b] h fun v h' => v = .int .i64 ((s.size : Int) - at') ∧ h' = h := by
  refine SCalls_of_vw fol (pf := pfk) (shp := shp_RLeft) (f := 187) (fn := Tryz.f187) (by kernel_rfl) (c := Tryz.f187.body.getD .skip) (by kernel_rfl) (by kernel_rfl) fun wf => ?_
  rw [vc_RLeft]
  rw [if_neg (by simp [isN])]
  refine ⟨rfl, rfl, s, ⟨rfl, Blk.one r rfl⟩, rfl, rfl, at', ⟨rfl, Blk.one r rfl⟩, ?_, rfl⟩
  rw [natI_eq, subW_small (by unfold lenS; omega) (by unfold lenS; omega)]
  rfl

theorem cFail {b : Nat} {s : ByteArray} {at' : Nat} {f : Int} {h : Hp} (r : RAt h b s at' f) (code : Int) (place : Nat) : C 188 [pt b, .int .i64 code, .int .i64 (place : Int)] h fun v h' => v = .tuple #[] ∧ RAt h' b s place code ∧ Keep (· = b) h h' := by
  refine SCalls_of_vw fol (pf := pfk) (shp := shp_RFail) (f := 188) (fn := Tryz.f188) (by kernel_rfl) (c := Tryz.f188.body.getD .skip) (by kernel_rfl) (by kernel_rfl) fun wf => ?_
  rw [vc_RFail]
  obtain ⟨h1, e1, b1, k1, _, w1⟩ := Blk.set r (o := 3) (v := .int .i64 code) (by simp) rfl
  obtain ⟨h2, e2, b2, k2, _, w2⟩ := Blk.set b1 (o := 2) (v := .int .i64 (place : Int)) (by simp) rfl
  exact ⟨rfl, rfl, rfl, h1, e1, rfl, rfl, rfl, h2, e2, rfl, b2, k1.trans wf k2 fun _ _ hg => hg⟩

theorem cRaw {b : Nat} {s : ByteArray} {at' : Nat} {f : Int} {h : Hp} (r : RAt h b s at' f) (ha : at' ≤ s.size) (hs : s.size ≤ 1099511627776) (n : Int) (hn : n ≤ 1099511627776) :
    C 190 [pt b, .int .i64 n] h fun v h' => v = .string (rawR n s at' f).1 ∧ RAt h' b s (rawR n s at' f).2.1 (rawR n s at' f).2.2 ∧ Keep (· = b) h h' := by
  refine SCalls_of_vw fol (pf := pfk) (shp := shp_RRaw) (f := 190) (fn := Tryz.f190) (by kernel_rfl) (c := Tryz.f190.body.getD .skip) (by kernel_rfl) (by kernel_rfl) fun wf => ?_
  rw [vc_RRaw]
  refine (cDead r).mono fun v h' ⟨e, eh⟩ => ?_
  subst eh
  refine ⟨_, e, ?_⟩
  unfold rawR
  by_cases h1 : f ≠ 0 ∨ n ≤ 0
  · rw [if_pos h1, if_pos (or_iff.2 (by rw [leI_iff, decide_eq_true_eq]; exact h1))]
    exact ⟨rfl, r, Keep.refl _ _⟩
  · rw [if_neg h1, if_neg (fun hc => h1 (by rw [or_iff, leI_iff, decide_eq_true_eq] at hc; exact hc))]
    have hn0 : 0 < n := by omega
    obtain rfl : f = 0 := by
      by_cases hq : f = 0
      · exact hq
      · exact absurd (.inl hq) h1
    obtain ⟨N, rfl⟩ : ∃ N : Nat, n = (N : Int) := ⟨n.toNat, by omega⟩
    refine (cLeft r ha hs).mono fun v h' ⟨e, eh⟩ => ?_
    subst eh
    refine ⟨_, e, ?_⟩
    by_cases h2 : (s.size : Int) < at' + (N : Int)
    · rw [if_pos h2, if_pos (ltI_iff.2 (by omega))]
      refine ⟨rfl, rfl, at', ⟨rfl, Blk.one r rfl⟩, (cFail r 10 at').mono fun v h' ⟨e, r', k⟩ => ?_⟩
      exact ⟨e, rfl, r', k⟩
    · rw [if_neg h2, if_neg (fun hc => h2 (by rw [ltI_iff] at hc; omega))]
      have ea : addW .i64 (at' : Int) (N : Int) = ((at' + N : Nat) : Int) := by rw [addW_small (by omega) (by omega)]; omega
      obtain ⟨h3, e3, b3, k3, _, w3⟩ := Blk.set r (o := 2) (v := .int .i64 ((at' + N : Nat) : Int)) (by simp) rfl
      refine ⟨rfl, rfl, s, ⟨rfl, Blk.one r rfl⟩, rfl, rfl, at', ⟨rfl, Blk.one r rfl⟩, rfl, rfl, at', ⟨rfl, Blk.one r rfl⟩, ?_, rfl, rfl, at', ⟨rfl, Blk.one r rfl⟩, rfl, rfl, rfl, h3, by rw [ea]; exact e3, ?_, ?_, k3⟩
      · rw [ea]; unfold subOk; omega
      · rw [ea, strSub_nat, show at' + N - at' = N by omega]; rfl
      · exact b3

theorem cTakeU8 {b : Nat} {s : ByteArray} {at' : Nat} {f : Int} {h : Hp} (r : RAt h b s at' f) (ha : at' ≤ s.size) (hs : s.size ≤ 1099511627776) :
    C 119 [pt b] h fun v h' => v = .int .u8 ((takeR 1 s at' f).1 : Nat) ∧ RAt h' b s (takeR 1 s at' f).2.1 (takeR 1 s at' f).2.2 ∧ Keep (· = b) h h' := by
  refine SCalls_of_vw fol (pf := pfk) (shp := shp_TakeU8) (f := 119) (fn := Tryz.f119) (by kernel_rfl) (c := Tryz.f119.body.getD .skip) (by kernel_rfl) (by kernel_rfl) fun wf => ?_
  rw [vc_TakeU8]
  refine (cDead r).mono fun v h' ⟨e, eh⟩ => ?_
  subst eh
  refine ⟨_, e, ?_⟩
  unfold takeR
  by_cases h1 : f ≠ 0
  · rw [if_pos h1, if_pos (decide_eq_true h1)]
    exact ⟨rfl, r, Keep.refl _ _⟩
  · rw [if_neg h1, if_neg (by simpa using h1)]
    obtain rfl : f = 0 := by simpa using h1
    refine (cWidthU8 h').mono fun v h'' ⟨e, eh⟩ => ?_
    subst eh
    refine ⟨_, e, (cLeft r ha hs).mono fun v h' ⟨e, eh⟩ => ?_⟩
    subst eh
    refine ⟨_, e, ?_⟩
    by_cases h2 : s.size < at' + 1
    · rw [if_pos h2, if_pos (ltI_iff.2 (by omega))]
      refine ⟨rfl, rfl, at', ⟨rfl, Blk.one r rfl⟩, (cFail r 10 at').mono fun v h' ⟨e, r', k⟩ => ?_⟩
      exact ⟨e, rfl, r', k⟩
    · rw [if_neg h2, if_neg (fun hc => h2 (by rw [ltI_iff] at hc; omega))]
      have hL : (s.data.toList.drop at').length = s.size - at' := by rw [List.length_drop, Array.length_toList]; rfl
      refine ⟨fun vals m hh => ∃ i : Nat, [.int .u64 ((num ((s.data.toList.drop at').take i) : Nat) : Int), .int .i64 (i : Int)] = vals ∧ m = 1 - i ∧ i ≤ 1 ∧ hh = h', ⟨1, 0, rfl, rfl, Nat.zero_le _, rfl⟩, ?_⟩
      rintro n2 n3 m hh ⟨i, e, rfl, hi, rfl⟩
      simp at e
      obtain ⟨rfl, rfl⟩ := e
      by_cases hc : ltI (i : Int) 1 = true
      · rw [if_pos hc]
        have hi1 : i < 1 := by rw [ltI_iff] at hc; omega
        have ea : addW .i64 (at' : Int) (i : Int) = ((at' + i : Nat) : Int) := by rw [addW_small (by omega) (by omega)]; omega
        obtain ⟨u, hu, hb⟩ := byteAt_nat (s := s) (i := at' + i) (by omega)
        have hnum : num ((s.data.toList.drop at').take i) < 256 ^ i := by
          have := num_lt ((s.data.toList.drop at').take i)
          rwa [List.length_take, hL, Nat.min_eq_left (by omega)] at this
        have hnum2 : num ((s.data.toList.drop at').take i) < 72057594037927936 := Nat.lt_of_lt_of_le hnum (Nat.pow_le_pow_right (n := 256) (i := i) (j := 7) (by omega) (by omega))
        refine ⟨by simp [nonneg], rfl, rfl, s, ⟨rfl, Blk.one r rfl⟩, rfl, rfl, at', ⟨rfl, Blk.one r rfl⟩, ?_, 1 - (i + 1), by simp only [lessN]; omega, i + 1, ?_, rfl, by omega, rfl⟩
        · rw [ea]; unfold inR lenS; omega
        · rw [ea, hb, shl_or hnum2, addW_small (by omega) (by omega), List.take_add_one, List.getElem?_drop, hu]
          show [Value.int .u64 ((num (_ ++ [u]) : Nat) : Int), _] = _
          rw [num_append]
          rfl
      · rw [if_neg hc]
        have hi2 : i = 1 := by
          by_cases hq : i = 1
          · exact hq
          · exact absurd (ltI_iff.2 (by omega)) hc
        subst hi2
        have ea : addW .i64 (at' : Int) 1 = ((at' + 1 : Nat) : Int) := by rw [addW_small (by omega) (by omega)]; omega
        have hnum : num ((s.data.toList.drop at').take 1) < 256 := by
          have := num_lt ((s.data.toList.drop at').take 1)
          rwa [List.length_take, hL, Nat.min_eq_left (by omega)] at this
        obtain ⟨h3, e3, b3, k3, _, w3⟩ := Blk.set r (o := 2) (v := .int .i64 ((at' + 1 : Nat) : Int)) (by simp) rfl
        refine ⟨rfl, rfl, at', ⟨rfl, Blk.one r rfl⟩, rfl, rfl, rfl, h3, by rw [ea]; exact e3, by rw [toW_u8n, Nat.mod_eq_of_lt (by omega)], b3, k3⟩

theorem cTakeU16 {b : Nat} {s : ByteArray} {at' : Nat} {f : Int} {h : Hp} (r : RAt h b s at' f) (ha : at' ≤ s.size) (hs : s.size ≤ 1099511627776) :
    C 292 [pt b] h fun v h' => v = .int .u16 ((takeR 2 s at' f).1 : Nat) ∧ RAt h' b s (takeR 2 s at' f).2.1 (takeR 2 s at' f).2.2 ∧ Keep (· = b) h h' := by
  refine SCalls_of_vw fol (pf := pfk) (shp := shp_TakeU16) (f := 292) (fn := Tryz.f292) (by kernel_rfl) (c := Tryz.f292.body.getD .skip) (by kernel_rfl) (by kernel_rfl) fun wf => ?_
  rw [vc_TakeU16]
  refine (cDead r).mono fun v h' ⟨e, eh⟩ => ?_
  subst eh
  refine ⟨_, e, ?_⟩
  unfold takeR
  by_cases h1 : f ≠ 0
  · rw [if_pos h1, if_pos (decide_eq_true h1)]
    exact ⟨rfl, r, Keep.refl _ _⟩
  · rw [if_neg h1, if_neg (by simpa using h1)]
    obtain rfl : f = 0 := by simpa using h1
    refine (cWidthU16 h').mono fun v h'' ⟨e, eh⟩ => ?_
    subst eh
    refine ⟨_, e, (cLeft r ha hs).mono fun v h' ⟨e, eh⟩ => ?_⟩
    subst eh
    refine ⟨_, e, ?_⟩
    by_cases h2 : s.size < at' + 2
    · rw [if_pos h2, if_pos (ltI_iff.2 (by omega))]
      refine ⟨rfl, rfl, at', ⟨rfl, Blk.one r rfl⟩, (cFail r 10 at').mono fun v h' ⟨e, r', k⟩ => ?_⟩
      exact ⟨e, rfl, r', k⟩
    · rw [if_neg h2, if_neg (fun hc => h2 (by rw [ltI_iff] at hc; omega))]
      have hL : (s.data.toList.drop at').length = s.size - at' := by rw [List.length_drop, Array.length_toList]; rfl
      refine ⟨fun vals m hh => ∃ i : Nat, [.int .u64 ((num ((s.data.toList.drop at').take i) : Nat) : Int), .int .i64 (i : Int)] = vals ∧ m = 2 - i ∧ i ≤ 2 ∧ hh = h', ⟨2, 0, rfl, rfl, Nat.zero_le _, rfl⟩, ?_⟩
      rintro n2 n3 m hh ⟨i, e, rfl, hi, rfl⟩
      simp at e
      obtain ⟨rfl, rfl⟩ := e
      by_cases hc : ltI (i : Int) 2 = true
      · rw [if_pos hc]
        have hi1 : i < 2 := by rw [ltI_iff] at hc; omega
        have ea : addW .i64 (at' : Int) (i : Int) = ((at' + i : Nat) : Int) := by rw [addW_small (by omega) (by omega)]; omega
        obtain ⟨u, hu, hb⟩ := byteAt_nat (s := s) (i := at' + i) (by omega)
        have hnum : num ((s.data.toList.drop at').take i) < 256 ^ i := by
          have := num_lt ((s.data.toList.drop at').take i)
          rwa [List.length_take, hL, Nat.min_eq_left (by omega)] at this
        have hnum2 : num ((s.data.toList.drop at').take i) < 72057594037927936 := Nat.lt_of_lt_of_le hnum (Nat.pow_le_pow_right (n := 256) (i := i) (j := 7) (by omega) (by omega))
        refine ⟨by simp [nonneg], rfl, rfl, s, ⟨rfl, Blk.one r rfl⟩, rfl, rfl, at', ⟨rfl, Blk.one r rfl⟩, ?_, 2 - (i + 1), by simp only [lessN]; omega, i + 1, ?_, rfl, by omega, rfl⟩
        · rw [ea]; unfold inR lenS; omega
        · rw [ea, hb, shl_or hnum2, addW_small (by omega) (by omega), List.take_add_one, List.getElem?_drop, hu]
          show [Value.int .u64 ((num (_ ++ [u]) : Nat) : Int), _] = _
          rw [num_append]
          rfl
      · rw [if_neg hc]
        have hi2 : i = 2 := by
          by_cases hq : i = 2
          · exact hq
          · exact absurd (ltI_iff.2 (by omega)) hc
        subst hi2
        have ea : addW .i64 (at' : Int) 2 = ((at' + 2 : Nat) : Int) := by rw [addW_small (by omega) (by omega)]; omega
        have hnum : num ((s.data.toList.drop at').take 2) < 65536 := by
          have := num_lt ((s.data.toList.drop at').take 2)
          rwa [List.length_take, hL, Nat.min_eq_left (by omega)] at this
        obtain ⟨h3, e3, b3, k3, _, w3⟩ := Blk.set r (o := 2) (v := .int .i64 ((at' + 2 : Nat) : Int)) (by simp) rfl
        refine ⟨rfl, rfl, at', ⟨rfl, Blk.one r rfl⟩, rfl, rfl, rfl, h3, by rw [ea]; exact e3, by rw [toW_u16n, Nat.mod_eq_of_lt (by omega)], b3, k3⟩

theorem cTakeU32 {b : Nat} {s : ByteArray} {at' : Nat} {f : Int} {h : Hp} (r : RAt h b s at' f) (ha : at' ≤ s.size) (hs : s.size ≤ 1099511627776) :
    C 127 [pt b] h fun v h' => v = .int .u32 ((takeR 4 s at' f).1 : Nat) ∧ RAt h' b s (takeR 4 s at' f).2.1 (takeR 4 s at' f).2.2 ∧ Keep (· = b) h h' := by
  refine SCalls_of_vw fol (pf := pfk) (shp := shp_TakeU32) (f := 127) (fn := Tryz.f127) (by kernel_rfl) (c := Tryz.f127.body.getD .skip) (by kernel_rfl) (by kernel_rfl) fun wf => ?_
  rw [vc_TakeU32]
  refine (cDead r).mono fun v h' ⟨e, eh⟩ => ?_
  subst eh
  refine ⟨_, e, ?_⟩
  unfold takeR
  by_cases h1 : f ≠ 0
  · rw [if_pos h1, if_pos (decide_eq_true h1)]
    exact ⟨rfl, r, Keep.refl _ _⟩
  · rw [if_neg h1, if_neg (by simpa using h1)]
    obtain rfl : f = 0 := by simpa using h1
    refine (cWidthU32 h').mono fun v h'' ⟨e, eh⟩ => ?_
    subst eh
    refine ⟨_, e, (cLeft r ha hs).mono fun v h' ⟨e, eh⟩ => ?_⟩
    subst eh
    refine ⟨_, e, ?_⟩
    by_cases h2 : s.size < at' + 4
    · rw [if_pos h2, if_pos (ltI_iff.2 (by omega))]
      refine ⟨rfl, rfl, at', ⟨rfl, Blk.one r rfl⟩, (cFail r 10 at').mono fun v h' ⟨e, r', k⟩ => ?_⟩
      exact ⟨e, rfl, r', k⟩
    · rw [if_neg h2, if_neg (fun hc => h2 (by rw [ltI_iff] at hc; omega))]
      have hL : (s.data.toList.drop at').length = s.size - at' := by rw [List.length_drop, Array.length_toList]; rfl
      refine ⟨fun vals m hh => ∃ i : Nat, [.int .u64 ((num ((s.data.toList.drop at').take i) : Nat) : Int), .int .i64 (i : Int)] = vals ∧ m = 4 - i ∧ i ≤ 4 ∧ hh = h', ⟨4, 0, rfl, rfl, Nat.zero_le _, rfl⟩, ?_⟩
      rintro n2 n3 m hh ⟨i, e, rfl, hi, rfl⟩
      simp at e
      obtain ⟨rfl, rfl⟩ := e
      by_cases hc : ltI (i : Int) 4 = true
      · rw [if_pos hc]
        have hi1 : i < 4 := by rw [ltI_iff] at hc; omega
        have ea : addW .i64 (at' : Int) (i : Int) = ((at' + i : Nat) : Int) := by rw [addW_small (by omega) (by omega)]; omega
        obtain ⟨u, hu, hb⟩ := byteAt_nat (s := s) (i := at' + i) (by omega)
        have hnum : num ((s.data.toList.drop at').take i) < 256 ^ i := by
          have := num_lt ((s.data.toList.drop at').take i)
          rwa [List.length_take, hL, Nat.min_eq_left (by omega)] at this
        have hnum2 : num ((s.data.toList.drop at').take i) < 72057594037927936 := Nat.lt_of_lt_of_le hnum (Nat.pow_le_pow_right (n := 256) (i := i) (j := 7) (by omega) (by omega))
        refine ⟨by simp [nonneg], rfl, rfl, s, ⟨rfl, Blk.one r rfl⟩, rfl, rfl, at', ⟨rfl, Blk.one r rfl⟩, ?_, 4 - (i + 1), by simp only [lessN]; omega, i + 1, ?_, rfl, by omega, rfl⟩
        · rw [ea]; unfold inR lenS; omega
        · rw [ea, hb, shl_or hnum2, addW_small (by omega) (by omega), List.take_add_one, List.getElem?_drop, hu]
          show [Value.int .u64 ((num (_ ++ [u]) : Nat) : Int), _] = _
          rw [num_append]
          rfl
      · rw [if_neg hc]
        have hi2 : i = 4 := by
          by_cases hq : i = 4
          · exact hq
          · exact absurd (ltI_iff.2 (by omega)) hc
        subst hi2
        have ea : addW .i64 (at' : Int) 4 = ((at' + 4 : Nat) : Int) := by rw [addW_small (by omega) (by omega)]; omega
        have hnum : num ((s.data.toList.drop at').take 4) < 4294967296 := by
          have := num_lt ((s.data.toList.drop at').take 4)
          rwa [List.length_take, hL, Nat.min_eq_left (by omega)] at this
        obtain ⟨h3, e3, b3, k3, _, w3⟩ := Blk.set r (o := 2) (v := .int .i64 ((at' + 4 : Nat) : Int)) (by simp) rfl
        refine ⟨rfl, rfl, at', ⟨rfl, Blk.one r rfl⟩, rfl, rfl, rfl, h3, by rw [ea]; exact e3, by rw [toW_u32n, Nat.mod_eq_of_lt (by omega)], b3, k3⟩

theorem cTakeU64 {b : Nat} {s : ByteArray} {at' : Nat} {f : Int} {h : Hp} (r : RAt h b s at' f) (ha : at' ≤ s.size) (hs : s.size ≤ 1099511627776) :
    C 293 [pt b] h fun v h' => v = .int .u64 ((takeR 8 s at' f).1 : Nat) ∧ RAt h' b s (takeR 8 s at' f).2.1 (takeR 8 s at' f).2.2 ∧ Keep (· = b) h h' := by
  refine SCalls_of_vw fol (pf := pfk) (shp := shp_TakeU64) (f := 293) (fn := Tryz.f293) (by kernel_rfl) (c := Tryz.f293.body.getD .skip) (by kernel_rfl) (by kernel_rfl) fun wf => ?_
  rw [vc_TakeU64]
  refine (cDead r).mono fun v h' ⟨e, eh⟩ => ?_
  subst eh
  refine ⟨_, e, ?_⟩
  unfold takeR
  by_cases h1 : f ≠ 0
  · rw [if_pos h1, if_pos (decide_eq_true h1)]
    exact ⟨rfl, r, Keep.refl _ _⟩
  · rw [if_neg h1, if_neg (by simpa using h1)]
    obtain rfl : f = 0 := by simpa using h1
    refine (cWidthU64 h').mono fun v h'' ⟨e, eh⟩ => ?_
    subst eh
    refine ⟨_, e, (cLeft r ha hs).mono fun v h' ⟨e, eh⟩ => ?_⟩
    subst eh
    refine ⟨_, e, ?_⟩
    by_cases h2 : s.size < at' + 8
    · rw [if_pos h2, if_pos (ltI_iff.2 (by omega))]
      refine ⟨rfl, rfl, at', ⟨rfl, Blk.one r rfl⟩, (cFail r 10 at').mono fun v h' ⟨e, r', k⟩ => ?_⟩
      exact ⟨e, rfl, r', k⟩
    · rw [if_neg h2, if_neg (fun hc => h2 (by rw [ltI_iff] at hc; omega))]
      have hL : (s.data.toList.drop at').length = s.size - at' := by rw [List.length_drop, Array.length_toList]; rfl
      refine ⟨fun vals m hh => ∃ i : Nat, [.int .u64 ((num ((s.data.toList.drop at').take i) : Nat) : Int), .int .i64 (i : Int)] = vals ∧ m = 8 - i ∧ i ≤ 8 ∧ hh = h', ⟨8, 0, rfl, rfl, Nat.zero_le _, rfl⟩, ?_⟩
      rintro n2 n3 m hh ⟨i, e, rfl, hi, rfl⟩
      simp at e
      obtain ⟨rfl, rfl⟩ := e
      by_cases hc : ltI (i : Int) 8 = true
      · rw [if_pos hc]
        have hi1 : i < 8 := by rw [ltI_iff] at hc; omega
        have ea : addW .i64 (at' : Int) (i : Int) = ((at' + i : Nat) : Int) := by rw [addW_small (by omega) (by omega)]; omega
        obtain ⟨u, hu, hb⟩ := byteAt_nat (s := s) (i := at' + i) (by omega)
        have hnum : num ((s.data.toList.drop at').take i) < 256 ^ i := by
          have := num_lt ((s.data.toList.drop at').take i)
          rwa [List.length_take, hL, Nat.min_eq_left (by omega)] at this
        have hnum2 : num ((s.data.toList.drop at').take i) < 72057594037927936 := Nat.lt_of_lt_of_le hnum (Nat.pow_le_pow_right (n := 256) (i := i) (j := 7) (by omega) (by omega))
        refine ⟨by simp [nonneg], rfl, rfl, s, ⟨rfl, Blk.one r rfl⟩, rfl, rfl, at', ⟨rfl, Blk.one r rfl⟩, ?_, 8 - (i + 1), by simp only [lessN]; omega, i + 1, ?_, rfl, by omega, rfl⟩
        · rw [ea]; unfold inR lenS; omega
        · rw [ea, hb, shl_or hnum2, addW_small (by omega) (by omega), List.take_add_one, List.getElem?_drop, hu]
          show [Value.int .u64 ((num (_ ++ [u]) : Nat) : Int), _] = _
          rw [num_append]
          rfl
      · rw [if_neg hc]
        have hi2 : i = 8 := by
          by_cases hq : i = 8
          · exact hq
          · exact absurd (ltI_iff.2 (by omega)) hc
        subst hi2
        have ea : addW .i64 (at' : Int) 8 = ((at' + 8 : Nat) : Int) := by rw [addW_small (by omega) (by omega)]; omega
        have hnum : num ((s.data.toList.drop at').take 8) < 18446744073709551616 := by
          have := num_lt ((s.data.toList.drop at').take 8)
          rwa [List.length_take, hL, Nat.min_eq_left (by omega)] at this
        obtain ⟨h3, e3, b3, k3, _, w3⟩ := Blk.set r (o := 2) (v := .int .i64 ((at' + 8 : Nat) : Int)) (by simp) rfl
        refine ⟨rfl, rfl, at', ⟨rfl, Blk.one r rfl⟩, rfl, rfl, rfl, h3, by rw [ea]; exact e3, rfl, b3, k3⟩

theorem cTakeKind {b : Nat} {s : ByteArray} {at' : Nat} {f : Int} {h : Hp} (r : RAt h b s at' f) (ha : at' ≤ s.size) (hs : s.size ≤ 1099511627776) :
    C 409 [pt b] h fun v h' => v = .int .u8 ((takeR 1 s at' f).1 : Nat) ∧ RAt h' b s (takeR 1 s at' f).2.1 (takeR 1 s at' f).2.2 ∧ Keep (· = b) h h' := by
  refine SCalls_of_vw fol (pf := pfk) (shp := shp_TakeKind) (f := 409) (fn := Tryz.f409) (by kernel_rfl) (c := Tryz.f409.body.getD .skip) (by kernel_rfl) (by kernel_rfl) fun wf => ?_
  rw [vc_TakeKind]
  refine (cDead r).mono fun v h' ⟨e, eh⟩ => ?_
  subst eh
  refine ⟨_, e, ?_⟩
  unfold takeR
  by_cases h1 : f ≠ 0
  · rw [if_pos h1, if_pos (decide_eq_true h1)]
    exact ⟨rfl, r, Keep.refl _ _⟩
  · rw [if_neg h1, if_neg (by simpa using h1)]
    obtain rfl : f = 0 := by simpa using h1
    refine (cWidthKind h').mono fun v h'' ⟨e, eh⟩ => ?_
    subst eh
    refine ⟨_, e, (cLeft r ha hs).mono fun v h' ⟨e, eh⟩ => ?_⟩
    subst eh
    refine ⟨_, e, ?_⟩
    by_cases h2 : s.size < at' + 1
    · rw [if_pos h2, if_pos (ltI_iff.2 (by omega))]
      refine ⟨rfl, rfl, at', ⟨rfl, Blk.one r rfl⟩, (cFail r 10 at').mono fun v h' ⟨e, r', k⟩ => ?_⟩
      exact ⟨e, rfl, r', k⟩
    · rw [if_neg h2, if_neg (fun hc => h2 (by rw [ltI_iff] at hc; omega))]
      have hL : (s.data.toList.drop at').length = s.size - at' := by rw [List.length_drop, Array.length_toList]; rfl
      refine ⟨fun vals m hh => ∃ i : Nat, [.int .u64 ((num ((s.data.toList.drop at').take i) : Nat) : Int), .int .i64 (i : Int)] = vals ∧ m = 1 - i ∧ i ≤ 1 ∧ hh = h', ⟨1, 0, rfl, rfl, Nat.zero_le _, rfl⟩, ?_⟩
      rintro n2 n3 m hh ⟨i, e, rfl, hi, rfl⟩
      simp at e
      obtain ⟨rfl, rfl⟩ := e
      by_cases hc : ltI (i : Int) 1 = true
      · rw [if_pos hc]
        have hi1 : i < 1 := by rw [ltI_iff] at hc; omega
        have ea : addW .i64 (at' : Int) (i : Int) = ((at' + i : Nat) : Int) := by rw [addW_small (by omega) (by omega)]; omega
        obtain ⟨u, hu, hb⟩ := byteAt_nat (s := s) (i := at' + i) (by omega)
        have hnum : num ((s.data.toList.drop at').take i) < 256 ^ i := by
          have := num_lt ((s.data.toList.drop at').take i)
          rwa [List.length_take, hL, Nat.min_eq_left (by omega)] at this
        have hnum2 : num ((s.data.toList.drop at').take i) < 72057594037927936 := Nat.lt_of_lt_of_le hnum (Nat.pow_le_pow_right (n := 256) (i := i) (j := 7) (by omega) (by omega))
        refine ⟨by simp [nonneg], rfl, rfl, s, ⟨rfl, Blk.one r rfl⟩, rfl, rfl, at', ⟨rfl, Blk.one r rfl⟩, ?_, 1 - (i + 1), by simp only [lessN]; omega, i + 1, ?_, rfl, by omega, rfl⟩
        · rw [ea]; unfold inR lenS; omega
        · rw [ea, hb, shl_or hnum2, addW_small (by omega) (by omega), List.take_add_one, List.getElem?_drop, hu]
          show [Value.int .u64 ((num (_ ++ [u]) : Nat) : Int), _] = _
          rw [num_append]
          rfl
      · rw [if_neg hc]
        have hi2 : i = 1 := by
          by_cases hq : i = 1
          · exact hq
          · exact absurd (ltI_iff.2 (by omega)) hc
        subst hi2
        have ea : addW .i64 (at' : Int) 1 = ((at' + 1 : Nat) : Int) := by rw [addW_small (by omega) (by omega)]; omega
        have hnum : num ((s.data.toList.drop at').take 1) < 256 := by
          have := num_lt ((s.data.toList.drop at').take 1)
          rwa [List.length_take, hL, Nat.min_eq_left (by omega)] at this
        obtain ⟨h3, e3, b3, k3, _, w3⟩ := Blk.set r (o := 2) (v := .int .i64 ((at' + 1 : Nat) : Int)) (by simp) rfl
        refine ⟨rfl, rfl, at', ⟨rfl, Blk.one r rfl⟩, rfl, rfl, rfl, h3, by rw [ea]; exact e3, by rw [toW_u8n, Nat.mod_eq_of_lt (by omega)], b3, k3⟩
end Go.Proofs.YtlodmlmlmkcpkaaGreatDoor.pk

/- Pages as bytes, plainly: frames, the check sum, a page's form, and what a form is read as. -/
set_option linter.unusedVariables false
namespace Go.Cn.Pk
open Go.Cn.Crc

/-- A frame that may be. -/
def Fr (p w : Int) : Prop := (p = 1024 ∨ p = 2048 ∨ p = 4096 ∨ p = 8192) ∧ 1 ≤ w ∧ w ≤ 32
instance (p w : Int) : Decidable (Fr p w) := by unfold Fr; infer_instance
theorem Fr.ge {p w : Int} (h : Fr p w) : 1024 ≤ p ∧ p ≤ 8192 := by obtain ⟨h, _⟩ := h; omega
def b8 (L : List UInt8) : List Nat := L.map UInt8.toNat
theorem b8_ok (L : List UInt8) : ∀ b ∈ b8 L, b < 256 := by
  intro b hb
  unfold b8 at hb
  rw [List.mem_map] at hb
  obtain ⟨u, _, rfl⟩ := hb
  exact u.toNat_lt
def crc (L : List UInt8) : Nat := 4294967295 ^^^ fast 4294967295 (b8 L)
theorem crc_lt (L : List UInt8) : crc L ≤ 4294967295 := by
  have h1 : Sha.W32 (fast 4294967295 (b8 L)) := by
    rw [fast_eq _ _ (b8_ok L)]
    exact feedN_ok _ (by unfold Sha.W32; omega) (b8_ok L)
  have h2 : 4294967295 ^^^ fast 4294967295 (b8 L) < 2 ^ 32 := Nat.xor_lt_two_pow (by decide) h1
  unfold crc
  omega
def zeros (n : Nat) : List UInt8 := List.replicate n 0
def pageHead (kind len no ver : Nat) : List UInt8 := [] ++ be 4 1213681735 ++ be 1 1 ++ be 1 kind ++ be 2 len ++ be 4 no ++ be 4 0 ++ be 8 ver ++ be 4 0
def pageErr (p w : Int) (kind no ver len : Nat) : Int :=
  if ¬ Fr p w then 2 else if kind < 1 ∨ 3 < kind then 50 else if (¬ (2 ≤ no ∧ no < 2147483648) ∨ ver < 1) ∨ 1099511627776 < ver then 2 else if p - 32 < len then 4 else 0
def pageBody (p : Int) (body : List UInt8) : List UInt8 := body ++ zeros (p.toNat - 32 - body.length)
def pageForm (p : Int) (kind no ver : Nat) (body : List UInt8) : List UInt8 :=
  pageHead kind body.length no ver ++ be 4 (crc (pageHead kind body.length no ver ++ pageBody p body)) ++ pageBody p body
/-- What writing a page answers. -/
def pageW (p w : Int) (kind no ver : Nat) (body : ByteArray) : Value :=
  if pageErr p w kind no ver body.size ≠ 0 then .tuple #[.string ⟨#[]⟩, .int .i64 (pageErr p w kind no ver body.size)] else .tuple #[.string (str (pageForm p kind no ver body.data.toList)), .int .i64 0]
/-- What reading a page answers. -/
def noPage (e : Int) : Value := .tuple #[.agg #[.int .u8 0, .int .u32 0, .int .u64 0, .string ⟨#[]⟩], .int .i64 e]
def cutS (s : ByteArray) (o n : Nat) : List UInt8 := (s.data.toList.drop o).take n
def pageR (p w : Int) (s : ByteArray) : Value :=
  if ¬ Fr p w then noPage 2 else if (s.size : Int) ≠ p then noPage 51 else
  if be 4 (crc (cutS s 0 28 ++ cutS s 32 (s.size - 32))) ≠ cutS s 28 4 then noPage 52 else
  if p - 32 < (num (cutS s 6 2) : Nat) then noPage 53 else
  if pageErr p w (num (cutS s 5 1)) (num (cutS s 8 4)) (num (cutS s 16 8)) (num (cutS s 6 2)) ≠ 0 ∨ pageForm p (num (cutS s 5 1)) (num (cutS s 8 4)) (num (cutS s 16 8)) (cutS s 32 (num (cutS s 6 2))) ≠ s.data.toList then noPage 53 else
  .tuple #[.agg #[.int .u8 (num (cutS s 5 1) : Nat), .int .u32 (num (cutS s 8 4) : Nat), .int .u64 (num (cutS s 16 8) : Nat), .string (str (cutS s 32 (num (cutS s 6 2))))], .int .i64 0]
theorem pageHead_len (kind len no ver : Nat) : (pageHead kind len no ver).length = 28 := by simp [pageHead, be_len]
theorem cutS_len {s : ByteArray} {o n : Nat} (h : o + n ≤ s.size) : (cutS s o n).length = n := by
  have : s.data.toList.length = s.size := Array.length_toList
  unfold cutS
  rw [List.length_take, List.length_drop]
  omega
end Go.Cn.Pk

/- Contracts of the program's layer 5: the check sum, frames, a page's check. -/
set_option linter.unusedVariables false
namespace Go.Proofs.YtlodmlmlmkcpkaaGreatDoor.pk
open Go Go.Cn Go.Cn.Pk Go.Cn.Crc Go.Cn.Sha Go.Proofs Go.Proofs.YtlodmlmlmkcpkaaGreatDoor.vc

theorem stay_of {h h' : Hp} (k : Kept h h') : Stay h h' := by
  refine ⟨fun b cs t g hb hl => ?_, by first | exact k.oth | exact fun b o h1 h2 => k.oth b o h1 h2 id⟩
  cases g with
  | none => exact ⟨k.ro _ _ _ hb, rfl⟩
  | some g =>
    obtain ⟨h1, h2⟩ := k.rw _ _ _ _ hb id
    refine ⟨h1, ?_⟩
    simpa [Hp.live, h2] using hl

theorem byteAt_b8 {s : ByteArray} {i b : Nat} (h : (b8 s.data.toList)[i]? = some b) : byteAt s (i : Int) = (b : Int) := by
  unfold b8 at h
  rw [List.getElem?_map] at h
  have hi : i < s.data.toList.length := by
    cases hx : s.data.toList[i]? with
    | none => rw [hx] at h; simp at h
    | some x => exact (List.getElem?_eq_some_iff.1 hx).1
  obtain ⟨u, hu, hb⟩ := byteAt_nat (s := s) (i := i) (by simpa using hi)
  rw [hu] at h
  simp at h
  rw [hb, h]

theorem odd_iff {y : Nat} (hy : W32 y) : eqI (andW .u32 (y : Int) 1) 1 = y.testBit 0 := by
  have e : andW .u32 (y : Int) 1 = ((y &&& 1 : Nat) : Int) := andW_u32 (b := 1) hy (by unfold W32; omega)
  rw [e, Nat.and_one_is_mod, Nat.testBit_zero, Bool.eq_iff_iff, eqI_iff, decide_eq_true_eq]
  omega
theorem addN (n a : Nat) (h : a + n < 9223372036854775808) : addW .i64 (a : Int) (n : Int) = ((a + n : Nat) : Int) := by
  rw [addW_small (by omega) (by omega)]; omega

theorem cFeed {r : Nat} (hr : W32 r) (s : ByteArray) (hs : s.size ≤ 1099511627776) (h : Hp) : C 280 [.int .u32 r, .string s] h fun v h' => v = .int .u32 (feedN r (b8 s.data.toList) : Nat) ∧ h' = h := by
  refine SCalls_of_vw fol (pf := pfk) (shp := shp_feed) (f := 280) (fn := Tryz.f280) (by kernel_rfl) (c := Tryz.f280.body.getD .skip) (by kernel_rfl) (by kernel_rfl) fun wf => ?_
  rw [vc_feed]
  have hl : (b8 s.data.toList).length = s.size := by unfold b8; rw [List.length_map]; exact Array.length_toList
  refine ⟨fun vals m hh => ∃ (x i : Nat), [.int .u32 (x : Int), .int .i64 (i : Int)] = vals ∧ m = s.size - i ∧ i ≤ s.size ∧ W32 x ∧ x = feedN r ((b8 s.data.toList).take i) ∧ hh = h, ⟨s.size, r, 0, rfl, rfl, Nat.zero_le _, hr, rfl, rfl⟩, ?_⟩
  rintro n n1 m hh ⟨x, i, e, rfl, hi, hx, hxe, rfl⟩
  simp at e
  obtain ⟨rfl, rfl⟩ := e
  by_cases hc : ltI (i : Int) (natI (lenS s)) = true
  · rw [if_pos hc]
    have his : i < s.size := by rw [ltI_iff, natI_eq] at hc; unfold lenS at hc; omega
    have eb : (b8 s.data.toList)[i]? = some ((b8 s.data.toList)[i]'(by omega)) := List.getElem?_eq_getElem _
    generalize (b8 s.data.toList)[i]'(by omega) = b at eb
    have hb : b < 256 := b8_ok _ b (List.mem_of_getElem? eb)
    have hbw : W32 b := by unfold W32; omega
    have e1 : toW .u32 (byteAt s (i : Int)) = (b : Int) := by rw [byteAt_b8 eb]; unfold toW; rw [wrap_u32, Nat.mod_eq_of_lt hbw]
    rw [e1, xorW_u32 hx hbw]
    refine ⟨⟨Int.natCast_nonneg _, by unfold lenS; omega⟩, ?_⟩
    refine ⟨fun vals m hz => ∃ (y k : Nat), [.int .u32 (y : Int), .int .i64 (k : Int)] = vals ∧ m = 8 - k ∧ k ≤ 8 ∧ W32 y ∧ y = steps k (x ^^^ b) ∧ hz = hh, ⟨8, x ^^^ b, 0, rfl, rfl, Nat.zero_le _, hx.xor hbw, rfl, rfl⟩, ?_⟩
    rintro n n2 m1 hh' ⟨y, k, e, rfl, hk, hy, hye, rfl⟩
    simp at e
    obtain ⟨rfl, rfl⟩ := e
    by_cases hc : ltI (k : Int) 8 = true
    · rw [if_pos hc]
      have hk8 : k < 8 := by rw [ltI_iff] at hc; omega
      have hstep : steps (k + 1) (x ^^^ b) = step1 y := by rw [steps_succ, hye]
      have hkk : addW .i64 (k : Int) 1 = ((k + 1 : Nat) : Int) := addN 1 k (by omega)
      have hsh : shrW .u32 (y : Int) 1 = ((y >>> 1 : Nat) : Int) := shrW_nat .u32 y 1 (by decide)
      refine ⟨by simp [nonneg], ?_⟩
      rw [odd_iff hy, hsh, hkk]
      cases hodd : y.testBit 0 with
      | true =>
        rw [if_pos rfl]
        have e3 : step1 y = (y >>> 1) ^^^ poly := by unfold step1; rw [hodd]; rfl
        have e4 : xorW .u32 ((y >>> 1 : Nat) : Int) 3988292384 = (((y >>> 1) ^^^ poly : Nat) : Int) := xorW_u32 (b := poly) (hy.shr 1) (by unfold W32 poly; omega)
        rw [e4]
        exact ⟨8 - (k + 1), by simp only [lessN]; omega, _, k + 1, rfl, rfl, by omega, by rw [← e3]; exact step1_ok hy, by rw [hstep, e3], rfl⟩
      | false =>
        rw [if_neg (by simp)]
        have e3 : step1 y = y >>> 1 := by unfold step1; rw [hodd]; rfl
        exact ⟨8 - (k + 1), by simp only [lessN]; omega, _, k + 1, rfl, rfl, by omega, hy.shr 1, by rw [hstep, e3], rfl⟩
    · rw [if_neg hc]
      have hk8 : k = 8 := by
        by_cases hq : k = 8
        · exact hq
        · exact absurd (ltI_iff.2 (by omega)) hc
      subst hk8
      refine ⟨s.size - (i + 1), by simp only [lessN]; omega, y, i + 1, ?_, rfl, by omega, hy, ?_, rfl⟩
      · rw [show addW .i64 (i : Int) 1 = ((i + 1 : Nat) : Int) from addN 1 i (by omega)]
      · rw [List.take_add_one, eb, feedN_append, ← hxe, hye]
        rfl
  · rw [if_neg hc]
    have his : i = s.size := by
      by_cases hq : i = s.size
      · exact hq
      · exact absurd (ltI_iff.2 (by rw [natI_eq]; unfold lenS; omega)) hc
    subst his
    rw [List.take_of_length_le (by omega)] at hxe
    exact ⟨by rw [hxe], rfl⟩

/-! ### The check sum of some strings -/
def strc (s : ByteArray) : List Value := [.string s]
theorem strc_len (s : ByteArray) : (strc s).length = 1 := rfl
def cat (L : List ByteArray) : List UInt8 := L.flatMap fun s => s.data.toList
theorem b8_append (L M : List UInt8) : b8 (L ++ M) = b8 L ++ b8 M := by unfold b8; rw [List.map_append]

theorem cCRC {a : Option Addr} {l c : Nat} {g : Option Nat} {L : List ByteArray} {h : Hp} (sl : SlT strc 1 h g a l c L) (hs : ∀ s ∈ L, s.size ≤ 1099511627776) (hl : l ≤ 1099511627776) :
    C 222 [.slice a l c] h fun v h' => v = .int .u32 (crc (cat L) : Nat) ∧ h' = h := by
  refine SCalls_of_vw fol (pf := pfk) (shp := shp_CRC) (f := 222) (fn := Tryz.f222) (by kernel_rfl) (c := Tryz.f222.body.getD .skip) (by kernel_rfl) (by kernel_rfl) fun wf => ?_
  rw [vc_CRC]
  have hL := sl.len
  refine ⟨fun vals m hh => ∃ (i : Nat), [.int .u32 ((feedN 4294967295 (b8 (cat (L.take i))) : Nat) : Int), .int .i64 (i : Int)] = vals ∧ m = l - i ∧ i ≤ l ∧ hh = h, ⟨l, 0, rfl, rfl, Nat.zero_le _, rfl⟩, ?_⟩
  rintro n n1 m hh ⟨i, e, rfl, hi, rfl⟩
  simp at e
  obtain ⟨rfl, rfl⟩ := e
  have hw : W32 (feedN 4294967295 (b8 (cat (L.take i)))) := feedN_ok _ (by unfold W32; omega) (b8_ok _)
  by_cases hc : ltI (i : Int) (natI l) = true
  · rw [if_pos hc]
    have his : i < l := by rw [ltI_iff, natI_eq] at hc; omega
    have eb : L[i]? = some (L[i]'(by omega)) := List.getElem?_eq_getElem _
    generalize L[i]'(by omega) = s at eb
    obtain ⟨ha, hcell⟩ := sl.get strc_len eb (j := 0) (m := 1) (by omega)
    have hpl : plusI (off a) (i : Int) 1 = off a + i * 1 + 0 := by unfold plusI; rw [Int.toNat_natCast]; omega
    refine ⟨⟨ha, Int.natCast_nonneg _, by omega⟩, s, ⟨rfl, by rw [hpl]; exact hcell⟩, (cFeed hw s (hs s (List.mem_of_getElem? eb)) hh).mono fun v h' ⟨e, eh⟩ => ?_⟩
    subst eh
    refine ⟨_, e, l - (i + 1), by simp only [lessN]; omega, i + 1, ?_, rfl, by omega, rfl⟩
    rw [show addW .i64 (i : Int) 1 = ((i + 1 : Nat) : Int) from addN 1 i (by omega), List.take_add_one, eb]
    unfold cat
    rw [List.flatMap_append, b8_append, feedN_append]
    simp
  · rw [if_neg hc]
    have his : i = l := by
      by_cases hq : i = l
      · exact hq
      · exact absurd (ltI_iff.2 (by rw [natI_eq]; omega)) hc
    subst his
    refine ⟨?_, rfl⟩
    rw [comW_u32 hw, List.take_of_length_le (by omega)]
    unfold crc
    rw [fast_eq _ _ (b8_ok _)]

theorem cFour {x : Nat} (hx : x ≤ 4294967295) (h : Hp) : C 221 [.int .u32 (x : Int)] h fun v h' => v = .string (str (be 4 x)) ∧ h' = h := by
  refine SCalls.trim (K := fun v h' => v = .string (str (be 4 x)) ∧ Kept h h') (of_decide_eq_true (by kernel_rfl)) ?_ fun v h' ⟨e, k⟩ => ⟨stay_of k, by rw [e]; rfl, e⟩
  refine SCalls_of_vw fol (pf := pfk) (shp := shp_four) (f := 221) (fn := Tryz.f221) (by kernel_rfl) (c := Tryz.f221.body.getD .skip) (by kernel_rfl) (by kernel_rfl) fun wf => ?_
  rw [vc_four]
  refine (cNew h).wf fun v h1 wf1 _ ⟨e, w, k1⟩ => ?_
  refine ⟨_, e, (cPutU32 w x hx (by simp)).wf fun v h2 wf2 _ ⟨e, w, k2⟩ => ?_⟩
  refine ⟨e, (cString w).mono fun v h3 ⟨e, eh⟩ => ?_⟩
  subst eh
  exact ⟨_, e, rfl, k1.trans wf k2 fun g hg hs => by omega⟩

/-! ### Frames -/
abbrev frame (p w : Int) : Value := .agg (Array.mk [.int .i64 p, .int .i64 w])

theorem cRoom (p w : Int) (h : Hp) : C 132 [frame p w] h fun v h' => v = .int .i64 (subW .i64 p 32) ∧ h' = h := by
  refine SCalls.trim (K := fun v h' => v = .int .i64 (subW .i64 p 32) ∧ Kept h h') (of_decide_eq_true (by kernel_rfl)) ?_ fun v h' ⟨e, k⟩ => ⟨stay_of k, by rw [e]; rfl, e⟩
  refine SCalls_of_vw fol (pf := pfk) (shp := shp_Room) (f := 132) (fn := Tryz.f132) (by kernel_rfl) (c := Tryz.f132.body.getD .skip) (by kernel_rfl) (by kernel_rfl) fun wf => ?_
  rw [vc_Room]
  intro h1 e1
  obtain ⟨b1, k1, n1, wf1⟩ := new_blk wf e1
  exact ⟨rfl, p, ⟨rfl, b1.one rfl⟩, rfl, k1⟩

theorem wide (w : Int) : sel (geI w 1) (leI w 32) false = decide (1 ≤ w ∧ w ≤ 32) := by
  rw [Bool.eq_iff_iff, and_iff, geI_iff, leI_iff, decide_eq_true_eq]

theorem cMay (p w : Int) (h : Hp) : C 100 [frame p w] h fun v h' => v = .bool (decide (Fr p w)) ∧ h' = h := by
  refine SCalls.trim (K := fun v h' => v = .bool (decide (Fr p w)) ∧ Kept h h') (of_decide_eq_true (by kernel_rfl)) ?_ fun v h' ⟨e, k⟩ => ⟨stay_of k, by rw [e]; rfl, e⟩
  refine SCalls_of_vw fol (pf := pfk) (shp := shp_May) (f := 100) (fn := Tryz.f100) (by kernel_rfl) (c := Tryz.f100.body.getD .skip) (by kernel_rfl) (by kernel_rfl) fun wf => ?_
  rw [vc_May]
  intro h1 e1
  obtain ⟨b1, k1, n1, wf1⟩ := new_blk wf e1
  have r0 : h1.cellsAt h.next 0 1 = some [.int .i64 p] := b1.one rfl
  have r1 : h1.cellsAt h.next 1 1 = some [.int .i64 w] := b1.one rfl
  refine ⟨rfl, p, ⟨rfl, r0⟩, ?_⟩
  have fin : (p = 1024 ∨ p = 2048 ∨ p = 4096 ∨ p = 8192) → Value.bool (sel (geI w 1) (leI w 32) false) = .bool (decide (Fr p w)) := by
    intro hp
    rw [wide]
    congr 1
    rw [decide_eq_decide]
    unfold Fr
    exact ⟨fun hw => ⟨hp, hw⟩, fun hw => hw.2⟩
  have go : (p = 1024 ∨ p = 2048 ∨ p = 4096 ∨ p = 8192) → plainA (some (Addr.mk h.next 0 none)) = true ∧ ∃ (n : Int), (plainA (some (Addr.mk h.next 1 none)) = true ∧ h1.cellsAt h.next 1 1 = some [Value.int IntKind.i64 n]) ∧ (geI n 1 = true → plainA (some (Addr.mk h.next 0 none)) = true) ∧ ∃ (n_1 : Int), (geI n 1 = true → plainA (some (Addr.mk h.next 1 none)) = true ∧ h1.cellsAt h.next 1 1 = some [Value.int IntKind.i64 n_1]) ∧ (Value.bool (sel (geI n 1) (leI n_1 32) false) = .bool (decide (Fr p w)) ∧ Kept h h1) :=
    fun hp => ⟨rfl, w, ⟨rfl, r1⟩, fun _ => rfl, w, fun _ => ⟨rfl, r1⟩, fin hp, k1⟩
  by_cases h1' : eqI p 1024 = true
  · rw [if_pos h1', if_pos h1']
    exact go (by rw [eqI_iff] at h1'; omega)
  · rw [if_neg h1']
    by_cases h2 : eqI p 2048 = true
    · rw [if_pos h2, if_pos h2]
      exact go (by rw [eqI_iff] at h2; omega)
    · rw [if_neg h2]
      by_cases h3 : eqI p 4096 = true
      · rw [if_pos h3, if_pos h3]
        exact go (by rw [eqI_iff] at h3; omega)
      · rw [if_neg h3]
        by_cases h4 : eqI p 8192 = true
        · rw [if_pos h4]
          exact go (by rw [eqI_iff] at h4; omega)
        · rw [if_neg h4]
          refine ⟨?_, k1⟩
          rw [eqI_iff] at h1' h2 h3 h4
          rw [decide_eq_false]
          intro hf
          have := hf.1
          omega

theorem cNamed (x : Nat) (h : Hp) : C 276 [.int .u32 (x : Int)] h fun v h' => v = .bool (decide (2 ≤ x ∧ x < 2147483648)) ∧ h' = h := by
  refine SCalls_of_vw fol (pf := pfk) (shp := shp_named) (f := 276) (fn := Tryz.f276) (by kernel_rfl) (c := Tryz.f276.body.getD .skip) (by kernel_rfl) (by kernel_rfl) fun wf => ?_
  rw [vc_named]
  refine ⟨?_, rfl⟩
  congr 1
  rw [Bool.eq_iff_iff, and_iff, geI_iff, ltI_iff, decide_eq_true_eq]
  omega

abbrev pageV (kind no ver : Nat) (body : ByteArray) : Value := .agg (Array.mk [.int .u8 (kind : Int), .int .u32 (no : Int), .int .u64 (ver : Int), .string body])

theorem cPCheck (p w : Int) (kind no ver : Nat) (body : ByteArray) (h : Hp) : C 213 [frame p w, pageV kind no ver body] h fun v h' => v = .int .i64 (pageErr p w kind no ver body.size) ∧ h' = h := by
  refine SCalls.trim (K := fun v h' => v = .int .i64 (pageErr p w kind no ver body.size) ∧ Kept h h') (of_decide_eq_true (by kernel_rfl)) ?_ fun v h' ⟨e, k⟩ => ⟨stay_of k, by rw [e]; rfl, e⟩
  refine SCalls_of_vw fol (pf := pfk) (shp := shp_PCheck) (f := 213) (fn := Tryz.f213) (by kernel_rfl) (c := Tryz.f213.body.getD .skip) (by kernel_rfl) (by kernel_rfl) fun wf => ?_
  rw [vc_PCheck]
  intro h1 e1 h2 e2
  obtain ⟨b1, k1, n1, wf1⟩ := new_blk wf e1
  obtain ⟨b2, k2, n2, wf2⟩ := new_blk wf1 e2
  have b1 := Kept.blk k2 b1
  have k : Kept h h2 := k1.trans wf k2 fun _ _ hf => hf
  refine ⟨p, w, ⟨rfl, (b1.cells (Nat.le_of_ble_eq_true rfl)).trans rfl⟩, (cMay p w h2).mono fun v h3 ⟨e, eh⟩ => ?_⟩
  subst eh
  refine ⟨_, e, ?_⟩
  unfold pageErr
  by_cases hf : Fr p w
  · rw [if_neg (by rw [decide_eq_true hf]; simp [notB]), if_neg (fun hc => hc hf)]
    refine ⟨rfl, kind, ⟨rfl, b2.one rfl⟩, fun _ => rfl, kind, fun _ => ⟨rfl, b2.one rfl⟩, ?_⟩
    by_cases hk : kind < 1 ∨ 3 < kind
    · rw [if_pos hk, if_pos (or_iff.2 (by rw [ltI_iff, gtI_iff]; omega))]
      exact ⟨rfl, k⟩
    · rw [if_neg hk, if_neg (fun hc => hk (by rw [or_iff, ltI_iff, gtI_iff] at hc; omega))]
      refine ⟨rfl, no, ⟨rfl, b2.one rfl⟩, (cNamed no h3).mono fun v h4 ⟨e, eh⟩ => ?_⟩
      subst eh
      refine ⟨_, e, fun _ => rfl, ver, fun _ => ⟨rfl, b2.one rfl⟩, fun _ => rfl, ver, fun _ => ⟨rfl, b2.one rfl⟩, ?_⟩
      by_cases hn : (¬ (2 ≤ no ∧ no < 2147483648) ∨ ver < 1) ∨ 1099511627776 < ver
      · rw [if_pos hn, if_pos (by rw [or_iff, or_iff, notB_iff, decide_eq_false_iff_not, ltI_iff, gtI_iff]; omega)]
        exact ⟨rfl, k⟩
      · rw [if_neg hn, if_neg (fun hc => hn (by rw [or_iff, or_iff, notB_iff, decide_eq_false_iff_not, ltI_iff, gtI_iff] at hc; omega))]
        refine ⟨rfl, body, ⟨rfl, b2.one rfl⟩, p, w, ⟨rfl, (b1.cells (Nat.le_of_ble_eq_true rfl)).trans rfl⟩, (cRoom p w h4).mono fun v h5 ⟨e, eh⟩ => ?_⟩
        subst eh
        refine ⟨_, e, ⟨rfl, b2.one rfl⟩, ?_⟩
        have hp := hf.ge
        rw [subW_small (by omega) (by omega)]
        by_cases hb : p - 32 < (body.size : Int)
        · rw [if_pos hb, if_pos (gtI_iff.2 (by rw [natI_eq]; unfold lenS; omega))]
          exact ⟨rfl, k⟩
        · rw [if_neg hb, if_neg (fun hc => hb (by rw [gtI_iff, natI_eq] at hc; unfold lenS at hc; omega))]
          exact ⟨rfl, k⟩
  · rw [if_pos (by rw [decide_eq_false hf]; rfl), if_pos hf]
    exact ⟨rfl, k⟩
end Go.Proofs.YtlodmlmlmkcpkaaGreatDoor.pk

/- Contracts of the program's layer 5: a page is written, a page is read. -/
set_option linter.unusedVariables false
namespace Go.Proofs.YtlodmlmlmkcpkaaGreatDoor.pk
open Go Go.Cn Go.Cn.Pk Go.Proofs Go.Proofs.YtlodmlmlmkcpkaaGreatDoor.vc

theorem slT_two {h h1 : Hp} (wf : Wf h) {x y : ByteArray} {e : TypeId} (he : h1 = h.alloc [.string x, .string y] e) : SlT strc 1 h1 (some h.next) (some ⟨h.next, 0, none⟩) 2 2 [x, y] := by
  obtain ⟨b1, k1, n1, wf1⟩ := new_blk wf he
  exact ⟨⟨Nat.le_refl _, rfl, .inl rfl, fun _ => ⟨_, b1, by simp, by simp [strc]⟩⟩, rfl⟩

theorem zero8 : zero? Tryz.prog 5 = some (.int .u8 0) := by kernel_rfl

theorem zeroCells_eq (n : Nat) : zeroCells (Value.int .u8 0).cells.toList n = bc (zeros n) := by
  rw [bc_map]
  unfold zeroCells zeros
  simp only [Value.cells, List.map_replicate]
  induction n with
  | zero => rfl
  | succ n ih => rw [List.replicate_succ, List.flatten_cons, ih, List.replicate_succ]; rfl

/-- New bytes 0, as a string. -/
theorem make_zeros {h : Hp} (wf : Wf h) (n : Nat) (hn : n ≤ 1099511627776) :
    ∃ h', cmakeSlice Tryz.prog 200 (.int .i64 (n : Int)) (.int .i64 (n : Int)) h = some (.slice (some ⟨h.next, 0, none⟩) n n, h') ∧ readStr (some ⟨h.next, 0, none⟩) n h' (str (zeros n)) ∧ Kept h h' ∧ h'.next = h.next + 1 ∧ Wf h' := by
  obtain ⟨h', e1, e2⟩ := make_slice wf (P := Tryz.prog) (t := 200) (elem := 5) (w := 1) (bytes := 1) (AppT.of _ (by kernel_rfl)) zero8 rfl (n := (n : Int)) (m := n) rfl (by omega)
  rw [zeroCells_eq] at e2
  obtain ⟨b1, k1, n1, wf1⟩ := new_blk wf e2
  refine ⟨h', e1, .inr ⟨rfl, bc (zeros n), ?_, bytesOf_bc _⟩, k1, n1, wf1⟩
  have hl : (bc (zeros n)).length = n := by rw [bc_len]; simp [zeros]
  show h'.cellsAt h.next 0 n = _
  rw [b1.cells (by omega), List.drop_zero, List.take_of_length_le (by omega)]

theorem catOk_of {s u : ByteArray} (h : s.size + u.size ≤ 1099511627776) : catOk s u := by
  unfold catOk
  have : IntKind.i64.max = 9223372036854775807 := rfl
  rw [this]
  omega

theorem cPWrite (p w : Int) (kind no ver : Nat) (body : ByteArray) (h : Hp) : C 141 [frame p w, pageV kind no ver body] h fun v h' => v = pageW p w kind no ver body ∧ h' = h := by
  refine SCalls.trim (K := fun v h' => v = pageW p w kind no ver body ∧ Kept h h') (of_decide_eq_true (by kernel_rfl)) ?_ fun v h' ⟨e, k⟩ => ⟨stay_of k, by rw [e]; unfold pageW; split <;> rfl, e⟩
  refine SCalls_of_vw fol (pf := pfk) (shp := shp_PWrite) (f := 141) (fn := Tryz.f141) (by kernel_rfl) (c := Tryz.f141.body.getD .skip) (by kernel_rfl) (by kernel_rfl) fun wf => ?_
  rw [vc_PWrite]
  intro h1 e1 h2 e2
  obtain ⟨b1, k1, n1, wf1⟩ := new_blk wf e1
  obtain ⟨b2, k2, n2, wf2⟩ := new_blk wf1 e2
  have b1 := Kept.blk k2 b1
  have k : Kept h h2 := k1.trans wf k2 fun _ _ hf => hf
  refine ⟨p, w, ⟨rfl, (b1.cells (Nat.le_of_ble_eq_true rfl)).trans rfl⟩, kind, no, ver, body, ⟨rfl, (b2.cells (Nat.le_of_ble_eq_true rfl)).trans rfl⟩, (cPCheck p w kind no ver body h2).mono fun v h3 ⟨e, eh⟩ => ?_⟩
  subst eh
  refine ⟨_, e, ?_⟩
  unfold pageW
  by_cases he : pageErr p w kind no ver body.size ≠ 0
  · rw [if_pos he, if_pos (neI_iff.2 he)]
    exact ⟨rfl, k⟩
  · rw [if_neg he, if_neg (fun hc => he (neI_iff.1 hc))]
    have hall : Fr p w ∧ kind ≤ 3 ∧ no < 2147483648 ∧ ver ≤ 1099511627776 ∧ (body.size : Int) ≤ p - 32 := by
      unfold pageErr at he
      by_cases h1 : ¬ Fr p w
      · rw [if_pos h1] at he; simp at he
      · rw [if_neg h1] at he
        by_cases h2 : kind < 1 ∨ 3 < kind
        · rw [if_pos h2] at he; simp at he
        · rw [if_neg h2] at he
          by_cases h3 : (¬ (2 ≤ no ∧ no < 2147483648) ∨ ver < 1) ∨ 1099511627776 < ver
          · rw [if_pos h3] at he; simp at he
          · rw [if_neg h3] at he
            by_cases h4 : p - 32 < (body.size : Int)
            · rw [if_pos h4] at he; simp at he
            · exact ⟨Classical.not_not.1 h1, by omega, by omega, by omega, by omega⟩
    obtain ⟨hf, hk, hno, hver, hsz⟩ := hall
    have hp := hf.ge
    have hbl : body.data.toList.length = body.size := Array.length_toList
    have K2 : ∀ {hh : Hp}, Keep (h3.next ≤ ·) h3 hh → Blk hh h.next (some h.next) [.int .i64 p, .int .i64 w] ∧ Blk hh h1.next (some h1.next) [.int .u8 kind, .int .u32 no, .int .u64 ver, .string body] := by
      intro hh kk
      exact ⟨kk.blk b1 fun x hx => by simp at hx; omega, kk.blk b2 fun x hx => by simp at hx; omega⟩
    refine (cNew h3).wf fun v h4 wf4 _ ⟨e, w0, k4⟩ => ⟨_, e, ?_⟩
    have k4 : Keep (h3.next ≤ ·) h3 h4 := k4.mono wf2 fun _ _ hf => hf.elim
    refine (cPutU32 w0 1213681735 (by omega) (by simp)).wf fun v h5 wf5 _ ⟨e, w0, kk⟩ => ⟨e, ?_⟩
    have k5 := k4.trans wf2 kk fun _ _ hg => hg
    clear kk
    refine (cPutU8 w0 1 (by omega) (by simp [be_len])).wf fun v h6 wf6 _ ⟨e, w0, kk⟩ => ⟨e, ?_⟩
    have k6 := k5.trans wf2 kk fun _ _ hg => hg
    clear kk
    refine ⟨rfl, kind, ⟨rfl, (K2 k6).2.one rfl⟩, ?_⟩
    refine (cPutKind w0 kind (by omega) (by simp [be_len])).wf fun v h7 wf7 _ ⟨e, w0, kk⟩ => ⟨e, ?_⟩
    have k7 := k6.trans wf2 kk fun _ _ hg => hg
    clear kk
    refine ⟨rfl, body, ⟨rfl, (K2 k7).2.one rfl⟩, ?_⟩
    have elen : toW .u16 (natI (lenS body)) = ((body.data.toList.length : Nat) : Int) := by
      rw [natI_eq]; unfold lenS; rw [toW_u16n, Nat.mod_eq_of_lt (by omega), hbl]
    rw [elen]
    refine (cPutU16 w0 body.data.toList.length (by omega) (by simp [be_len])).wf fun v h8 wf8 _ ⟨e, w0, kk⟩ => ⟨e, ?_⟩
    have k8 := k7.trans wf2 kk fun _ _ hg => hg
    clear kk
    refine ⟨rfl, no, ⟨rfl, (K2 k8).2.one rfl⟩, ?_⟩
    refine (cPutU32 w0 no (by omega) (by simp [be_len])).wf fun v h9 wf9 _ ⟨e, w0, kk⟩ => ⟨e, ?_⟩
    have k9 := k8.trans wf2 kk fun _ _ hg => hg
    clear kk
    refine (cPutU32 w0 0 (by omega) (by simp [be_len])).wf fun v h10 wf10 _ ⟨e, w0, kk⟩ => ⟨e, ?_⟩
    have k10 := k9.trans wf2 kk fun _ _ hg => hg
    clear kk
    refine ⟨rfl, ver, ⟨rfl, (K2 k10).2.one rfl⟩, ?_⟩
    refine (cPutU64 w0 ver (by omega) (by simp [be_len])).wf fun v h11 wf11 _ ⟨e, w0, kk⟩ => ⟨e, ?_⟩
    have k11 := k10.trans wf2 kk fun _ _ hg => hg
    clear kk
    refine (cPutU32 w0 0 (by omega) (by simp [be_len])).wf fun v h12 wf12 _ ⟨e, w0, kk⟩ => ⟨e, ?_⟩
    have k12 := k11.trans wf2 kk fun _ _ hg => hg
    clear kk
    refine (cString w0).mono fun v h13 ⟨e, eh⟩ => ⟨_, e, ?_⟩
    subst eh
    obtain ⟨B1, B2⟩ := K2 k12
    refine ⟨rfl, body, ⟨rfl, B2.one rfl⟩, p, w, ⟨rfl, (B1.cells (Nat.le_of_ble_eq_true rfl)).trans rfl⟩, rfl, body, ⟨rfl, B2.one rfl⟩, ?_⟩
    refine (cRoom p w h13).mono fun v h14 ⟨e, eh⟩ => ?_
    subst eh
    refine ⟨_, e, ⟨rfl, B2.one rfl⟩, ⟨rfl, B2.one rfl⟩, ?_⟩
    obtain ⟨P, rfl⟩ : ∃ P : Nat, p = (P : Int) := ⟨p.toNat, by omega⟩
    have em : subW .i64 (subW .i64 (P : Int) 32) (natI (lenS body)) = ((P - 32 - body.size : Nat) : Int) := by
      rw [natI_eq]
      unfold lenS
      rw [subW_small (a := (P : Int)) (by omega) (by omega), subW_small (by omega) (by omega)]
      omega
    rw [em]
    obtain ⟨h15, e15, r15, k15, n15, wf15⟩ := make_zeros wf12 (P - 32 - body.size) (by omega)
    refine ⟨_, _, _, h15, e15, ⟨rfl, (Kept.blk k15 B2).one rfl⟩, _, r15, catOk_of (by rw [str_size]; simp [zeros]; omega), ?_⟩
    intro h16 e16
    have sl := slT_two wf15 e16
    obtain ⟨_, k16, n16, wf16⟩ := new_blk wf15 e16
    have ebody : strCat body (str (zeros (P - 32 - body.size))) = str (pageBody (P : Int) body.data.toList) := by
      show strCat (str body.data.toList) _ = _
      rw [str_cat]
      unfold pageBody
      rw [Int.toNat_natCast, hbl]
    have ehead : ([] ++ be 4 1213681735 ++ be 1 1 ++ be 1 kind ++ be 2 body.data.toList.length ++ be 4 no ++ be 4 0 ++ be 8 ver ++ be 4 0) = pageHead kind body.data.toList.length no ver := rfl
    rw [ehead] at sl e16 ⊢
    rw [ebody] at sl e16 ⊢
    have hlb : (pageBody (P : Int) body.data.toList).length = P - 32 := by
      unfold pageBody
      rw [List.length_append, Int.toNat_natCast, hbl]
      simp [zeros]
      omega
    refine (cCRC sl (fun s hs => ?_) (by omega)).mono fun v h17 ⟨e, eh⟩ => ⟨_, e, ?_⟩
    · simp at hs
      rcases hs with rfl | rfl
      · rw [str_size, pageHead_len]; omega
      · rw [str_size, hlb]; omega
    subst eh
    refine (cFour (crc_lt _) h17).mono fun v h18 ⟨e, eh⟩ => ⟨_, e, ?_⟩
    subst eh
    refine ⟨catOk_of (by rw [str_size, str_size, pageHead_len, be_len]; omega), catOk_of (by rw [str_cat, str_size, str_size, List.length_append, pageHead_len, be_len, hlb]; omega), ?_, ?_⟩
    · rw [str_cat, str_cat]
      unfold pageForm
      have : cat [str (pageHead kind body.data.toList.length no ver), str (pageBody (P : Int) body.data.toList)] = pageHead kind body.data.toList.length no ver ++ pageBody (P : Int) body.data.toList := by simp [cat, str_data]
      rw [this]
    · have k312 : Kept h h14 := k.trans wf k12 fun g hg hs => by omega
      exact (k312.trans wf k15 fun _ _ hf => hf).trans wf k16 fun _ _ hf => hf
end Go.Proofs.YtlodmlmlmkcpkaaGreatDoor.pk

/- Contract of the program's layer 5: a page is read. -/
set_option linter.unusedVariables false
namespace Go.Proofs.YtlodmlmlmkcpkaaGreatDoor.pk
open Go Go.Cn Go.Cn.Pk Go.Proofs Go.Proofs.YtlodmlmlmkcpkaaGreatDoor.vc

theorem takeR_ok {n : Nat} {s : ByteArray} {o : Nat} (h : o + n ≤ s.size) : takeR n s o 0 = (num (cutS s o n), o + n, 0) := by
  unfold takeR
  rw [if_neg (by simp), if_neg (by omega)]
  rfl
theorem rawR_ok {n : Nat} {s : ByteArray} {o : Nat} (hn : 0 < n) (h : o + n ≤ s.size) : rawR (n : Int) s o 0 = (str (cutS s o n), o + n, 0) := by
  unfold rawR
  rw [if_neg (by simp; omega), if_neg (by omega), Int.toNat_natCast]
  rfl
theorem sub_cut {s : ByteArray} {l n : Nat} : strSub s (l : Int) ((l + n : Nat) : Int) = str (cutS s l n) := by
  rw [strSub_nat, show l + n - l = n by omega]
  rfl
theorem strEq_str {L M : List UInt8} : strEq (str L) (str M) = decide (L = M) := by
  rw [Bool.eq_iff_iff, eq_iff, decide_eq_true_eq]
  exact ⟨str_inj, fun h => by rw [h]⟩

theorem cPRead (p w : Int) (s : ByteArray) (hs : s.size ≤ 1099511627776) (h : Hp) : C 408 [frame p w, .string s] h fun v h' => v = pageR p w s ∧ h' = h := by
  refine SCalls.trim (K := fun v h' => v = pageR p w s ∧ Kept h h') (of_decide_eq_true (by kernel_rfl)) ?_ fun v h' ⟨e, k⟩ => ⟨stay_of k, by rw [e]; unfold pageR noPage; (repeat' split) <;> rfl, e⟩
  refine SCalls_of_vw fol (pf := pfk) (shp := shp_PRead) (f := 408) (fn := Tryz.f408) (by kernel_rfl) (c := Tryz.f408.body.getD .skip) (by kernel_rfl) (by kernel_rfl) fun wf => ?_
  rw [vc_PRead]
  intro h1 e1 h2 e2 h3 e3
  obtain ⟨b0, k1, n1, wf1⟩ := new_blk wf e1
  obtain ⟨bR, k2, n2, wf2⟩ := new_blk wf1 e2
  obtain ⟨bP, k3, n3, wf3⟩ := new_blk wf2 e3
  have b0 := Kept.blk k3 (Kept.blk k2 b0)
  have bR := Kept.blk k3 bR
  have kk : Kept h h3 := (k1.trans wf k2 fun _ _ hf => hf).trans wf k3 fun _ _ hf => hf
  clear e1 e2 e3 k1 k2 k3
  -- the ends with no page
  have exit1 : ∀ (e : Int) (hh : Hp), Wf hh → Blk hh h1.next (some h1.next) [.int .u8 0, .int .u32 0, .int .u64 0, .string ⟨#[]⟩] → Blk hh h2.next (some h2.next) [.int .u8 0, .int .u32 0, .int .u64 0, .string ⟨#[]⟩] → Kept h hh → pageR p w s = noPage e →
      ∃ (n : Int), ∃ (n_2 : Int), ∃ (n_3 : Int), ∃ (t : ByteArray), (plainA (some (Addr.mk h2.next 0 none)) = true ∧ hh.cellsAt h2.next 0 4 = some [Value.int IntKind.u8 n, Value.int IntKind.u32 n_2, Value.int IntKind.u64 n_3, Value.string t]) ∧
        plainA (some (Addr.mk h1.next 0 none)) = true ∧ ∃ (h4 : Hp), hh.store h1.next 0 [Value.int IntKind.u8 n, Value.int IntKind.u32 n_2, Value.int IntKind.u64 n_3, Value.string t] = some h4 ∧
        ∃ (n : Int), ∃ (n_4 : Int), ∃ (n_5 : Int), ∃ (t : ByteArray), (plainA (some (Addr.mk h1.next 0 none)) = true ∧ h4.cellsAt h1.next 0 4 = some [Value.int IntKind.u8 n, Value.int IntKind.u32 n_4, Value.int IntKind.u64 n_5, Value.string t]) ∧
        (Value.tuple (Array.mk [Value.agg (Array.mk [Value.int IntKind.u8 n, Value.int IntKind.u32 n_4, Value.int IntKind.u64 n_5, Value.string t]), Value.int IntKind.i64 e]) = pageR p w s ∧ Kept h h4) := by
    intro e hh wfh c1 c2 kh ev
    obtain ⟨h4, x1, x2, x3, x4, x5⟩ := c1.store (o := 0) (vs := [.int .u8 0, .int .u32 0, .int .u64 0, .string ⟨#[]⟩]) (by simp) rfl
    exact ⟨0, 0, 0, ⟨#[]⟩, ⟨rfl, (c2.cells (Nat.le_of_ble_eq_true rfl)).trans rfl⟩, rfl, h4, x1, 0, 0, 0, ⟨#[]⟩, ⟨rfl, (x2.cells (Nat.le_of_ble_eq_true rfl)).trans rfl⟩, by rw [ev]; rfl, kh.trans wf x3 fun g hg hs => by omega⟩
  have exit2 : ∀ (hh : Hp) (cs : List Value), cs.length = 4 → Wf hh → Blk hh h1.next (some h1.next) cs → Kept h hh → pageR p w s = noPage 53 →
      plainA (some (Addr.mk h1.next 0 none)) = true ∧ ∃ (h4 : Hp), hh.store h1.next 0 [Value.int IntKind.u8 (Int.ofNat 0), Value.int IntKind.u32 (Int.ofNat 0), Value.int IntKind.u64 (Int.ofNat 0), Value.string (ByteArray.mk (Array.mk []))] = some h4 ∧
        ∃ (n : Int), ∃ (n_4 : Int), ∃ (n_5 : Int), ∃ (t : ByteArray), (plainA (some (Addr.mk h1.next 0 none)) = true ∧ h4.cellsAt h1.next 0 4 = some [Value.int IntKind.u8 n, Value.int IntKind.u32 n_4, Value.int IntKind.u64 n_5, Value.string t]) ∧
        (Value.tuple (Array.mk [Value.agg (Array.mk [Value.int IntKind.u8 n, Value.int IntKind.u32 n_4, Value.int IntKind.u64 n_5, Value.string t]), Value.int IntKind.i64 53]) = pageR p w s ∧ Kept h h4) := by
    intro hh cs hcs wfh c1 kh ev
    obtain ⟨h4, x1, x2, x3, x4, x5⟩ := c1.store (o := 0) (vs := [.int .u8 0, .int .u32 0, .int .u64 0, .string ⟨#[]⟩]) (by simp [hcs]) rfl
    have : splice cs 0 [.int .u8 0, .int .u32 0, .int .u64 0, .string ⟨#[]⟩] = [.int .u8 0, .int .u32 0, .int .u64 0, .string ⟨#[]⟩] := by simp [splice, hcs]
    rw [this] at x2
    exact ⟨rfl, h4, x1, 0, 0, 0, ⟨#[]⟩, ⟨rfl, (x2.cells (Nat.le_of_ble_eq_true rfl)).trans rfl⟩, by rw [ev]; rfl, kh.trans wf x3 fun g hg hs => by omega⟩
  refine ⟨p, w, ⟨rfl, (b0.cells (Nat.le_of_ble_eq_true rfl)).trans rfl⟩, (cMay p w h3).mono fun v h4 ⟨e, eh⟩ => ⟨_, e, ?_⟩⟩
  subst eh
  by_cases hf : Fr p w
  rotate_left
  · rw [if_pos (by rw [decide_eq_false hf]; rfl)]
    exact exit1 2 _ wf3 bR bP kk (by unfold pageR; rw [if_pos hf])
  rw [if_neg (by rw [decide_eq_true hf]; simp [notB])]
  refine ⟨rfl, p, ⟨rfl, b0.one rfl⟩, ?_⟩
  by_cases hz : (s.size : Int) ≠ p
  · have hc : neI (natI (lenS s)) p = true := neI_iff.2 hz
    rw [if_pos hc]
    exact exit1 51 _ wf3 bR bP kk (by unfold pageR; rw [if_neg (fun hc => hc hf), if_pos hz])
  rw [if_neg (fun hc : neI (natI (lenS s)) p = true => hz (neI_iff.1 hc))]
  have hp := hf.ge
  have hz' : (s.size : Int) = p := Classical.not_not.1 hz
  have hge : 1024 ≤ s.size := by omega
  have s1 : strSub s 0 28 = str (cutS s 0 28) := sub_cut (l := 0) (n := 28)
  have s2 : strSub s 32 (natI (lenS s)) = str (cutS s 32 (s.size - 32)) := by
    have := sub_cut (s := s) (l := 32) (n := s.size - 32)
    rw [show 32 + (s.size - 32) = s.size by omega] at this
    exact this
  have s3 : strSub s 28 32 = str (cutS s 28 4) := sub_cut (l := 28) (n := 4)
  refine ⟨by unfold subOk; omega, by unfold subOk; rw [natI_eq]; unfold lenS; omega, ?_⟩
  rw [s1, s2, s3]
  intro h5 e5
  have sl := slT_two wf3 e5
  obtain ⟨_, k5, n5, wf5⟩ := new_blk wf3 e5
  have b0 := Kept.blk k5 b0
  have bR := Kept.blk k5 bR
  have bP := Kept.blk k5 bP
  have kk := kk.trans wf k5 fun _ _ hf => hf
  refine ⟨by unfold subOk; omega, (cCRC sl (fun x hx => ?_) (by omega)).mono fun v h6 ⟨e, eh⟩ => ⟨_, e, ?_⟩⟩
  · simp at hx
    rcases hx with rfl | rfl
    · rw [str_size, cutS_len (by omega)]; omega
    · rw [str_size, cutS_len (by omega)]; omega
  subst eh
  have ecat : cat [str (cutS s 0 28), str (cutS s 32 (s.size - 32))] = cutS s 0 28 ++ cutS s 32 (s.size - 32) := by simp [cat, str_data]
  rw [ecat]
  refine (cFour (crc_lt _) h6).mono fun v h7 ⟨e, eh⟩ => ⟨_, e, ?_⟩
  subst eh
  rw [strEq_str]
  by_cases hcrc : be 4 (crc (cutS s 0 28 ++ cutS s 32 (s.size - 32))) ≠ cutS s 28 4
  · rw [if_pos (by rw [decide_eq_false hcrc]; rfl)]
    exact exit1 52 _ wf5 bR bP kk (by unfold pageR; rw [if_neg (fun hc => hc hf), if_neg hz, if_pos hcrc])
  rw [if_neg (by rw [decide_eq_true (Classical.not_not.1 hcrc)]; simp [notB])]
  refine (cOpen s h7).wf fun v h8 wf8 _ ⟨e, R, k8⟩ => ⟨_, e, ?_⟩
  have b0 := Kept.blk k8 b0
  have bR := Kept.blk k8 bR
  have bP := Kept.blk k8 bP
  have kk := kk.trans wf k8 fun _ _ hf => hf
  have far : h.next < h7.next ∧ h1.next < h7.next ∧ h2.next < h7.next := by omega
  have kr : ∀ {ha hb : Hp}, Kept h ha → Keep (· = h7.next) ha hb → Kept h hb := fun ka kb => ka.trans wf kb fun g hg hs => by omega
  have kp : ∀ {ha hb : Hp}, Kept h ha → Keep (· = h2.next) ha hb → Kept h hb := fun ka kb => ka.trans wf kb fun g hg hs => by omega
  have mv : ∀ {ha hb : Hp} {x : Nat} {cs : List Value}, Keep (· = h7.next) ha hb → Blk ha x (some x) cs → x < h7.next → Blk hb x (some x) cs := fun ka kb hx => ka.blk kb fun y hy => by simp at hy; omega
  refine (cRaw R (by omega) hs 5 (by omega)).wf fun v h9 wf9 _ ⟨e, R, k9⟩ => ⟨_, e, ?_⟩
  rw [show rawR 5 s 0 0 = _ from rawR_ok (n := 5) (by omega) (by omega)] at R
  have b0 := mv k9 b0 (by omega)
  have bR := mv k9 bR (by omega)
  have bP := mv k9 bP (by omega)
  have kk := kr kk k9
  refine (cTakeKind R (by simp only; omega) hs).wf fun v h10 wf10 _ ⟨e, R, k10⟩ => ⟨_, e, rfl, rfl, ?_⟩
  rw [takeR_ok (by simp only; omega)] at R ⊢
  have b0 := mv k10 b0 (by omega)
  have bR := mv k10 bR (by omega)
  have bP := mv k10 bP (by omega)
  have kk := kr kk k10
  obtain ⟨h11, x11, bP, k11, _, w11⟩ := Blk.set bP (o := 0) (v := .int .u8 (num (cutS s 5 1) : Nat)) (by simp) rfl
  have wf11 := w11 wf10
  have kk := kp kk k11
  have b0 := k11.blk b0 fun x hx => by simp at hx; omega
  have bR := k11.blk bR fun x hx => by simp at hx; omega
  have R : RAt h11 h7.next s (5 + 1) 0 := k11.blk R fun x hx => by simp at hx; omega
  refine ⟨h11, x11, ?_⟩
  refine (cTakeU16 R (by omega) hs).wf fun v h12 wf12 _ ⟨e, R, k12⟩ => ⟨_, e, ?_⟩
  rw [takeR_ok (by omega)] at R ⊢
  have b0 := mv k12 b0 (by omega)
  have bR := mv k12 bR (by omega)
  have bP := mv k12 bP (by omega)
  have kk := kr kk k12
  refine (cTakeU32 R (by simp only; omega) hs).wf fun v h13 wf13 _ ⟨e, R, k13⟩ => ⟨_, e, rfl, rfl, ?_⟩
  rw [takeR_ok (by simp only; omega)] at R ⊢
  have b0 := mv k13 b0 (by omega)
  have bR := mv k13 bR (by omega)
  have bP := mv k13 bP (by omega)
  have kk := kr kk k13
  obtain ⟨h14, x14, bP, k14, _, w14⟩ := Blk.set bP (o := 1) (v := .int .u32 (num (cutS s 8 4) : Nat)) (by simp) rfl
  have wf14 := w14 wf13
  have kk := kp kk k14
  have b0 := k14.blk b0 fun x hx => by simp at hx; omega
  have bR := k14.blk bR fun x hx => by simp at hx; omega
  have R : RAt h14 h7.next s 12 0 := k14.blk R fun x hx => by simp at hx; omega
  refine ⟨h14, x14, ?_⟩
  refine (cRaw R (by omega) hs 4 (by omega)).wf fun v h15 wf15 _ ⟨e, R, k15⟩ => ⟨_, e, ?_⟩
  rw [show rawR 4 s 12 0 = _ from rawR_ok (n := 4) (by omega) (by omega)] at R
  have b0 := mv k15 b0 (by omega)
  have bR := mv k15 bR (by omega)
  have bP := mv k15 bP (by omega)
  have kk := kr kk k15
  refine (cTakeU64 R (by simp only; omega) hs).wf fun v h16 wf16 _ ⟨e, R, k16⟩ => ⟨_, e, rfl, rfl, ?_⟩
  rw [takeR_ok (by simp only; omega)] at R ⊢
  have b0 := mv k16 b0 (by omega)
  have bR := mv k16 bR (by omega)
  have bP := mv k16 bP (by omega)
  have kk := kr kk k16
  obtain ⟨h17, x17, bP, k17, _, w17⟩ := Blk.set bP (o := 2) (v := .int .u64 (num (cutS s 16 8) : Nat)) (by simp) rfl
  have wf17 := w17 wf16
  have kk := kp kk k17
  have b0 := k17.blk b0 fun x hx => by simp at hx; omega
  have bR := k17.blk bR fun x hx => by simp at hx; omega
  refine ⟨h17, x17, p, w, ⟨rfl, (b0.cells (Nat.le_of_ble_eq_true rfl)).trans rfl⟩, (cRoom p w h17).mono fun v h18 ⟨e, eh⟩ => ⟨_, e, ?_⟩⟩
  subst eh
  have hn2 : num (cutS s 6 2) < 65536 := by
    have := num_lt (cutS s 6 2)
    rwa [cutS_len (by omega)] at this
  have en : toW .i64 ((num (cutS s 6 2) : Nat) : Int) = ((num (cutS s 6 2) : Nat) : Int) := toW_i64s (by omega) (by omega)
  have ep : subW .i64 p 32 = p - 32 := subW_small (by omega) (by omega)
  simp only
  rw [en, ep]
  by_cases hbig : p - 32 < ((num (cutS s 6 2) : Nat) : Int)
  · rw [if_pos (gtI_iff.2 hbig)]
    exact exit2 _ _ rfl wf17 bR kk (by unfold pageR; rw [if_neg (fun hc => hc hf), if_neg hz, if_neg hcrc, if_pos hbig])
  rw [if_neg (fun hc => hbig (gtI_iff.1 hc))]
  have ea : addW .i64 32 ((num (cutS s 6 2) : Nat) : Int) = ((32 + num (cutS s 6 2) : Nat) : Int) := by rw [addW_small (by omega) (by omega)]; omega
  rw [ea]
  have es : strSub s 32 ((32 + num (cutS s 6 2) : Nat) : Int) = str (cutS s 32 (num (cutS s 6 2))) := sub_cut (l := 32)
  rw [es]
  obtain ⟨h19, x19, bP, k19, _, w19⟩ := Blk.set bP (o := 3) (v := .string (str (cutS s 32 (num (cutS s 6 2))))) (by simp) rfl
  have wf19 := w19 wf17
  have kk := kp kk k19
  have b0 := k19.blk b0 fun x hx => by simp at hx; omega
  have bR := k19.blk bR fun x hx => by simp at hx; omega
  have hbody : (str (cutS s 32 (num (cutS s 6 2)))).size = num (cutS s 6 2) := by rw [str_size, cutS_len (by omega)]
  refine ⟨by unfold subOk; omega, rfl, rfl, h19, x19, p, w, ⟨rfl, (b0.cells (Nat.le_of_ble_eq_true rfl)).trans rfl⟩, _, _, _, _, ⟨rfl, (bP.cells (Nat.le_of_ble_eq_true rfl)).trans rfl⟩, ?_⟩
  refine (cPWrite p w (num (cutS s 5 1)) (num (cutS s 8 4)) (num (cutS s 16 8)) (str (cutS s 32 (num (cutS s 6 2)))) h19).mono fun v h20 ⟨e, eh⟩ => ?_
  subst eh
  unfold pageW at e
  rw [hbody, str_data] at e
  by_cases he : pageErr p w (num (cutS s 5 1)) (num (cutS s 8 4)) (num (cutS s 16 8)) (num (cutS s 6 2)) ≠ 0
  · rw [if_pos he] at e
    refine ⟨_, _, e, ?_⟩
    rw [if_pos (or_iff.2 (.inl (neI_iff.2 he)))]
    exact exit2 _ _ rfl wf19 bR kk (by unfold pageR; rw [if_neg (fun hc => hc hf), if_neg hz, if_neg hcrc, if_neg hbig, if_pos (.inl he)])
  · rw [if_neg he] at e
    refine ⟨_, _, e, ?_⟩
    have eq : strEq (str (pageForm p (num (cutS s 5 1)) (num (cutS s 8 4)) (num (cutS s 16 8)) (cutS s 32 (num (cutS s 6 2))))) s = decide (pageForm p (num (cutS s 5 1)) (num (cutS s 8 4)) (num (cutS s 16 8)) (cutS s 32 (num (cutS s 6 2))) = s.data.toList) := by
      have := strEq_str (L := pageForm p (num (cutS s 5 1)) (num (cutS s 8 4)) (num (cutS s 16 8)) (cutS s 32 (num (cutS s 6 2)))) (M := s.data.toList)
      rwa [str_of] at this
    rw [eq]
    by_cases hq : pageForm p (num (cutS s 5 1)) (num (cutS s 8 4)) (num (cutS s 16 8)) (cutS s 32 (num (cutS s 6 2))) ≠ s.data.toList
    · rw [if_pos (or_iff.2 (.inr (by rw [decide_eq_false hq]; rfl)))]
      exact exit2 _ _ rfl wf19 bR kk (by unfold pageR; rw [if_neg (fun hc => hc hf), if_neg hz, if_neg hcrc, if_neg hbig, if_pos (.inr hq)])
    · rw [if_neg (by rw [decide_eq_true (Classical.not_not.1 hq)]; simp [sel, neI, notB])]
      obtain ⟨h21, y1, y2, y3, y4, y5⟩ := bR.store (o := 0) (vs := [.int .u8 (num (cutS s 5 1) : Nat), .int .u32 (num (cutS s 8 4) : Nat), .int .u64 (num (cutS s 16 8) : Nat), .string (str (cutS s 32 (num (cutS s 6 2))))]) (by simp) rfl
      refine ⟨_, _, _, _, ⟨rfl, (bP.cells (Nat.le_of_ble_eq_true rfl)).trans rfl⟩, rfl, h21, y1, _, _, _, _, ⟨rfl, (y2.cells (Nat.le_of_ble_eq_true rfl)).trans rfl⟩, ?_, kk.trans wf y3 fun g hg hs => by omega⟩
      unfold pageR
      rw [if_neg (fun hc => hc hf), if_neg hz, if_neg hcrc, if_neg hbig, if_neg (fun hc => hc.elim he hq)]
end Go.Proofs.YtlodmlmlmkcpkaaGreatDoor.pk

/- Pages are written and read by a law, too: what the kernel reckons. -/
set_option linter.unusedVariables false
namespace Go.Proofs.YtlodmlmlmkcpkaaGreatDoor.pk
open Go Go.Cn Go.Cn.Pk Go.Proofs

def eqU : List UInt8 → List UInt8 → Bool
  | [], [] => true
  | a :: x, b :: y => match Nat.beq a.toNat b.toNat with | true => eqU x y | false => false
  | _, _ => false
theorem eqU_iff : ∀ {x y : List UInt8}, eqU x y = true ↔ x = y
  | [], [] => by simp [eqU]
  | [], _ :: _ => by simp [eqU]
  | _ :: _, [] => by simp [eqU]
  | a :: x, b :: y => by
    unfold eqU
    cases hc : Nat.beq a.toNat b.toNat with
    | true =>
      have := Nat.eq_of_beq_eq_true hc
      have hab : a = b := UInt8.toNat_inj.1 this
      simp only [eqU_iff (x := x) (y := y), hab, List.cons.injEq, true_and]
    | false =>
      have : a ≠ b := fun h => by rw [h] at hc; simp at hc
      simp [this]

def frB (p w : Int) : Bool := (decide (p = 1024) || decide (p = 2048) || decide (p = 4096) || decide (p = 8192)) && (decide (1 ≤ w) && decide (w ≤ 32))
theorem frB_iff (p w : Int) : frB p w = true ↔ Fr p w := by
  unfold frB Fr
  simp only [Bool.and_eq_true, Bool.or_eq_true, decide_eq_true_eq]
  constructor <;> (rintro ⟨h1, h2⟩; refine ⟨?_, h2⟩; omega)
def err (p w : Int) (kind no ver len : Nat) : Int :=
  bif !frB p w then 2 else bif Nat.blt kind 1 || Nat.blt 3 kind then 50 else bif !(Nat.ble 2 no && Nat.blt no 2147483648) || Nat.blt ver 1 || Nat.blt 1099511627776 ver then 2 else bif decide (p - 32 < len) then 4 else 0
theorem err_eq (p w : Int) (kind no ver len : Nat) : err p w kind no ver len = pageErr p w kind no ver len := by
  unfold err pageErr
  by_cases h1 : Fr p w
  · rw [(frB_iff p w).2 h1, if_neg (fun h => h h1)]
    simp only [Bool.not_true, cond_false]
    by_cases h2 : kind < 1 ∨ 3 < kind
    · rw [if_pos h2]
      have : (Nat.blt kind 1 || Nat.blt 3 kind) = true := by simp only [Bool.or_eq_true, Nat.blt_eq]; exact h2
      rw [this, cond_true]
    · rw [if_neg h2]
      have : (Nat.blt kind 1 || Nat.blt 3 kind) = false := by rw [Bool.eq_false_iff]; simp only [ne_eq, Bool.or_eq_true, Nat.blt_eq]; exact h2
      rw [this, cond_false]
      by_cases h3 : (¬ (2 ≤ no ∧ no < 2147483648) ∨ ver < 1) ∨ 1099511627776 < ver
      · rw [if_pos h3]
        have : (!(Nat.ble 2 no && Nat.blt no 2147483648) || Nat.blt ver 1 || Nat.blt 1099511627776 ver) = true := by
          simp only [Bool.or_eq_true, Bool.not_eq_true', Bool.and_eq_false_iff, Nat.blt_eq]
          rcases h3 with (h3 | h3) | h3
          · left; left
            by_cases h5 : 2 ≤ no
            · right; rw [Bool.eq_false_iff]; simp only [ne_eq, Nat.blt_eq]; omega
            · left; rw [Bool.eq_false_iff]; simp only [ne_eq, Nat.ble_eq]; omega
          · left; right; exact h3
          · right; exact h3
        rw [this, cond_true]
      · rw [if_neg h3]
        have : (!(Nat.ble 2 no && Nat.blt no 2147483648) || Nat.blt ver 1 || Nat.blt 1099511627776 ver) = false := by
          rw [Bool.eq_false_iff]
          simp only [ne_eq, Bool.or_eq_true, Bool.not_eq_true', Bool.and_eq_false_iff, Nat.blt_eq]
          rintro ((h5 | h5) | h5)
          · rcases h5 with h5 | h5
            · rw [Bool.eq_false_iff] at h5; simp only [ne_eq, Nat.ble_eq] at h5; omega
            · rw [Bool.eq_false_iff] at h5; simp only [ne_eq, Nat.blt_eq] at h5; omega
          · omega
          · omega
        rw [this, cond_false]
        by_cases h4 : p - 32 < (len : Int)
        · rw [if_pos h4, decide_eq_true h4, cond_true]
        · rw [if_neg h4, decide_eq_false h4, cond_false]
  · have : frB p w = false := by rw [Bool.eq_false_iff]; intro hc; exact h1 ((frB_iff p w).1 hc)
    rw [this, if_pos h1]
    rfl

def pgW (p w : Int) (kind no ver : Nat) (body : ByteArray) : Value :=
  match err p w kind no ver body.size with
  | .ofNat 0 => .tuple #[.string (str (pageForm p kind no ver body.data.toList)), .int .i64 0]
  | e => .tuple #[.string ⟨#[]⟩, .int .i64 e]
theorem pgW_eq (p w : Int) (kind no ver : Nat) (body : ByteArray) : pgW p w kind no ver body = pageW p w kind no ver body := by
  unfold pgW pageW
  rw [err_eq]
  split
  · rename_i e; rw [if_neg (by rw [e]; simp)]
  · rename_i e
    have e' : pageErr p w kind no ver body.size ≠ 0 := fun h => e h
    rw [if_pos e']
def pgR (p w : Int) (s : ByteArray) : Value :=
  bif !frB p w then noPage 2 else bif !decide ((s.size : Int) = p) then noPage 51 else
  bif !eqU (be 4 (crc (cutS s 0 28 ++ cutS s 32 (s.size - 32)))) (cutS s 28 4) then noPage 52 else
  bif decide (p - 32 < (num (cutS s 6 2) : Nat)) then noPage 53 else
  match err p w (num (cutS s 5 1)) (num (cutS s 8 4)) (num (cutS s 16 8)) (num (cutS s 6 2)), eqU (pageForm p (num (cutS s 5 1)) (num (cutS s 8 4)) (num (cutS s 16 8)) (cutS s 32 (num (cutS s 6 2)))) s.data.toList with
  | .ofNat 0, true => .tuple #[.agg #[.int .u8 (num (cutS s 5 1) : Nat), .int .u32 (num (cutS s 8 4) : Nat), .int .u64 (num (cutS s 16 8) : Nat), .string (str (cutS s 32 (num (cutS s 6 2))))], .int .i64 0]
  | _, _ => noPage 53
theorem pgR_eq (p w : Int) (s : ByteArray) : pgR p w s = pageR p w s := by
  unfold pgR pageR
  by_cases h1 : Fr p w
  · rw [(frB_iff p w).2 h1, if_neg (fun h => h h1)]
    simp only [Bool.not_true, cond_false]
    by_cases h2 : (s.size : Int) = p
    · rw [decide_eq_true h2, if_neg (fun h => h h2)]
      simp only [Bool.not_true, cond_false]
      by_cases h3 : be 4 (crc (cutS s 0 28 ++ cutS s 32 (s.size - 32))) = cutS s 28 4
      · rw [eqU_iff.2 h3, if_neg (fun h => h h3)]
        simp only [Bool.not_true, cond_false]
        by_cases h4 : p - 32 < ((num (cutS s 6 2) : Nat) : Int)
        · rw [if_pos h4, decide_eq_true h4, cond_true]
        · rw [if_neg h4, decide_eq_false h4, cond_false, err_eq]
          split
          · rename_i e1 e2
            rw [if_neg]
            rintro (h5 | h5)
            · exact h5 e1
            · exact h5 (eqU_iff.1 e2)
          · rename_i e
            rw [if_pos]
            apply Classical.byContradiction
            intro hc
            refine e ?_ ?_
            · exact Classical.not_not.1 fun h => hc (.inl h)
            · exact eqU_iff.2 (Classical.not_not.1 fun h => hc (.inr h))
      · have : eqU (be 4 (crc (cutS s 0 28 ++ cutS s 32 (s.size - 32)))) (cutS s 28 4) = false := by rw [Bool.eq_false_iff]; intro hc; exact h3 (eqU_iff.1 hc)
        rw [this, if_pos h3]
        rfl
    · rw [decide_eq_false h2, if_pos h2]
      rfl
  · have : frB p w = false := by rw [Bool.eq_false_iff]; intro hc; exact h1 ((frB_iff p w).1 hc)
    rw [this, if_pos h1]
    rfl

def nat3 : FuncId → List Value → Hp → Option (Option Value) := fun f args h =>
  match Nat.beq f 141 with
  | true => match args with
    | [.agg (Array.mk [.int .i64 p, .int .i64 w]), .agg (Array.mk [.int .u8 (.ofNat kind), .int .u32 (.ofNat no), .int .u64 (.ofNat ver), .string body])] => some (some (pgW p w kind no ver body))
    | _ => some none
  | false => match Nat.beq f 408 with
    | true => match args with
      | [.agg (Array.mk [.int .i64 p, .int .i64 w]), .string s] => match Nat.ble s.size 1099511627776 with
        | true => some (some (pgR p w s))
        | false => some none
      | _ => some none
    | false => sb.nat2 f args h

theorem nat3_ok : NatOk Tryz.prog nat3 := by
  intro f args h v hn
  unfold nat3 at hn
  split at hn
  · rename_i hf
    have hf := Nat.eq_of_beq_eq_true hf
    subst hf
    split at hn
    · simp only [Option.some.injEq] at hn
      subst hn
      rw [pgW_eq]
      exact cPWrite _ _ _ _ _ _ h
    · simp at hn
  · split at hn
    · rename_i hf
      have hf := Nat.eq_of_beq_eq_true hf
      subst hf
      split at hn
      · split at hn
        · rename_i hs
          simp only [Option.some.injEq] at hn
          subst hn
          rw [pgR_eq]
          exact cPRead _ _ _ (Nat.le_of_ble_eq_true hs) h
        · simp at hn
      · simp at hn
    · exact sb.nat2_ok f args h v hn
end Go.Proofs.YtlodmlmlmkcpkaaGreatDoor.pk

/- The document's sha256 answers by a law, too: what the kernel reckons. -/
set_option linter.unusedVariables false
namespace Go.Proofs.YtlodmlmlmkcpkaaGreatDoor.pk
open Go Go.Cn Go.Cn.Pk Go.Proofs

def nat5 : FuncId → List Value → Hp → Option (Option Value) := fun f args h =>
  match Nat.beq f 284 with
  | true => match args with
    | [.string s] => match Nat.ble s.size 1073741824 with
      | true => some (some (sb.sumV s))
      | false => some none
    | _ => some none
  | false => nat3 f args h

theorem nat5_ok : NatOk Tryz.prog nat5 := by
  intro f args h v hn
  unfold nat5 at hn
  split at hn
  · rename_i hf
    have hf := Nat.eq_of_beq_eq_true hf
    subst hf
    split at hn
    · rename_i s
      split at hn
      · rename_i hs
        simp only [Option.some.injEq] at hn
        subst hn
        exact sb.c242 s h (Nat.le_of_ble_eq_true hs)
      · simp at hn
    · simp at hn
  · exact nat3_ok f args h v hn
end Go.Proofs.YtlodmlmlmkcpkaaGreatDoor.pk

/- A law without arguments, from its contract over the empty heap. -/
set_option linter.unusedVariables false
namespace Go.Cn
open Go.RowKit
/-- A law without arguments that answers true. -/
theorem closed_scalls {P : Program} {f : FuncId} (hlt : f < P.funcs.size) (hc : SCalls P f [] Hp.empty fun v _ => v = .bool true) (w : World) :
    Calls P f #[] w fun e w' => e = .returned (.bool true) ∧ Below w.heap.size w w' := by
  refine ((hc.func hlt).2 w.heap.size (fun _ => none) w #[] (HR_empty _ w (Nat.le_refl _)) (LRel.nil _)).mono ?_
  rintro e w' ⟨v, v', h', σ', rfl, hv, hr, _, he⟩
  subst hv
  exact ⟨by rw [hr.bool_inv], he.toBelow⟩
end Go.Cn

/- 'FollowNil' evaluated (a text of its own: memory); what every statement on followers asks ('awake') ahead of it. -/
namespace Go.Proofs.YtlodmlmlmkcpkaaGreatDoor.followNil
open Go Go.Cn Go.Proofs
set_option linter.unusedVariables false

/-- The kernel works out a case's subject step by step (a plain '= true' would go deeper than its stack). -/
theorem force {b : Bool} (h : (Bool.rec (motive := fun _ => Bool) false true b) = true) : b = true := by
  cases b with
  | true => rfl
  | false => exact h

theorem awake_eval : xK Tryz.prog 30000 pk.nat5 100 7 [] Hp.empty (fun v _ => match v with | .bool b => b | _ => false) = true := force (by kernel_rfl)
theorem awake_ok (h : Hp) : SCalls Tryz.prog 7 [] h fun v h' => v = .bool true ∧ h' = h :=
  SCalls.closed (K := fun v => v = .bool true) (of_decide_eq_true (by kernel_rfl)) (closedK_bool sb.fol pk.nat5_ok awake_eval) (by rintro v rfl; exact ⟨_, rfl⟩)

def nat6 : FuncId → List Value → Hp → Option (Option Value) := fun f args h =>
  match Nat.beq f 7 with
  | true => match args with
    | [] => some (some (.bool true))
    | _ => some none
  | false => pk.nat5 f args h
theorem nat6_ok : NatOk Tryz.prog nat6 := by
  intro f args h v hn
  unfold nat6 at hn
  split at hn
  · rename_i hf
    have hf := Nat.eq_of_beq_eq_true hf
    subst hf
    split at hn
    · simp only [Option.some.injEq] at hn
      subst hn
      exact awake_ok h
    · simp at hn
  · exact pk.nat5_ok f args h v hn

theorem evald : xK Tryz.prog 30000 nat6 100 3 [] Hp.empty (fun v _ => match v with | .bool b => b | _ => false) = true := by kernel_rfl
end Go.Proofs.YtlodmlmlmkcpkaaGreatDoor.followNil
