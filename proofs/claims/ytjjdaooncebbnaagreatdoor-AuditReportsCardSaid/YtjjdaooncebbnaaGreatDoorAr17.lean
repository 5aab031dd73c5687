/- Joined: AuditReportsJ. -/
import Derived.Test.YtjjdaooncebbnaaGreatDoorAr16
import Derived.Test.YtjjdaooncebbnaaGreatDoorRows
import Derived.Test.YtjjdaooncebbnaaGreatDoorTie
import Derived.Test.YtjjdaooncebbnaaGreatDoorCards
import Derived.LaidMore
import Derived.Lay
import Derived.SevenTiedAt
import Derived.Stop.Joined
import Derived.WalkKit
import Derived.ProofKit
import Derived.OpenShut
/- 'AuditReports': the closed facts of its row. It answers true of all inputs, and leaves them as they were. No condition. The other texts prove that the model's run comes to what a canonical semantics of the core code says. -/
namespace Go.Proofs.YtjjdaooncebbnaaGreatDoor.auditReports
open Go.ChangeShapes Go.WideShapes Go.ChangeAt Go.RowKit Go.Cn
set_option linter.unusedVariables false

theorem own : ownKnob Tryz.prog.godebug = none := by kernel_rfl
theorem simple : Tryz.f3.params.toList.all (simpleT Tryz.prog 10) = true := by kernel_rfl
theorem bytes : Tryz.f3.params.toList.all (bytesT Tryz.prog 10) = true := by kernel_rfl
theorem novars : Rows.auditReportsSpec.vars = [] := rfl

set_option maxRecDepth 100000 in
theorem lifted (os : Os) (started : os.Started) (H : Type) (enc : TypeId × Value → H) :
    ReturnsInHanded {} Tryz.checked os 3 .any (fun w args => (Rows.auditReportsSpec.pre enc Tryz.prog Tryz.f3 Rows.auditReportsRow.domain false w args ∧ laidMetH Tryz.prog Rows.auditReportsRow.laid w) ∧ sizedMet enc Tryz.prog Tryz.f3 (OpenSpec.ofChange Rows.auditReportsSpec) false w args)
      (Rows.auditReportsSpec.post enc Tryz.prog Tryz.f3 false true false false) := by
  refine returnsInHanded_of_change_and (C := Tryz.checked) (X := fun w _ => laidMetH Tryz.prog Rows.auditReportsRow.laid w) (fun _ _ _ hh h => h.of_heap hh) own started (by kernel_rfl) Tryz.func3
    (ChangeSpec.witness_shaped (enc := enc) (C := Tryz.checked) (os := os) (X := fun w _ => laidMetH Tryz.prog Rows.auditReportsRow.laid w) false (World.laidAll Tryz.prog os Rows.auditReportsRow.laid) #[.agg #[.int .i64 0, .int .i64 0], .agg (Array.mk ([.int .u64 0, .int .u32 0] ++ dgV .u8 32 (fun _ => 0) ++ [.int .u64 0, .int .u64 0, .int .u32 0, .int .u32 0, .int .i64 0, .int .i64 0, .int .u64 0, .slice none 0 0, .slice none 0 0, .slice none 0 0, .slice none 0 0, .slice none 0 0, .slice none 0 0, .slice none 0 0]))] 8 (World.laidAll_os _ _ _)
      (World.shaped_of_ZipB (by kernel_rfl) (by kernel_rfl)) (by kernel_rfl) (by kernel_rfl) (by kernel_rfl)
      (by rw [MakeChecks.laidMetH_plain _ _ _ (by kernel_rfl)]; exact laidMet_laidAll _ (by kernel_rfl) (by kernel_rfl))) ?_
  intro W base args ds gs before hval hW _ hwt _ _
  have hwt : (DataW.weightsEach Tryz.prog (Tryz.f3.params.toList ++ Rows.auditReportsSpec.plain.varTypes Tryz.prog) (ds ++ gs)).all (· ≤ reachBytes) = true := hwt
  refine law_contractT (of_decide_eq_true (by kernel_rfl)) reachBytes 10 (Reach.meas Tryz.prog reachBytes) (tb := 4) (fun t ht => List.all_eq_true.mp simple t ht) novars ?_ (by kernel_rfl) Tryz.underlying4 (fun h vs wf hg => sb.main_AuditReports reachBytes (by decide) h vs wf hg) hval hW ?_
  · intro ds hl
    rw [Tryz.params3] at hl
    match ds, hl with
    | [d0, d1], _ => exact ⟨rfl, rfl, rfl⟩
  · intro j t d ht hd
    refine ⟨⟨10, List.all_eq_true.mp bytes t (List.mem_of_getElem? ht)⟩, fun x hx => ?_⟩
    have h1 : (Tryz.f3.params.toList ++ Rows.auditReportsSpec.plain.varTypes Tryz.prog)[j]? = some t := by rw [List.getElem?_append_left (List.getElem?_eq_some_iff.1 ht).1]; exact ht
    have h2 : (ds ++ gs)[j]? = some d := by rw [List.getElem?_append_left (List.getElem?_eq_some_iff.1 hd).1]; exact hd
    exact of_decide_eq_true (List.all_eq_true.mp hwt x (weightsEach_mem Tryz.prog h1 h2 hx))

/-! The row's closed facts, one by one. -/
theorem j1 : (Rows.auditReportsRow.wf (OpenSpec.ofChange Rows.auditReportsSpec)) = true := by kernel_rfl
theorem j2 : (laidOutB Tryz.prog) = true := by kernel_rfl
theorem j3 : (mapsRowed Tryz.prog) = true := by kernel_rfl
theorem j4 : (Tryz.f3.params.all (Tryz.prog.readableRec ·)) = true := by kernel_rfl
theorem j5 : (namedTie Tryz.prog Rows.auditReportsRow.named Rows.auditReportsSpec.vars) = true := by kernel_rfl
theorem j6 : (Rows.auditReportsRow.stops == []) = true := by kernel_rfl
theorem j7 : (Tryz.prog.stops == []) = true := by kernel_rfl
theorem j8 : (Rows.auditReportsRow.knobs == []) = true := by kernel_rfl
theorem j9 : (Tryz.prog.stopKnobs == []) = true := by kernel_rfl
theorem j10 : (Rows.auditReportsRow.inPlace == Tryz.prog.inPlace 3) = true := by kernel_rfl
theorem j11 : (Rows.auditReportsRow.unfollowed == Tryz.prog.unfollowed 3) = true := by kernel_rfl
theorem j12 : (Rows.auditReportsRow.recurses == Tryz.prog.recurses 3) = true := by kernel_rfl
theorem j13 : (Rows.auditReportsRow.named == Tryz.prog.varsNamed 3) = true := by kernel_rfl
theorem j14 : (Rows.auditReportsRow.maps == (Tryz.f3.params.toList ++ Rows.auditReportsSpec.plain.varTypes Tryz.prog).any (Tryz.prog.mapsRec ·)) = true := by kernel_rfl
theorem j15 : (Rows.auditReportsRow.ifaces == (Tryz.f3.params.toList ++ Rows.auditReportsSpec.plain.varTypes Tryz.prog).any (Tryz.prog.ifacesRec ·)) = true := by kernel_rfl
theorem j16 : (Rows.auditReportsRow.mapsOut == Tryz.prog.mapsAmong Tryz.f3.resultTypes.toList) = true := by kernel_rfl
theorem j17 : (Rows.auditReportsRow.loops == (Tryz.f3.params.toList ++ Rows.auditReportsSpec.plain.varTypes Tryz.prog).any (Tryz.prog.loopsFrom ·)) = true := by kernel_rfl
theorem j18 : (Rows.auditReportsRow.wideKeys == (Tryz.f3.params.toList ++ Rows.auditReportsSpec.plain.varTypes Tryz.prog ++ Tryz.f3.resultTypes.toList).any (Tryz.prog.wideKeysFrom ·)) = true := by kernel_rfl
theorem j19 : (Rows.auditReportsSpec.vars.all (Tryz.prog.varReadable ·)) = true := by kernel_rfl
theorem j20 : (Tryz.f3.resultTypes.all (fun t => Tryz.prog.readableRec t && decide (t < Tryz.prog.types.size))) = true := by kernel_rfl
theorem j21 : (Rows.auditReportsRow.ifacesOut == Tryz.f3.resultTypes.toList.any (Tryz.prog.ifacesRec ·)) = true := by kernel_rfl
theorem j22 : (Rows.auditReportsRow.loopsOut == Tryz.f3.resultTypes.toList.any (Tryz.prog.loopsFrom ·)) = true := by kernel_rfl
theorem j23 : (Rows.auditReportsRow.plainKeys == Tryz.prog.plainKeys) = true := by kernel_rfl
theorem j24 : (Rows.auditReportsRow.shortTexts.isNone) = true := by kernel_rfl
theorem j25 : (Tryz.prog.stopsHeard) = true := by kernel_rfl
theorem j26 : (Tryz.prog.mayEnter) = true := by kernel_rfl
theorem j27 : (Rows.auditReportsRow.lifted == Tryz.prog.liftsFinal) = true := by kernel_rfl
theorem j28 : (Tryz.prog.make == some Rows.auditReportsRow.make) = true := by kernel_rfl
theorem j29 : (Rows.auditReportsRow.kinds == (if Rows.auditReportsRow.domain.isEmpty then [] else Tryz.f3.params.toList.map fun t => match Tryz.prog.underlying t with | some (.int k) => some k | _ => none)) = true := by kernel_rfl
theorem j30 : (Rows.auditReportsRow.pinned == Rows.auditReportsRow.pinnedBy) = true := by kernel_rfl
theorem j31 : (Rows.auditReportsRow.veiled == (Tryz.f3.params.toList ++ Rows.auditReportsSpec.plain.varTypes Tryz.prog ++ Tryz.f3.resultTypes.toList).any (Tryz.prog.veiledRec ·)) = true := by kernel_rfl
theorem j32 : (Rows.auditReportsRow.veiledFits Tryz.prog Tryz.f3.params.toList (Tryz.f3.params.toList ++ Rows.auditReportsSpec.plain.varTypes Tryz.prog ++ Tryz.f3.resultTypes.toList)) = true := by kernel_rfl
theorem andI {a b : Bool} (ha : a = true) (hb : b = true) : (a && b) = true := by rw [ha, hb]; rfl
set_option maxRecDepth 100000 in
theorem closed : joinedFacts Tryz.prog 3 Tryz.f3 Rows.auditReportsSpec Rows.auditReportsRow = true := by
  unfold joinedFacts
  exact (andI (andI (andI (andI (andI (andI (andI (andI (andI (andI (andI (andI (andI (andI (andI (andI (andI (andI (andI (andI (andI (andI (andI (andI (andI (andI (andI (andI (andI (andI (andI j1 j2) j3) j4) j5) j6) j7) j8) j9) j10) j11) j12) j13) j14) j15) j16) j17) j18) j19) j20) j21) j22) j23) j24) j25) j26) j27) j28) j29) j30) j31) j32)
theorem wrapper : Tryz.f3.isWrapper Tryz.prog Rows.auditReportsRow.wrapper Rows.auditReportsRow.mainSum := by
  unfold Func.isWrapper; first | (rw [if_pos (by decide +kernel)]; kernel_rfl) | (rw [if_neg (by decide +kernel)]; exact ⟨rfl, rfl⟩)
theorem named : Tryz.prog.funcNamed Rows.auditReportsRow.func = some 3 := by kernel_rfl
theorem noStand : Tryz.f3.params.toList.all (fun t => !Tryz.prog.wantsStandIn t) = true := by kernel_rfl

theorem p1 : Rows.auditReportsRow.wfByText (OpenSpec.ofChange Rows.auditReportsSpec) = true := by kernel_rfl
theorem p2 : Tryz.pinned.checked.prog.mainIs = some (true, "2f891e697743a20b81d2181a929bc1d0f03b739a8a86c9ffd2c686be9cd4a165".toList) := by kernel_rfl
theorem p3 : Tryz.prog.funcNamed "heartwood/heartwoodlaw18.AuditReports" = some 3 := by kernel_rfl
theorem p5 : false = Rows.auditReportsRow.goesBy Tryz.pinned.checked.prog := by kernel_rfl

end Go.Proofs.YtjjdaooncebbnaaGreatDoor.auditReports
