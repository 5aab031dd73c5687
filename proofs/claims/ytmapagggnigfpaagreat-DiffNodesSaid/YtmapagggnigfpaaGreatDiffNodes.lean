/- 'DiffNodes' answers true of all inputs, and leaves them as they were. No condition. The other texts prove that the model's run comes to what a canonical semantics of the core code says. -/
import Derived.Test.YtmapagggnigfpaaGreatDn19
import Derived.Test.YtmapagggnigfpaaGreatRows
import Derived.SizedLaws
import Derived.WalkKit
import Derived.ProofKit
import Derived.OpenShut
namespace Go.Proofs.YtmapagggnigfpaaGreat.diffNodes
open Go.ChangeShapes Go.WideShapes Go.ChangeAt Go.RowKit Go.Cn
set_option linter.unusedVariables false
theorem own:ownKnob Tryz.prog.godebug=none:=by kernel_rfl
theorem simple:Tryz.f3.params.toList.all (fT Tryz.prog 10)=true:=by kernel_rfl
theorem bytes:Tryz.f3.params.toList.all (mK Tryz.prog 10)=true:=by kernel_rfl
set_option maxRecDepth 100000 in
theorem lifted(os:Os)(E:os.Started)(H:Type)(enc:TI×Value->H):
  ReturnsInHanded {} Tryz.checked os 3 .any (Rows.diffNodesSpec.pre6 enc Tryz.prog Tryz.f3 Rows.diffNodesRow.domain false) (Rows.diffNodesSpec.post enc Tryz.prog Tryz.f3 false true false false):=by
 refine returnsInHanded_of_change_sized (C:=Tryz.checked) own E (by kernel_rfl) Tryz.func3
  (ChangeSpec.witness6 (enc:=enc) (C:=Tryz.checked) false ⟨#[],#[.agg #[.int .i64 0,.int .i64 0,.slice none 0 0,.int .i64 0,.slice none 0 0,.bool false,.int .i64 0],.agg #[.int .i64 0,.int .i64 0,.slice none 0 0,.int .i64 0,.slice none 0 0,.bool false,.int .i64 0]],[]⟩ 8 (by kernel_rfl) (by kernel_rfl) (by kernel_rfl) (by kernel_rfl)) ?_
 intro W base args V gs before O hW _ G _;have G:(DataW.weightsEach Tryz.prog (Tryz.f3.params.toList++Rows.diffNodesSpec.plain.varTypes Tryz.prog) (V++gs)).all (·<=reachBytes)=true:=G;refine AW (of_decide_eq_true (by kernel_rfl)) reachBytes 10 (Reach.meas Tryz.prog reachBytes) (tb:=4) (fun t U=>VK.mp simple t U) rfl ?_ (by kernel_rfl) Tryz.underlying4 (fun h vs wf hg=>sb.main_DiffNodes reachBytes (by decide) h vs wf hg) O hW ?_
 ·intro V hl;rw[Tryz.params3]at hl
  match V,hl with
  | [d0,d1],_=>exact⟨rfl,rfl,rfl⟩
 ·intro j t d U hd;refine⟨⟨10,VK.mp bytes t (Uy U)⟩,fun x hx=>?_⟩;have h1:(Tryz.f3.params.toList++Rows.diffNodesSpec.plain.varTypes Tryz.prog)[j]? = some t:=by rw[VQ (Us.1 U).1];exact U
  have h2:(V++gs)[j]? = some d:=by rw[VQ (Us.1 hd).1];exact hd
  exact of_decide_eq_true (VK.mp G x (kU Tryz.prog h1 h2 hx))
theorem over:Rows.diffNodesRow.holds Tryz.pinned (OpenSpec.ofChange Rows.diffNodesSpec) :=
 OpenClaim.holds_of_wide 3 Tryz.f3 rfl rfl rfl rfl rfl rfl rfl ⟨rfl,rfl,rfl,rfl,rfl⟩ rfl rfl rfl rfl rfl (by kernel_rfl) Tryz.func3 (by kernel_rfl)
  (of_decide_eq_true (by kernel_rfl)) (by unfold Func.isWrapper;first | (rw[if_pos (by decide +kernel)];kernel_rfl) | (rw[if_neg (by decide +kernel)];exact⟨rfl,rfl⟩))
  (fun os started H enc _=>lifted os started H enc)
theorem proved:Rows.DiffNodesSaid :=
 over
end Go.Proofs.YtmapagggnigfpaaGreat.diffNodes
