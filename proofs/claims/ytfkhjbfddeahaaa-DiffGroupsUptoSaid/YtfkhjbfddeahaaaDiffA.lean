/- 'awake' of the law answers true: evaluated in the canonical semantics. -/
import Derived.Test.YtfkhjbfddeahaaaCoD
import Derived.Test.YtfkhjbfddeahaaaProg
import Derived.KernelRfl
namespace Go.Proofs.Ytfkhjbfddeahaaa.dc
open Go Go.Cn Go.Proofs
theorem fol : Try.prog.follows .mixedOrders = true := by kernel_rfl
theorem ann14 : xF Try.prog (alB 3000) (fun _ _ => List.range 120) 60 14 [] Hp.empty (fun v _ => match v with | .bool b => b | _ => false) = true := by kernel_rfl
theorem c14 (h : Hp) : SCalls Try.prog 14 [] h fun v h' => v = .bool true ∧ h' = h := closed_bool fol ann14 h

end Go.Proofs.Ytfkhjbfddeahaaa.dc
