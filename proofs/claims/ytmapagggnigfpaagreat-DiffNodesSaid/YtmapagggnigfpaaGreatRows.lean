/-
  No cell of these rows narrows 'for every input' (looked for: loops, veiled, ifaces, maps, wideKeys, modest, calm, conditions, laid).
  DERIVED. THE GIVEN ROWS OF THIS SEAT. 3 by the template 'for every input the law returns true; each argument reads behind the call as it read before'; 0 by the template 'total and deterministic' (their statements: YtmapagggnigfpaaGreatTotals.lean).
  GIVEN WITH THE SEED: the statements are not yours to turn. If you find one false, say at which input.
  Laid BY PROGRAM, IN A SANDBOX (cutbox-rows.mjs): the forced cells as the released guide's own fill.sh prints them over the translation 9e282f9e8fc99cd8… (all of the seat's roots in one cut). By AI agents, Wed Nov 11 2026. No macro, syntax, notation, axiom, sorry.
-/
import Derived.Test.YtmapagggnigfpaaGreatChecked
import GoSem.Claim
import GoSem.ClaimJoined
import GoSem.ClaimMapViews
import Derived.JoinedTies
import Derived.KernelRfl
namespace Go.Proofs.YtmapagggnigfpaaGreat
/- THE CELL 'sum', in the pinned program and in every row, IS THE sha256 OF THE DUMP (.gsa) THAT YtmapagggnigfpaaGreatProg.lean LOADS. Nothing in Lean hashes anything: it is a label: what it is worth is what the hold of that sum in a sandbox is worth. -/
noncomputable def Tryz.pinned : Pinned := { name := "ytmapagggnigfpaagreat", sum := "9e282f9e8fc99cd80858e70d09cbb30d336d7107229c5df34e762daf3ea359bb", checked := Tryz.checked }
namespace Rows
def none {H : Type} : Left H := { results := [], args := [] }

/-- 'heartwoodlaw23.DiffNodes': WHATEVER THE INPUT: true; the input reads as it did. -/
def diffNodesSpec : ChangeSpec := { name := "diffNodes", fn := fun _ => fun
  | [d1, d2] => { results := [.lit (.bool true)], args := [d1, d2] }
  | _ => none }
def diffNodesRow : OpenClaim := { program := "ytmapagggnigfpaagreat", sum := "9e282f9e8fc99cd80858e70d09cbb30d336d7107229c5df34e762daf3ea359bb", func := "heartwood/heartwoodlaw23.DiffNodes", spec := "diffNodes", unfollowed := true, recurses := true, plainKeys := false, apart := false }
def DiffNodesSaid : Prop := diffNodesRow.holds Tryz.pinned (OpenSpec.ofChange diffNodesSpec)

/-- ITS FALSE NEIGHBOUR: 'it returns false'. Refute it at one input. -/
def diffNodesWrong : ChangeSpec := { name := "diffNodes", fn := fun _ => fun
  | [d1, d2] => { results := [.lit (.bool false)], args := [d1, d2] }
  | _ => none }
def DiffNodesWrongFalsely : Prop := diffNodesRow.holds Tryz.pinned (OpenSpec.ofChange diffNodesWrong)

/-- 'heartwoodlaw23.DiffChains': WHATEVER THE INPUT: true; the input reads as it did. -/
def diffChainsSpec : ChangeSpec := { name := "diffChains", fn := fun _ => fun
  | [d1, d2, d3] => { results := [.lit (.bool true)], args := [d1, d2, d3] }
  | _ => none }
def diffChainsRow : OpenClaim := { program := "ytmapagggnigfpaagreat", sum := "9e282f9e8fc99cd80858e70d09cbb30d336d7107229c5df34e762daf3ea359bb", func := "heartwood/heartwoodlaw23.DiffChains", spec := "diffChains", unfollowed := true, recurses := true, plainKeys := false, apart := false }
def DiffChainsSaid : Prop := diffChainsRow.holds Tryz.pinned (OpenSpec.ofChange diffChainsSpec)

/-- ITS FALSE NEIGHBOUR: 'it returns false'. Refute it at one input. -/
def diffChainsWrong : ChangeSpec := { name := "diffChains", fn := fun _ => fun
  | [d1, d2, d3] => { results := [.lit (.bool false)], args := [d1, d2, d3] }
  | _ => none }
def DiffChainsWrongFalsely : Prop := diffChainsRow.holds Tryz.pinned (OpenSpec.ofChange diffChainsWrong)

/-- 'heartwoodlaw23.DiffLeads': WHATEVER THE INPUT: true; the input reads as it did. -/
def diffLeadsSpec : ChangeSpec := { name := "diffLeads", fn := fun _ => fun
  | [d1, d2] => { results := [.lit (.bool true)], args := [d1, d2] }
  | _ => none }
def diffLeadsRow : OpenClaim := { program := "ytmapagggnigfpaagreat", sum := "9e282f9e8fc99cd80858e70d09cbb30d336d7107229c5df34e762daf3ea359bb", func := "heartwood/heartwoodlaw23.DiffLeads", spec := "diffLeads", unfollowed := true, recurses := true, plainKeys := false, apart := false }
def DiffLeadsSaid : Prop := diffLeadsRow.holds Tryz.pinned (OpenSpec.ofChange diffLeadsSpec)

/-- ITS FALSE NEIGHBOUR: 'it returns false'. Refute it at one input. -/
def diffLeadsWrong : ChangeSpec := { name := "diffLeads", fn := fun _ => fun
  | [d1, d2] => { results := [.lit (.bool false)], args := [d1, d2] }
  | _ => none }
def DiffLeadsWrongFalsely : Prop := diffLeadsRow.holds Tryz.pinned (OpenSpec.ofChange diffLeadsWrong)

/- THE SECOND FORM. 'bulk': how many values and letters a reading holds, each counted each time it is reached (what is shared counts as often as it is met; a slice's spare places count too). A statement '..UptoSaid' is the law's where the arguments, and the package variables that the reading takes, are together of bulk at most 1048576: NARROWER than '..Said'. Prove '..Said' where nothing that the law and all that it calls make is longer than what came in: it says more and counts as full. Else prove '..UptoSaid'. A law counts once. -/
mutual
def uptoBulk {H : Type} : DataW H → Nat
  | .lit (.string bytes) => bytes.length + 1
  | .lit _ => 1
  | .nil => 1
  | .ptr d => uptoBulk d + 1
  | .slice elems spare => uptoBulkAll elems + uptoBulkAll spare + 1
  | .agg parts => uptoBulkAll parts + 1
  | .iface _ d => uptoBulk d + 1
  | .map entries => uptoBulkEntries entries + 1
  | .held _ => 1
def uptoBulkAll {H : Type} : List (DataW H) → Nat
  | [] => 0
  | d :: r => uptoBulk d + uptoBulkAll r
def uptoBulkEntries {H : Type} : List (Lit × DataW H) → Nat
  | [] => 0
  | x :: r => uptoBulkEntry x + uptoBulkEntries r
def uptoBulkEntry {H : Type} : Lit × DataW H → Nat
  | (.string bytes, d) => bytes.length + uptoBulk d + 1
  | (_, d) => uptoBulk d + 1
 end
def uptoSmall : (H : Type) → List (DataW H) → Bool := fun _ ds => decide (uptoBulkAll ds ≤ 1048576)
def OpenSpec.upto (s : _root_.Go.ChangeSpec) : _root_.Go.OpenSpec := { _root_.Go.OpenSpec.ofChange s with cond := some uptoSmall }

/-- 'heartwoodlaw23.DiffNodes', WHERE WHAT IT READS IS OF BULK AT MOST 1048576: true; the input reads as it did. -/
def diffNodesUptoRow : OpenClaim := { program := "ytmapagggnigfpaagreat", sum := "9e282f9e8fc99cd80858e70d09cbb30d336d7107229c5df34e762daf3ea359bb", func := "heartwood/heartwoodlaw23.DiffNodes", spec := "diffNodes", unfollowed := true, recurses := true, plainKeys := false, apart := false, narrowed := true }
def DiffNodesUptoSaid : Prop := diffNodesUptoRow.holds Tryz.pinned (OpenSpec.upto diffNodesSpec)

/-- 'heartwoodlaw23.DiffChains', WHERE WHAT IT READS IS OF BULK AT MOST 1048576: true; the input reads as it did. -/
def diffChainsUptoRow : OpenClaim := { program := "ytmapagggnigfpaagreat", sum := "9e282f9e8fc99cd80858e70d09cbb30d336d7107229c5df34e762daf3ea359bb", func := "heartwood/heartwoodlaw23.DiffChains", spec := "diffChains", unfollowed := true, recurses := true, plainKeys := false, apart := false, narrowed := true }
def DiffChainsUptoSaid : Prop := diffChainsUptoRow.holds Tryz.pinned (OpenSpec.upto diffChainsSpec)

/-- 'heartwoodlaw23.DiffLeads', WHERE WHAT IT READS IS OF BULK AT MOST 1048576: true; the input reads as it did. -/
def diffLeadsUptoRow : OpenClaim := { program := "ytmapagggnigfpaagreat", sum := "9e282f9e8fc99cd80858e70d09cbb30d336d7107229c5df34e762daf3ea359bb", func := "heartwood/heartwoodlaw23.DiffLeads", spec := "diffLeads", unfollowed := true, recurses := true, plainKeys := false, apart := false, narrowed := true }
def DiffLeadsUptoSaid : Prop := diffLeadsUptoRow.holds Tryz.pinned (OpenSpec.upto diffLeadsSpec)

end Rows
end Go.Proofs.YtmapagggnigfpaaGreat
