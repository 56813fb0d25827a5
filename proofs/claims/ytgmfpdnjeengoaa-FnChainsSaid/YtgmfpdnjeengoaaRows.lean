/-
  No cell of these rows narrows 'for every input' (looked for: loops, veiled, ifaces, maps, wideKeys, modest, calm, conditions, laid).
  DERIVED. THE GIVEN ROWS OF THIS SEAT. 9 by the template 'for every input the law returns true; each argument reads behind the call as it read before'; 0 by the template 'total and deterministic' (their statements: YtgmfpdnjeengoaaTotals.lean).
  GIVEN WITH THE SEED: the statements are not yours to turn. If you find one false, say at which input.
  Laid BY PROGRAM, IN A SANDBOX (cutbox-rows.mjs): the forced cells as the released guide's own fill.sh prints them over the translation 18a89ca6b7299047… (all of the seat's roots in one cut). By AI agents, Wed Nov 11 2026. No macro, syntax, notation, axiom, sorry.
-/
import Derived.Test.YtgmfpdnjeengoaaChecked
import GoSem.Claim
import GoSem.ClaimJoined
import GoSem.ClaimMapViews
import Derived.JoinedTies
import Derived.KernelRfl
namespace Go.Proofs.Ytgmfpdnjeengoaa
/- THE CELL 'sum', in the pinned program and in every row, IS THE sha256 OF THE DUMP (.gsa) THAT YtgmfpdnjeengoaaProg.lean LOADS. Nothing in Lean hashes anything: it is a label: what it is worth is what the hold of that sum in a sandbox is worth. -/
noncomputable def Try.pinned : Pinned := { name := "ytgmfpdnjeengoaa", sum := "18a89ca6b72990477f87d1de7a7dabad9c2d7bf3618b8e7cb0cb00433579034d", checked := Try.checked }
namespace Rows
def none {H : Type} : Left H := { results := [], args := [] }

/-- 'laws.FnExactChainOk': WHATEVER THE INPUT: true; the input reads as it did. -/
def fnExactChainOkSpec : ChangeSpec := { name := "fnExactChainOk", fn := fun _ => fun
  | [d] => { results := [.lit (.bool true)], args := [d] }
  | _ => none }
def fnExactChainOkRow : OpenClaim := { program := "ytgmfpdnjeengoaa", sum := "18a89ca6b72990477f87d1de7a7dabad9c2d7bf3618b8e7cb0cb00433579034d", func := "loop.example/g00992/laws.FnExactChainOk", spec := "fnExactChainOk", apart := false }
def FnExactChainOkSaid : Prop := fnExactChainOkRow.holds Try.pinned (OpenSpec.ofChange fnExactChainOkSpec)

/-- ITS FALSE NEIGHBOUR: 'it returns false'. Refute it at one input. -/
def fnExactChainOkWrong : ChangeSpec := { name := "fnExactChainOk", fn := fun _ => fun
  | [d] => { results := [.lit (.bool false)], args := [d] }
  | _ => none }
def FnExactChainOkWrongFalsely : Prop := fnExactChainOkRow.holds Try.pinned (OpenSpec.ofChange fnExactChainOkWrong)

/-- 'laws.FnExactAboveIn': WHATEVER THE INPUT: true; the input reads as it did. -/
def fnExactAboveInSpec : ChangeSpec := { name := "fnExactAboveIn", fn := fun _ => fun
  | [d1, d2] => { results := [.lit (.bool true)], args := [d1, d2] }
  | _ => none }
def fnExactAboveInRow : OpenClaim := { program := "ytgmfpdnjeengoaa", sum := "18a89ca6b72990477f87d1de7a7dabad9c2d7bf3618b8e7cb0cb00433579034d", func := "loop.example/g00992/laws.FnExactAboveIn", spec := "fnExactAboveIn", apart := false }
def FnExactAboveInSaid : Prop := fnExactAboveInRow.holds Try.pinned (OpenSpec.ofChange fnExactAboveInSpec)

/-- ITS FALSE NEIGHBOUR: 'it returns false'. Refute it at one input. -/
def fnExactAboveInWrong : ChangeSpec := { name := "fnExactAboveIn", fn := fun _ => fun
  | [d1, d2] => { results := [.lit (.bool false)], args := [d1, d2] }
  | _ => none }
def FnExactAboveInWrongFalsely : Prop := fnExactAboveInRow.holds Try.pinned (OpenSpec.ofChange fnExactAboveInWrong)

/-- 'laws.FnExactWeightIn': WHATEVER THE INPUT: true; the input reads as it did. -/
def fnExactWeightInSpec : ChangeSpec := { name := "fnExactWeightIn", fn := fun _ => fun
  | [d1, d2] => { results := [.lit (.bool true)], args := [d1, d2] }
  | _ => none }
def fnExactWeightInRow : OpenClaim := { program := "ytgmfpdnjeengoaa", sum := "18a89ca6b72990477f87d1de7a7dabad9c2d7bf3618b8e7cb0cb00433579034d", func := "loop.example/g00992/laws.FnExactWeightIn", spec := "fnExactWeightIn", apart := false }
def FnExactWeightInSaid : Prop := fnExactWeightInRow.holds Try.pinned (OpenSpec.ofChange fnExactWeightInSpec)

/-- ITS FALSE NEIGHBOUR: 'it returns false'. Refute it at one input. -/
def fnExactWeightInWrong : ChangeSpec := { name := "fnExactWeightIn", fn := fun _ => fun
  | [d1, d2] => { results := [.lit (.bool false)], args := [d1, d2] }
  | _ => none }
def FnExactWeightInWrongFalsely : Prop := fnExactWeightInRow.holds Try.pinned (OpenSpec.ofChange fnExactWeightInWrong)

/-- 'laws.FnExactErrorIn': WHATEVER THE INPUT: true; the input reads as it did. -/
def fnExactErrorInSpec : ChangeSpec := { name := "fnExactErrorIn", fn := fun _ => fun
  | [d1, d2] => { results := [.lit (.bool true)], args := [d1, d2] }
  | _ => none }
def fnExactErrorInRow : OpenClaim := { program := "ytgmfpdnjeengoaa", sum := "18a89ca6b72990477f87d1de7a7dabad9c2d7bf3618b8e7cb0cb00433579034d", func := "loop.example/g00992/laws.FnExactErrorIn", spec := "fnExactErrorIn", apart := false }
def FnExactErrorInSaid : Prop := fnExactErrorInRow.holds Try.pinned (OpenSpec.ofChange fnExactErrorInSpec)

/-- ITS FALSE NEIGHBOUR: 'it returns false'. Refute it at one input. -/
def fnExactErrorInWrong : ChangeSpec := { name := "fnExactErrorIn", fn := fun _ => fun
  | [d1, d2] => { results := [.lit (.bool false)], args := [d1, d2] }
  | _ => none }
def FnExactErrorInWrongFalsely : Prop := fnExactErrorInRow.holds Try.pinned (OpenSpec.ofChange fnExactErrorInWrong)

/-- 'laws.FnExactDifferenceError': WHATEVER THE INPUT: true; the input reads as it did. -/
def fnExactDifferenceErrorSpec : ChangeSpec := { name := "fnExactDifferenceError", fn := fun _ => fun
  | [d1, d2, d3] => { results := [.lit (.bool true)], args := [d1, d2, d3] }
  | _ => none }
def fnExactDifferenceErrorRow : OpenClaim := { program := "ytgmfpdnjeengoaa", sum := "18a89ca6b72990477f87d1de7a7dabad9c2d7bf3618b8e7cb0cb00433579034d", func := "loop.example/g00992/laws.FnExactDifferenceError", spec := "fnExactDifferenceError", apart := false }
def FnExactDifferenceErrorSaid : Prop := fnExactDifferenceErrorRow.holds Try.pinned (OpenSpec.ofChange fnExactDifferenceErrorSpec)

/-- ITS FALSE NEIGHBOUR: 'it returns false'. Refute it at one input. -/
def fnExactDifferenceErrorWrong : ChangeSpec := { name := "fnExactDifferenceError", fn := fun _ => fun
  | [d1, d2, d3] => { results := [.lit (.bool false)], args := [d1, d2, d3] }
  | _ => none }
def FnExactDifferenceErrorWrongFalsely : Prop := fnExactDifferenceErrorRow.holds Try.pinned (OpenSpec.ofChange fnExactDifferenceErrorWrong)

/-- 'laws.FnExactDepthIn': WHATEVER THE INPUT: true; the input reads as it did. -/
def fnExactDepthInSpec : ChangeSpec := { name := "fnExactDepthIn", fn := fun _ => fun
  | [d] => { results := [.lit (.bool true)], args := [d] }
  | _ => none }
def fnExactDepthInRow : OpenClaim := { program := "ytgmfpdnjeengoaa", sum := "18a89ca6b72990477f87d1de7a7dabad9c2d7bf3618b8e7cb0cb00433579034d", func := "loop.example/g00992/laws.FnExactDepthIn", spec := "fnExactDepthIn", apart := false }
def FnExactDepthInSaid : Prop := fnExactDepthInRow.holds Try.pinned (OpenSpec.ofChange fnExactDepthInSpec)

/-- ITS FALSE NEIGHBOUR: 'it returns false'. Refute it at one input. -/
def fnExactDepthInWrong : ChangeSpec := { name := "fnExactDepthIn", fn := fun _ => fun
  | [d] => { results := [.lit (.bool false)], args := [d] }
  | _ => none }
def FnExactDepthInWrongFalsely : Prop := fnExactDepthInRow.holds Try.pinned (OpenSpec.ofChange fnExactDepthInWrong)

/-- 'laws.FnChains': WHATEVER THE INPUT: true; the input reads as it did. -/
def fnChainsSpec : ChangeSpec := { name := "fnChains", fn := fun _ => fun
  | [d] => { results := [.lit (.bool true)], args := [d] }
  | _ => none }
def fnChainsRow : OpenClaim := { program := "ytgmfpdnjeengoaa", sum := "18a89ca6b72990477f87d1de7a7dabad9c2d7bf3618b8e7cb0cb00433579034d", func := "loop.example/g00992/laws.FnChains", spec := "fnChains", apart := false }
def FnChainsSaid : Prop := fnChainsRow.holds Try.pinned (OpenSpec.ofChange fnChainsSpec)

/-- ITS FALSE NEIGHBOUR: 'it returns false'. Refute it at one input. -/
def fnChainsWrong : ChangeSpec := { name := "fnChains", fn := fun _ => fun
  | [d] => { results := [.lit (.bool false)], args := [d] }
  | _ => none }
def FnChainsWrongFalsely : Prop := fnChainsRow.holds Try.pinned (OpenSpec.ofChange fnChainsWrong)

/-- 'laws.FnExactVisitsOk': WHATEVER THE INPUT: true; the input reads as it did. -/
def fnExactVisitsOkSpec : ChangeSpec := { name := "fnExactVisitsOk", fn := fun _ => fun
  | [d] => { results := [.lit (.bool true)], args := [d] }
  | _ => none }
def fnExactVisitsOkRow : OpenClaim := { program := "ytgmfpdnjeengoaa", sum := "18a89ca6b72990477f87d1de7a7dabad9c2d7bf3618b8e7cb0cb00433579034d", func := "loop.example/g00992/laws.FnExactVisitsOk", spec := "fnExactVisitsOk", apart := false }
def FnExactVisitsOkSaid : Prop := fnExactVisitsOkRow.holds Try.pinned (OpenSpec.ofChange fnExactVisitsOkSpec)

/-- ITS FALSE NEIGHBOUR: 'it returns false'. Refute it at one input. -/
def fnExactVisitsOkWrong : ChangeSpec := { name := "fnExactVisitsOk", fn := fun _ => fun
  | [d] => { results := [.lit (.bool false)], args := [d] }
  | _ => none }
def FnExactVisitsOkWrongFalsely : Prop := fnExactVisitsOkRow.holds Try.pinned (OpenSpec.ofChange fnExactVisitsOkWrong)

/-- 'laws.FnExactGreatestDelay': WHATEVER THE INPUT: true; the input reads as it did. -/
def fnExactGreatestDelaySpec : ChangeSpec := { name := "fnExactGreatestDelay", fn := fun _ => fun
  | [d1, d2] => { results := [.lit (.bool true)], args := [d1, d2] }
  | _ => none }
def fnExactGreatestDelayRow : OpenClaim := { program := "ytgmfpdnjeengoaa", sum := "18a89ca6b72990477f87d1de7a7dabad9c2d7bf3618b8e7cb0cb00433579034d", func := "loop.example/g00992/laws.FnExactGreatestDelay", spec := "fnExactGreatestDelay", apart := false }
def FnExactGreatestDelaySaid : Prop := fnExactGreatestDelayRow.holds Try.pinned (OpenSpec.ofChange fnExactGreatestDelaySpec)

/-- ITS FALSE NEIGHBOUR: 'it returns false'. Refute it at one input. -/
def fnExactGreatestDelayWrong : ChangeSpec := { name := "fnExactGreatestDelay", fn := fun _ => fun
  | [d1, d2] => { results := [.lit (.bool false)], args := [d1, d2] }
  | _ => none }
def FnExactGreatestDelayWrongFalsely : Prop := fnExactGreatestDelayRow.holds Try.pinned (OpenSpec.ofChange fnExactGreatestDelayWrong)

/- THE SECOND FORM. 'bulk': how many values and letters a reading holds, each counted each time it is reached (what is shared counts as often as it is met; a slice's spare places count too). A statement '..UptoSaid' is the law's where the arguments, and the package variables that the reading takes, are together of bulk at most 1048576: NARROWER than '..Said'. Prove '..Said' where nothing that the law and all that it calls make is longer than what came in: it says more and counts as full. Else prove '..UptoSaid'. A law counts once. -/
mutual
def uptoBulk {H : Type} : DataW H → Nat
  | .lit (.string bytes) => bytes.length + 1
  | .lit _ => 1
  | .nil => 1
  | .ptr d => uptoBulk d + 1
  | .slice elems spare => uptoBulkAll elems + uptoBulkAll spare + 1
  | .agg parts => uptoBulkAll parts + 1
  | .iface _ d => uptoBulk d + 1
  | .map entries => uptoBulkEntries entries + 1
  | .held _ => 1
def uptoBulkAll {H : Type} : List (DataW H) → Nat
  | [] => 0
  | d :: r => uptoBulk d + uptoBulkAll r
def uptoBulkEntries {H : Type} : List (Lit × DataW H) → Nat
  | [] => 0
  | x :: r => uptoBulkEntry x + uptoBulkEntries r
def uptoBulkEntry {H : Type} : Lit × DataW H → Nat
  | (.string bytes, d) => bytes.length + uptoBulk d + 1
  | (_, d) => uptoBulk d + 1
 end
def uptoSmall : (H : Type) → List (DataW H) → Bool := fun _ ds => decide (uptoBulkAll ds ≤ 1048576)
def OpenSpec.upto (s : _root_.Go.ChangeSpec) : _root_.Go.OpenSpec := { _root_.Go.OpenSpec.ofChange s with cond := some uptoSmall }

/-- 'laws.FnExactChainOk', WHERE WHAT IT READS IS OF BULK AT MOST 1048576: true; the input reads as it did. -/
def fnExactChainOkUptoRow : OpenClaim := { program := "ytgmfpdnjeengoaa", sum := "18a89ca6b72990477f87d1de7a7dabad9c2d7bf3618b8e7cb0cb00433579034d", func := "loop.example/g00992/laws.FnExactChainOk", spec := "fnExactChainOk", apart := false, narrowed := true }
def FnExactChainOkUptoSaid : Prop := fnExactChainOkUptoRow.holds Try.pinned (OpenSpec.upto fnExactChainOkSpec)

/-- 'laws.FnExactAboveIn', WHERE WHAT IT READS IS OF BULK AT MOST 1048576: true; the input reads as it did. -/
def fnExactAboveInUptoRow : OpenClaim := { program := "ytgmfpdnjeengoaa", sum := "18a89ca6b72990477f87d1de7a7dabad9c2d7bf3618b8e7cb0cb00433579034d", func := "loop.example/g00992/laws.FnExactAboveIn", spec := "fnExactAboveIn", apart := false, narrowed := true }
def FnExactAboveInUptoSaid : Prop := fnExactAboveInUptoRow.holds Try.pinned (OpenSpec.upto fnExactAboveInSpec)

/-- 'laws.FnExactWeightIn', WHERE WHAT IT READS IS OF BULK AT MOST 1048576: true; the input reads as it did. -/
def fnExactWeightInUptoRow : OpenClaim := { program := "ytgmfpdnjeengoaa", sum := "18a89ca6b72990477f87d1de7a7dabad9c2d7bf3618b8e7cb0cb00433579034d", func := "loop.example/g00992/laws.FnExactWeightIn", spec := "fnExactWeightIn", apart := false, narrowed := true }
def FnExactWeightInUptoSaid : Prop := fnExactWeightInUptoRow.holds Try.pinned (OpenSpec.upto fnExactWeightInSpec)

/-- 'laws.FnExactErrorIn', WHERE WHAT IT READS IS OF BULK AT MOST 1048576: true; the input reads as it did. -/
def fnExactErrorInUptoRow : OpenClaim := { program := "ytgmfpdnjeengoaa", sum := "18a89ca6b72990477f87d1de7a7dabad9c2d7bf3618b8e7cb0cb00433579034d", func := "loop.example/g00992/laws.FnExactErrorIn", spec := "fnExactErrorIn", apart := false, narrowed := true }
def FnExactErrorInUptoSaid : Prop := fnExactErrorInUptoRow.holds Try.pinned (OpenSpec.upto fnExactErrorInSpec)

/-- 'laws.FnExactDifferenceError', WHERE WHAT IT READS IS OF BULK AT MOST 1048576: true; the input reads as it did. -/
def fnExactDifferenceErrorUptoRow : OpenClaim := { program := "ytgmfpdnjeengoaa", sum := "18a89ca6b72990477f87d1de7a7dabad9c2d7bf3618b8e7cb0cb00433579034d", func := "loop.example/g00992/laws.FnExactDifferenceError", spec := "fnExactDifferenceError", apart := false, narrowed := true }
def FnExactDifferenceErrorUptoSaid : Prop := fnExactDifferenceErrorUptoRow.holds Try.pinned (OpenSpec.upto fnExactDifferenceErrorSpec)

/-- 'laws.FnExactDepthIn', WHERE WHAT IT READS IS OF BULK AT MOST 1048576: true; the input reads as it did. -/
def fnExactDepthInUptoRow : OpenClaim := { program := "ytgmfpdnjeengoaa", sum := "18a89ca6b72990477f87d1de7a7dabad9c2d7bf3618b8e7cb0cb00433579034d", func := "loop.example/g00992/laws.FnExactDepthIn", spec := "fnExactDepthIn", apart := false, narrowed := true }
def FnExactDepthInUptoSaid : Prop := fnExactDepthInUptoRow.holds Try.pinned (OpenSpec.upto fnExactDepthInSpec)

/-- 'laws.FnChains', WHERE WHAT IT READS IS OF BULK AT MOST 1048576: true; the input reads as it did. -/
def fnChainsUptoRow : OpenClaim := { program := "ytgmfpdnjeengoaa", sum := "18a89ca6b72990477f87d1de7a7dabad9c2d7bf3618b8e7cb0cb00433579034d", func := "loop.example/g00992/laws.FnChains", spec := "fnChains", apart := false, narrowed := true }
def FnChainsUptoSaid : Prop := fnChainsUptoRow.holds Try.pinned (OpenSpec.upto fnChainsSpec)

/-- 'laws.FnExactVisitsOk', WHERE WHAT IT READS IS OF BULK AT MOST 1048576: true; the input reads as it did. -/
def fnExactVisitsOkUptoRow : OpenClaim := { program := "ytgmfpdnjeengoaa", sum := "18a89ca6b72990477f87d1de7a7dabad9c2d7bf3618b8e7cb0cb00433579034d", func := "loop.example/g00992/laws.FnExactVisitsOk", spec := "fnExactVisitsOk", apart := false, narrowed := true }
def FnExactVisitsOkUptoSaid : Prop := fnExactVisitsOkUptoRow.holds Try.pinned (OpenSpec.upto fnExactVisitsOkSpec)

/-- 'laws.FnExactGreatestDelay', WHERE WHAT IT READS IS OF BULK AT MOST 1048576: true; the input reads as it did. -/
def fnExactGreatestDelayUptoRow : OpenClaim := { program := "ytgmfpdnjeengoaa", sum := "18a89ca6b72990477f87d1de7a7dabad9c2d7bf3618b8e7cb0cb00433579034d", func := "loop.example/g00992/laws.FnExactGreatestDelay", spec := "fnExactGreatestDelay", apart := false, narrowed := true }
def FnExactGreatestDelayUptoSaid : Prop := fnExactGreatestDelayUptoRow.holds Try.pinned (OpenSpec.upto fnExactGreatestDelaySpec)

end Rows
end Go.Proofs.Ytgmfpdnjeengoaa
