/-
  No cell of these rows narrows 'for every input' (looked for: loops, veiled, ifaces, maps, wideKeys, modest, calm, conditions, laid).
  DERIVED. THE GIVEN ROWS OF THIS SEAT. 10 by the template 'for every input the law returns true; each argument reads behind the call as it read before'; 0 by the template 'total and deterministic' (their statements: YtllailjiipkoeaaTotals.lean).
  GIVEN WITH THE SEED: the statements are not yours to turn. If you find one false, say at which input.
  Laid BY PROGRAM, IN A SANDBOX (cutbox-rows.mjs): the forced cells as the released guide's own fill.sh prints them over the translation 7060fbcf038991c6… (all of the seat's roots in one cut). By AI agents, Wed Nov 11 2026. No macro, syntax, notation, axiom, sorry.
-/
import Derived.Test.YtllailjiipkoeaaChecked
import GoSem.Claim
import GoSem.ClaimJoined
import GoSem.ClaimMapViews
import Derived.JoinedTies
import Derived.KernelRfl
namespace Go.Proofs.Ytllailjiipkoeaa
/- THE CELL 'sum', in the pinned program and in every row, IS THE sha256 OF THE DUMP (.gsa) THAT YtllailjiipkoeaaProg.lean LOADS. Nothing in Lean hashes anything: it is a label: what it is worth is what the hold of that sum in a sandbox is worth. -/
noncomputable def Try.pinned : Pinned := { name := "ytllailjiipkoeaa", sum := "7060fbcf038991c66e1a03525a0fd0bf4699f367203e3aea7cdedfde4a4d5498", checked := Try.checked }
namespace Rows
def none {H : Type} : Left H := { results := [], args := [] }

/-- 'laws.FnExactLeastSize': WHATEVER THE INPUT: true; the input reads as it did. -/
def fnExactLeastSizeSpec : ChangeSpec := { name := "fnExactLeastSize", fn := fun _ => fun
  | [d1, d2] => { results := [.lit (.bool true)], args := [d1, d2] }
  | _ => none }
def fnExactLeastSizeRow : OpenClaim := { program := "ytllailjiipkoeaa", sum := "7060fbcf038991c66e1a03525a0fd0bf4699f367203e3aea7cdedfde4a4d5498", func := "loop.example/g00992/laws.FnExactLeastSize", spec := "fnExactLeastSize", apart := false }
def FnExactLeastSizeSaid : Prop := fnExactLeastSizeRow.holds Try.pinned (OpenSpec.ofChange fnExactLeastSizeSpec)

/-- ITS FALSE NEIGHBOUR: 'it returns false'. Refute it at one input. -/
def fnExactLeastSizeWrong : ChangeSpec := { name := "fnExactLeastSize", fn := fun _ => fun
  | [d1, d2] => { results := [.lit (.bool false)], args := [d1, d2] }
  | _ => none }
def FnExactLeastSizeWrongFalsely : Prop := fnExactLeastSizeRow.holds Try.pinned (OpenSpec.ofChange fnExactLeastSizeWrong)

/-- 'laws.FnExactToleranceOf': WHATEVER THE INPUT: true; the input reads as it did. -/
def fnExactToleranceOfSpec : ChangeSpec := { name := "fnExactToleranceOf", fn := fun _ => fun
  | [d1, d2] => { results := [.lit (.bool true)], args := [d1, d2] }
  | _ => none }
def fnExactToleranceOfRow : OpenClaim := { program := "ytllailjiipkoeaa", sum := "7060fbcf038991c66e1a03525a0fd0bf4699f367203e3aea7cdedfde4a4d5498", func := "loop.example/g00992/laws.FnExactToleranceOf", spec := "fnExactToleranceOf", apart := false }
def FnExactToleranceOfSaid : Prop := fnExactToleranceOfRow.holds Try.pinned (OpenSpec.ofChange fnExactToleranceOfSpec)

/-- ITS FALSE NEIGHBOUR: 'it returns false'. Refute it at one input. -/
def fnExactToleranceOfWrong : ChangeSpec := { name := "fnExactToleranceOf", fn := fun _ => fun
  | [d1, d2] => { results := [.lit (.bool false)], args := [d1, d2] }
  | _ => none }
def FnExactToleranceOfWrongFalsely : Prop := fnExactToleranceOfRow.holds Try.pinned (OpenSpec.ofChange fnExactToleranceOfWrong)

/-- 'laws.FnExactFindingOk': WHATEVER THE INPUT: true; the input reads as it did. -/
def fnExactFindingOkSpec : ChangeSpec := { name := "fnExactFindingOk", fn := fun _ => fun
  | [d] => { results := [.lit (.bool true)], args := [d] }
  | _ => none }
def fnExactFindingOkRow : OpenClaim := { program := "ytllailjiipkoeaa", sum := "7060fbcf038991c66e1a03525a0fd0bf4699f367203e3aea7cdedfde4a4d5498", func := "loop.example/g00992/laws.FnExactFindingOk", spec := "fnExactFindingOk", apart := false }
def FnExactFindingOkSaid : Prop := fnExactFindingOkRow.holds Try.pinned (OpenSpec.ofChange fnExactFindingOkSpec)

/-- ITS FALSE NEIGHBOUR: 'it returns false'. Refute it at one input. -/
def fnExactFindingOkWrong : ChangeSpec := { name := "fnExactFindingOk", fn := fun _ => fun
  | [d] => { results := [.lit (.bool false)], args := [d] }
  | _ => none }
def FnExactFindingOkWrongFalsely : Prop := fnExactFindingOkRow.holds Try.pinned (OpenSpec.ofChange fnExactFindingOkWrong)

/-- 'laws.FnExactPlanOk': WHATEVER THE INPUT: true; the input reads as it did. -/
def fnExactPlanOkSpec : ChangeSpec := { name := "fnExactPlanOk", fn := fun _ => fun
  | [d] => { results := [.lit (.bool true)], args := [d] }
  | _ => none }
def fnExactPlanOkRow : OpenClaim := { program := "ytllailjiipkoeaa", sum := "7060fbcf038991c66e1a03525a0fd0bf4699f367203e3aea7cdedfde4a4d5498", func := "loop.example/g00992/laws.FnExactPlanOk", spec := "fnExactPlanOk", apart := false }
def FnExactPlanOkSaid : Prop := fnExactPlanOkRow.holds Try.pinned (OpenSpec.ofChange fnExactPlanOkSpec)

/-- ITS FALSE NEIGHBOUR: 'it returns false'. Refute it at one input. -/
def fnExactPlanOkWrong : ChangeSpec := { name := "fnExactPlanOk", fn := fun _ => fun
  | [d] => { results := [.lit (.bool false)], args := [d] }
  | _ => none }
def FnExactPlanOkWrongFalsely : Prop := fnExactPlanOkRow.holds Try.pinned (OpenSpec.ofChange fnExactPlanOkWrong)

/-- 'laws.FnExactChooseOf': WHATEVER THE INPUT: true; the input reads as it did. -/
def fnExactChooseOfSpec : ChangeSpec := { name := "fnExactChooseOf", fn := fun _ => fun
  | [d1, d2] => { results := [.lit (.bool true)], args := [d1, d2] }
  | _ => none }
def fnExactChooseOfRow : OpenClaim := { program := "ytllailjiipkoeaa", sum := "7060fbcf038991c66e1a03525a0fd0bf4699f367203e3aea7cdedfde4a4d5498", func := "loop.example/g00992/laws.FnExactChooseOf", spec := "fnExactChooseOf", apart := false }
def FnExactChooseOfSaid : Prop := fnExactChooseOfRow.holds Try.pinned (OpenSpec.ofChange fnExactChooseOfSpec)

/-- ITS FALSE NEIGHBOUR: 'it returns false'. Refute it at one input. -/
def fnExactChooseOfWrong : ChangeSpec := { name := "fnExactChooseOf", fn := fun _ => fun
  | [d1, d2] => { results := [.lit (.bool false)], args := [d1, d2] }
  | _ => none }
def FnExactChooseOfWrongFalsely : Prop := fnExactChooseOfRow.holds Try.pinned (OpenSpec.ofChange fnExactChooseOfWrong)

/-- 'laws.FnExactNarrowFinding': WHATEVER THE INPUT: true; the input reads as it did. -/
def fnExactNarrowFindingSpec : ChangeSpec := { name := "fnExactNarrowFinding", fn := fun _ => fun
  | [d1, d2] => { results := [.lit (.bool true)], args := [d1, d2] }
  | _ => none }
def fnExactNarrowFindingRow : OpenClaim := { program := "ytllailjiipkoeaa", sum := "7060fbcf038991c66e1a03525a0fd0bf4699f367203e3aea7cdedfde4a4d5498", func := "loop.example/g00992/laws.FnExactNarrowFinding", spec := "fnExactNarrowFinding", apart := false }
def FnExactNarrowFindingSaid : Prop := fnExactNarrowFindingRow.holds Try.pinned (OpenSpec.ofChange fnExactNarrowFindingSpec)

/-- ITS FALSE NEIGHBOUR: 'it returns false'. Refute it at one input. -/
def fnExactNarrowFindingWrong : ChangeSpec := { name := "fnExactNarrowFinding", fn := fun _ => fun
  | [d1, d2] => { results := [.lit (.bool false)], args := [d1, d2] }
  | _ => none }
def FnExactNarrowFindingWrongFalsely : Prop := fnExactNarrowFindingRow.holds Try.pinned (OpenSpec.ofChange fnExactNarrowFindingWrong)

/-- 'laws.FnExactVerdictOf': WHATEVER THE INPUT: true; the input reads as it did. -/
def fnExactVerdictOfSpec : ChangeSpec := { name := "fnExactVerdictOf", fn := fun _ => fun
  | [d1, d2] => { results := [.lit (.bool true)], args := [d1, d2] }
  | _ => none }
def fnExactVerdictOfRow : OpenClaim := { program := "ytllailjiipkoeaa", sum := "7060fbcf038991c66e1a03525a0fd0bf4699f367203e3aea7cdedfde4a4d5498", func := "loop.example/g00992/laws.FnExactVerdictOf", spec := "fnExactVerdictOf", apart := false }
def FnExactVerdictOfSaid : Prop := fnExactVerdictOfRow.holds Try.pinned (OpenSpec.ofChange fnExactVerdictOfSpec)

/-- ITS FALSE NEIGHBOUR: 'it returns false'. Refute it at one input. -/
def fnExactVerdictOfWrong : ChangeSpec := { name := "fnExactVerdictOf", fn := fun _ => fun
  | [d1, d2] => { results := [.lit (.bool false)], args := [d1, d2] }
  | _ => none }
def FnExactVerdictOfWrongFalsely : Prop := fnExactVerdictOfRow.holds Try.pinned (OpenSpec.ofChange fnExactVerdictOfWrong)

/-- 'laws.FnExactCountAccepting': WHATEVER THE INPUT: true; the input reads as it did. -/
def fnExactCountAcceptingSpec : ChangeSpec := { name := "fnExactCountAccepting", fn := fun _ => fun
  | [d1, d2] => { results := [.lit (.bool true)], args := [d1, d2] }
  | _ => none }
def fnExactCountAcceptingRow : OpenClaim := { program := "ytllailjiipkoeaa", sum := "7060fbcf038991c66e1a03525a0fd0bf4699f367203e3aea7cdedfde4a4d5498", func := "loop.example/g00992/laws.FnExactCountAccepting", spec := "fnExactCountAccepting", apart := false }
def FnExactCountAcceptingSaid : Prop := fnExactCountAcceptingRow.holds Try.pinned (OpenSpec.ofChange fnExactCountAcceptingSpec)

/-- ITS FALSE NEIGHBOUR: 'it returns false'. Refute it at one input. -/
def fnExactCountAcceptingWrong : ChangeSpec := { name := "fnExactCountAccepting", fn := fun _ => fun
  | [d1, d2] => { results := [.lit (.bool false)], args := [d1, d2] }
  | _ => none }
def FnExactCountAcceptingWrongFalsely : Prop := fnExactCountAcceptingRow.holds Try.pinned (OpenSpec.ofChange fnExactCountAcceptingWrong)

/-- 'laws.FnExactBestClass': WHATEVER THE INPUT: true; the input reads as it did. -/
def fnExactBestClassSpec : ChangeSpec := { name := "fnExactBestClass", fn := fun _ => fun
  | [d] => { results := [.lit (.bool true)], args := [d] }
  | _ => none }
def fnExactBestClassRow : OpenClaim := { program := "ytllailjiipkoeaa", sum := "7060fbcf038991c66e1a03525a0fd0bf4699f367203e3aea7cdedfde4a4d5498", func := "loop.example/g00992/laws.FnExactBestClass", spec := "fnExactBestClass", apart := false }
def FnExactBestClassSaid : Prop := fnExactBestClassRow.holds Try.pinned (OpenSpec.ofChange fnExactBestClassSpec)

/-- ITS FALSE NEIGHBOUR: 'it returns false'. Refute it at one input. -/
def fnExactBestClassWrong : ChangeSpec := { name := "fnExactBestClass", fn := fun _ => fun
  | [d] => { results := [.lit (.bool false)], args := [d] }
  | _ => none }
def FnExactBestClassWrongFalsely : Prop := fnExactBestClassRow.holds Try.pinned (OpenSpec.ofChange fnExactBestClassWrong)

/-- 'laws.FnExactGreatestBad': WHATEVER THE INPUT: true; the input reads as it did. -/
def fnExactGreatestBadSpec : ChangeSpec := { name := "fnExactGreatestBad", fn := fun _ => fun
  | [d] => { results := [.lit (.bool true)], args := [d] }
  | _ => none }
def fnExactGreatestBadRow : OpenClaim := { program := "ytllailjiipkoeaa", sum := "7060fbcf038991c66e1a03525a0fd0bf4699f367203e3aea7cdedfde4a4d5498", func := "loop.example/g00992/laws.FnExactGreatestBad", spec := "fnExactGreatestBad", apart := false }
def FnExactGreatestBadSaid : Prop := fnExactGreatestBadRow.holds Try.pinned (OpenSpec.ofChange fnExactGreatestBadSpec)

/-- ITS FALSE NEIGHBOUR: 'it returns false'. Refute it at one input. -/
def fnExactGreatestBadWrong : ChangeSpec := { name := "fnExactGreatestBad", fn := fun _ => fun
  | [d] => { results := [.lit (.bool false)], args := [d] }
  | _ => none }
def FnExactGreatestBadWrongFalsely : Prop := fnExactGreatestBadRow.holds Try.pinned (OpenSpec.ofChange fnExactGreatestBadWrong)

/- THE SECOND FORM. 'bulk': how many values and letters a reading holds, each counted each time it is reached (what is shared counts as often as it is met; a slice's spare places count too). A statement '..UptoSaid' is the law's where the arguments, and the package variables that the reading takes, are together of bulk at most 1048576: NARROWER than '..Said'. Prove '..Said' where nothing that the law and all that it calls make is longer than what came in: it says more and counts as full. Else prove '..UptoSaid'. A law counts once. -/
mutual
def uptoBulk {H : Type} : DataW H → Nat
  | .lit (.string bytes) => bytes.length + 1
  | .lit _ => 1
  | .nil => 1
  | .ptr d => uptoBulk d + 1
  | .slice elems spare => uptoBulkAll elems + uptoBulkAll spare + 1
  | .agg parts => uptoBulkAll parts + 1
  | .iface _ d => uptoBulk d + 1
  | .map entries => uptoBulkEntries entries + 1
  | .held _ => 1
def uptoBulkAll {H : Type} : List (DataW H) → Nat
  | [] => 0
  | d :: r => uptoBulk d + uptoBulkAll r
def uptoBulkEntries {H : Type} : List (Lit × DataW H) → Nat
  | [] => 0
  | x :: r => uptoBulkEntry x + uptoBulkEntries r
def uptoBulkEntry {H : Type} : Lit × DataW H → Nat
  | (.string bytes, d) => bytes.length + uptoBulk d + 1
  | (_, d) => uptoBulk d + 1
 end
def uptoSmall : (H : Type) → List (DataW H) → Bool := fun _ ds => decide (uptoBulkAll ds ≤ 1048576)
def OpenSpec.upto (s : _root_.Go.ChangeSpec) : _root_.Go.OpenSpec := { _root_.Go.OpenSpec.ofChange s with cond := some uptoSmall }

/-- 'laws.FnExactLeastSize', WHERE WHAT IT READS IS OF BULK AT MOST 1048576: true; the input reads as it did. -/
def fnExactLeastSizeUptoRow : OpenClaim := { program := "ytllailjiipkoeaa", sum := "7060fbcf038991c66e1a03525a0fd0bf4699f367203e3aea7cdedfde4a4d5498", func := "loop.example/g00992/laws.FnExactLeastSize", spec := "fnExactLeastSize", apart := false, narrowed := true }
def FnExactLeastSizeUptoSaid : Prop := fnExactLeastSizeUptoRow.holds Try.pinned (OpenSpec.upto fnExactLeastSizeSpec)

/-- 'laws.FnExactToleranceOf', WHERE WHAT IT READS IS OF BULK AT MOST 1048576: true; the input reads as it did. -/
def fnExactToleranceOfUptoRow : OpenClaim := { program := "ytllailjiipkoeaa", sum := "7060fbcf038991c66e1a03525a0fd0bf4699f367203e3aea7cdedfde4a4d5498", func := "loop.example/g00992/laws.FnExactToleranceOf", spec := "fnExactToleranceOf", apart := false, narrowed := true }
def FnExactToleranceOfUptoSaid : Prop := fnExactToleranceOfUptoRow.holds Try.pinned (OpenSpec.upto fnExactToleranceOfSpec)

/-- 'laws.FnExactFindingOk', WHERE WHAT IT READS IS OF BULK AT MOST 1048576: true; the input reads as it did. -/
def fnExactFindingOkUptoRow : OpenClaim := { program := "ytllailjiipkoeaa", sum := "7060fbcf038991c66e1a03525a0fd0bf4699f367203e3aea7cdedfde4a4d5498", func := "loop.example/g00992/laws.FnExactFindingOk", spec := "fnExactFindingOk", apart := false, narrowed := true }
def FnExactFindingOkUptoSaid : Prop := fnExactFindingOkUptoRow.holds Try.pinned (OpenSpec.upto fnExactFindingOkSpec)

/-- 'laws.FnExactPlanOk', WHERE WHAT IT READS IS OF BULK AT MOST 1048576: true; the input reads as it did. -/
def fnExactPlanOkUptoRow : OpenClaim := { program := "ytllailjiipkoeaa", sum := "7060fbcf038991c66e1a03525a0fd0bf4699f367203e3aea7cdedfde4a4d5498", func := "loop.example/g00992/laws.FnExactPlanOk", spec := "fnExactPlanOk", apart := false, narrowed := true }
def FnExactPlanOkUptoSaid : Prop := fnExactPlanOkUptoRow.holds Try.pinned (OpenSpec.upto fnExactPlanOkSpec)

/-- 'laws.FnExactChooseOf', WHERE WHAT IT READS IS OF BULK AT MOST 1048576: true; the input reads as it did. -/
def fnExactChooseOfUptoRow : OpenClaim := { program := "ytllailjiipkoeaa", sum := "7060fbcf038991c66e1a03525a0fd0bf4699f367203e3aea7cdedfde4a4d5498", func := "loop.example/g00992/laws.FnExactChooseOf", spec := "fnExactChooseOf", apart := false, narrowed := true }
def FnExactChooseOfUptoSaid : Prop := fnExactChooseOfUptoRow.holds Try.pinned (OpenSpec.upto fnExactChooseOfSpec)

/-- 'laws.FnExactNarrowFinding', WHERE WHAT IT READS IS OF BULK AT MOST 1048576: true; the input reads as it did. -/
def fnExactNarrowFindingUptoRow : OpenClaim := { program := "ytllailjiipkoeaa", sum := "7060fbcf038991c66e1a03525a0fd0bf4699f367203e3aea7cdedfde4a4d5498", func := "loop.example/g00992/laws.FnExactNarrowFinding", spec := "fnExactNarrowFinding", apart := false, narrowed := true }
def FnExactNarrowFindingUptoSaid : Prop := fnExactNarrowFindingUptoRow.holds Try.pinned (OpenSpec.upto fnExactNarrowFindingSpec)

/-- 'laws.FnExactVerdictOf', WHERE WHAT IT READS IS OF BULK AT MOST 1048576: true; the input reads as it did. -/
def fnExactVerdictOfUptoRow : OpenClaim := { program := "ytllailjiipkoeaa", sum := "7060fbcf038991c66e1a03525a0fd0bf4699f367203e3aea7cdedfde4a4d5498", func := "loop.example/g00992/laws.FnExactVerdictOf", spec := "fnExactVerdictOf", apart := false, narrowed := true }
def FnExactVerdictOfUptoSaid : Prop := fnExactVerdictOfUptoRow.holds Try.pinned (OpenSpec.upto fnExactVerdictOfSpec)

/-- 'laws.FnExactCountAccepting', WHERE WHAT IT READS IS OF BULK AT MOST 1048576: true; the input reads as it did. -/
def fnExactCountAcceptingUptoRow : OpenClaim := { program := "ytllailjiipkoeaa", sum := "7060fbcf038991c66e1a03525a0fd0bf4699f367203e3aea7cdedfde4a4d5498", func := "loop.example/g00992/laws.FnExactCountAccepting", spec := "fnExactCountAccepting", apart := false, narrowed := true }
def FnExactCountAcceptingUptoSaid : Prop := fnExactCountAcceptingUptoRow.holds Try.pinned (OpenSpec.upto fnExactCountAcceptingSpec)

/-- 'laws.FnExactBestClass', WHERE WHAT IT READS IS OF BULK AT MOST 1048576: true; the input reads as it did. -/
def fnExactBestClassUptoRow : OpenClaim := { program := "ytllailjiipkoeaa", sum := "7060fbcf038991c66e1a03525a0fd0bf4699f367203e3aea7cdedfde4a4d5498", func := "loop.example/g00992/laws.FnExactBestClass", spec := "fnExactBestClass", apart := false, narrowed := true }
def FnExactBestClassUptoSaid : Prop := fnExactBestClassUptoRow.holds Try.pinned (OpenSpec.upto fnExactBestClassSpec)

/-- 'laws.FnExactGreatestBad', WHERE WHAT IT READS IS OF BULK AT MOST 1048576: true; the input reads as it did. -/
def fnExactGreatestBadUptoRow : OpenClaim := { program := "ytllailjiipkoeaa", sum := "7060fbcf038991c66e1a03525a0fd0bf4699f367203e3aea7cdedfde4a4d5498", func := "loop.example/g00992/laws.FnExactGreatestBad", spec := "fnExactGreatestBad", apart := false, narrowed := true }
def FnExactGreatestBadUptoSaid : Prop := fnExactGreatestBadUptoRow.holds Try.pinned (OpenSpec.upto fnExactGreatestBadSpec)

end Rows
end Go.Proofs.Ytllailjiipkoeaa
