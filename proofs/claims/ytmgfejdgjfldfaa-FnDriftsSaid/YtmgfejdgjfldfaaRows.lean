/-
  No cell of these rows narrows 'for every input' (looked for: loops, veiled, ifaces, maps, wideKeys, modest, calm, conditions, laid).
  DERIVED. THE GIVEN ROWS OF THIS SEAT. 6 by the template 'for every input the law returns true; each argument reads behind the call as it read before'; 0 by the template 'total and deterministic' (their statements: YtmgfejdgjfldfaaTotals.lean).
  GIVEN WITH THE SEED: the statements are not yours to turn. If you find one false, say at which input.
  Laid BY PROGRAM, IN A SANDBOX (cutbox-rows.mjs): the forced cells as the released guide's own fill.sh prints them over the translation 906dfc10eecc5d49… (all of the seat's roots in one cut). By AI agents, Wed Nov 11 2026. No macro, syntax, notation, axiom, sorry.
-/
import Derived.Test.YtmgfejdgjfldfaaChecked
import GoSem.Claim
import GoSem.ClaimJoined
import GoSem.ClaimMapViews
import Derived.JoinedTies
import Derived.KernelRfl
namespace Go.Proofs.Ytmgfejdgjfldfaa
/- THE CELL 'sum', in the pinned program and in every row, IS THE sha256 OF THE DUMP (.gsa) THAT YtmgfejdgjfldfaaProg.lean LOADS. Nothing in Lean hashes anything: it is a label: what it is worth is what the hold of that sum in a sandbox is worth. -/
noncomputable def Try.pinned : Pinned := { name := "ytmgfejdgjfldfaa", sum := "906dfc10eecc5d4930b8a615340ae3675d2a31f6e79787a2c39849e3d3a468d9", checked := Try.checked }
namespace Rows
def none {H : Type} : Left H := { results := [], args := [] }

/-- 'laws.FnExactThueSigns': WHATEVER THE INPUT: true; the input reads as it did. -/
def fnExactThueSignsSpec : ChangeSpec := { name := "fnExactThueSigns", fn := fun _ => fun
  | [d] => { results := [.lit (.bool true)], args := [d] }
  | _ => none }
def fnExactThueSignsRow : OpenClaim := { program := "ytmgfejdgjfldfaa", sum := "906dfc10eecc5d4930b8a615340ae3675d2a31f6e79787a2c39849e3d3a468d9", func := "loop.example/g00992/laws.FnExactThueSigns", spec := "fnExactThueSigns", apart := false }
def FnExactThueSignsSaid : Prop := fnExactThueSignsRow.holds Try.pinned (OpenSpec.ofChange fnExactThueSignsSpec)

/-- ITS FALSE NEIGHBOUR: 'it returns false'. Refute it at one input. -/
def fnExactThueSignsWrong : ChangeSpec := { name := "fnExactThueSigns", fn := fun _ => fun
  | [d] => { results := [.lit (.bool false)], args := [d] }
  | _ => none }
def FnExactThueSignsWrongFalsely : Prop := fnExactThueSignsRow.holds Try.pinned (OpenSpec.ofChange fnExactThueSignsWrong)

/-- 'laws.FnExactSignSum': WHATEVER THE INPUT: true; the input reads as it did. -/
def fnExactSignSumSpec : ChangeSpec := { name := "fnExactSignSum", fn := fun _ => fun
  | [d1, d2] => { results := [.lit (.bool true)], args := [d1, d2] }
  | _ => none }
def fnExactSignSumRow : OpenClaim := { program := "ytmgfejdgjfldfaa", sum := "906dfc10eecc5d4930b8a615340ae3675d2a31f6e79787a2c39849e3d3a468d9", func := "loop.example/g00992/laws.FnExactSignSum", spec := "fnExactSignSum", apart := false }
def FnExactSignSumSaid : Prop := fnExactSignSumRow.holds Try.pinned (OpenSpec.ofChange fnExactSignSumSpec)

/-- ITS FALSE NEIGHBOUR: 'it returns false'. Refute it at one input. -/
def fnExactSignSumWrong : ChangeSpec := { name := "fnExactSignSum", fn := fun _ => fun
  | [d1, d2] => { results := [.lit (.bool false)], args := [d1, d2] }
  | _ => none }
def FnExactSignSumWrongFalsely : Prop := fnExactSignSumRow.holds Try.pinned (OpenSpec.ofChange fnExactSignSumWrong)

/-- 'laws.FnExactEliminates': WHATEVER THE INPUT: true; the input reads as it did. -/
def fnExactEliminatesSpec : ChangeSpec := { name := "fnExactEliminates", fn := fun _ => fun
  | [d] => { results := [.lit (.bool true)], args := [d] }
  | _ => none }
def fnExactEliminatesRow : OpenClaim := { program := "ytmgfejdgjfldfaa", sum := "906dfc10eecc5d4930b8a615340ae3675d2a31f6e79787a2c39849e3d3a468d9", func := "loop.example/g00992/laws.FnExactEliminates", spec := "fnExactEliminates", apart := false }
def FnExactEliminatesSaid : Prop := fnExactEliminatesRow.holds Try.pinned (OpenSpec.ofChange fnExactEliminatesSpec)

/-- ITS FALSE NEIGHBOUR: 'it returns false'. Refute it at one input. -/
def fnExactEliminatesWrong : ChangeSpec := { name := "fnExactEliminates", fn := fun _ => fun
  | [d] => { results := [.lit (.bool false)], args := [d] }
  | _ => none }
def FnExactEliminatesWrongFalsely : Prop := fnExactEliminatesRow.holds Try.pinned (OpenSpec.ofChange fnExactEliminatesWrong)

/-- 'laws.FnExactDriftedSum': WHATEVER THE INPUT: true; the input reads as it did. -/
def fnExactDriftedSumSpec : ChangeSpec := { name := "fnExactDriftedSum", fn := fun _ => fun
  | [d1, d2] => { results := [.lit (.bool true)], args := [d1, d2] }
  | _ => none }
def fnExactDriftedSumRow : OpenClaim := { program := "ytmgfejdgjfldfaa", sum := "906dfc10eecc5d4930b8a615340ae3675d2a31f6e79787a2c39849e3d3a468d9", func := "loop.example/g00992/laws.FnExactDriftedSum", spec := "fnExactDriftedSum", apart := false }
def FnExactDriftedSumSaid : Prop := fnExactDriftedSumRow.holds Try.pinned (OpenSpec.ofChange fnExactDriftedSumSpec)

/-- ITS FALSE NEIGHBOUR: 'it returns false'. Refute it at one input. -/
def fnExactDriftedSumWrong : ChangeSpec := { name := "fnExactDriftedSum", fn := fun _ => fun
  | [d1, d2] => { results := [.lit (.bool false)], args := [d1, d2] }
  | _ => none }
def FnExactDriftedSumWrongFalsely : Prop := fnExactDriftedSumRow.holds Try.pinned (OpenSpec.ofChange fnExactDriftedSumWrong)

/-- 'laws.FnExactShortestEliminating': WHATEVER THE INPUT: true; the input reads as it did. -/
def fnExactShortestEliminatingSpec : ChangeSpec := { name := "fnExactShortestEliminating", fn := fun _ => fun
  | [d] => { results := [.lit (.bool true)], args := [d] }
  | _ => none }
def fnExactShortestEliminatingRow : OpenClaim := { program := "ytmgfejdgjfldfaa", sum := "906dfc10eecc5d4930b8a615340ae3675d2a31f6e79787a2c39849e3d3a468d9", func := "loop.example/g00992/laws.FnExactShortestEliminating", spec := "fnExactShortestEliminating", apart := false }
def FnExactShortestEliminatingSaid : Prop := fnExactShortestEliminatingRow.holds Try.pinned (OpenSpec.ofChange fnExactShortestEliminatingSpec)

/-- ITS FALSE NEIGHBOUR: 'it returns false'. Refute it at one input. -/
def fnExactShortestEliminatingWrong : ChangeSpec := { name := "fnExactShortestEliminating", fn := fun _ => fun
  | [d] => { results := [.lit (.bool false)], args := [d] }
  | _ => none }
def FnExactShortestEliminatingWrongFalsely : Prop := fnExactShortestEliminatingRow.holds Try.pinned (OpenSpec.ofChange fnExactShortestEliminatingWrong)

/-- 'laws.FnDrifts': WHATEVER THE INPUT: true; the input reads as it did. -/
def fnDriftsSpec : ChangeSpec := { name := "fnDrifts", fn := fun _ => fun
  | [d] => { results := [.lit (.bool true)], args := [d] }
  | _ => none }
def fnDriftsRow : OpenClaim := { program := "ytmgfejdgjfldfaa", sum := "906dfc10eecc5d4930b8a615340ae3675d2a31f6e79787a2c39849e3d3a468d9", func := "loop.example/g00992/laws.FnDrifts", spec := "fnDrifts", apart := false }
def FnDriftsSaid : Prop := fnDriftsRow.holds Try.pinned (OpenSpec.ofChange fnDriftsSpec)

/-- ITS FALSE NEIGHBOUR: 'it returns false'. Refute it at one input. -/
def fnDriftsWrong : ChangeSpec := { name := "fnDrifts", fn := fun _ => fun
  | [d] => { results := [.lit (.bool false)], args := [d] }
  | _ => none }
def FnDriftsWrongFalsely : Prop := fnDriftsRow.holds Try.pinned (OpenSpec.ofChange fnDriftsWrong)

/- THE SECOND FORM. 'bulk': how many values and letters a reading holds, each counted each time it is reached (what is shared counts as often as it is met; a slice's spare places count too). A statement '..UptoSaid' is the law's where the arguments, and the package variables that the reading takes, are together of bulk at most 1048576: NARROWER than '..Said'. Prove '..Said' where nothing that the law and all that it calls make is longer than what came in: it says more and counts as full. Else prove '..UptoSaid'. A law counts once. -/
mutual
def uptoBulk {H : Type} : DataW H → Nat
  | .lit (.string bytes) => bytes.length + 1
  | .lit _ => 1
  | .nil => 1
  | .ptr d => uptoBulk d + 1
  | .slice elems spare => uptoBulkAll elems + uptoBulkAll spare + 1
  | .agg parts => uptoBulkAll parts + 1
  | .iface _ d => uptoBulk d + 1
  | .map entries => uptoBulkEntries entries + 1
  | .held _ => 1
def uptoBulkAll {H : Type} : List (DataW H) → Nat
  | [] => 0
  | d :: r => uptoBulk d + uptoBulkAll r
def uptoBulkEntries {H : Type} : List (Lit × DataW H) → Nat
  | [] => 0
  | x :: r => uptoBulkEntry x + uptoBulkEntries r
def uptoBulkEntry {H : Type} : Lit × DataW H → Nat
  | (.string bytes, d) => bytes.length + uptoBulk d + 1
  | (_, d) => uptoBulk d + 1
 end
def uptoSmall : (H : Type) → List (DataW H) → Bool := fun _ ds => decide (uptoBulkAll ds ≤ 1048576)
def OpenSpec.upto (s : _root_.Go.ChangeSpec) : _root_.Go.OpenSpec := { _root_.Go.OpenSpec.ofChange s with cond := some uptoSmall }

/-- 'laws.FnExactThueSigns', WHERE WHAT IT READS IS OF BULK AT MOST 1048576: true; the input reads as it did. -/
def fnExactThueSignsUptoRow : OpenClaim := { program := "ytmgfejdgjfldfaa", sum := "906dfc10eecc5d4930b8a615340ae3675d2a31f6e79787a2c39849e3d3a468d9", func := "loop.example/g00992/laws.FnExactThueSigns", spec := "fnExactThueSigns", apart := false, narrowed := true }
def FnExactThueSignsUptoSaid : Prop := fnExactThueSignsUptoRow.holds Try.pinned (OpenSpec.upto fnExactThueSignsSpec)

/-- 'laws.FnExactSignSum', WHERE WHAT IT READS IS OF BULK AT MOST 1048576: true; the input reads as it did. -/
def fnExactSignSumUptoRow : OpenClaim := { program := "ytmgfejdgjfldfaa", sum := "906dfc10eecc5d4930b8a615340ae3675d2a31f6e79787a2c39849e3d3a468d9", func := "loop.example/g00992/laws.FnExactSignSum", spec := "fnExactSignSum", apart := false, narrowed := true }
def FnExactSignSumUptoSaid : Prop := fnExactSignSumUptoRow.holds Try.pinned (OpenSpec.upto fnExactSignSumSpec)

/-- 'laws.FnExactEliminates', WHERE WHAT IT READS IS OF BULK AT MOST 1048576: true; the input reads as it did. -/
def fnExactEliminatesUptoRow : OpenClaim := { program := "ytmgfejdgjfldfaa", sum := "906dfc10eecc5d4930b8a615340ae3675d2a31f6e79787a2c39849e3d3a468d9", func := "loop.example/g00992/laws.FnExactEliminates", spec := "fnExactEliminates", apart := false, narrowed := true }
def FnExactEliminatesUptoSaid : Prop := fnExactEliminatesUptoRow.holds Try.pinned (OpenSpec.upto fnExactEliminatesSpec)

/-- 'laws.FnExactDriftedSum', WHERE WHAT IT READS IS OF BULK AT MOST 1048576: true; the input reads as it did. -/
def fnExactDriftedSumUptoRow : OpenClaim := { program := "ytmgfejdgjfldfaa", sum := "906dfc10eecc5d4930b8a615340ae3675d2a31f6e79787a2c39849e3d3a468d9", func := "loop.example/g00992/laws.FnExactDriftedSum", spec := "fnExactDriftedSum", apart := false, narrowed := true }
def FnExactDriftedSumUptoSaid : Prop := fnExactDriftedSumUptoRow.holds Try.pinned (OpenSpec.upto fnExactDriftedSumSpec)

/-- 'laws.FnExactShortestEliminating', WHERE WHAT IT READS IS OF BULK AT MOST 1048576: true; the input reads as it did. -/
def fnExactShortestEliminatingUptoRow : OpenClaim := { program := "ytmgfejdgjfldfaa", sum := "906dfc10eecc5d4930b8a615340ae3675d2a31f6e79787a2c39849e3d3a468d9", func := "loop.example/g00992/laws.FnExactShortestEliminating", spec := "fnExactShortestEliminating", apart := false, narrowed := true }
def FnExactShortestEliminatingUptoSaid : Prop := fnExactShortestEliminatingUptoRow.holds Try.pinned (OpenSpec.upto fnExactShortestEliminatingSpec)

/-- 'laws.FnDrifts', WHERE WHAT IT READS IS OF BULK AT MOST 1048576: true; the input reads as it did. -/
def fnDriftsUptoRow : OpenClaim := { program := "ytmgfejdgjfldfaa", sum := "906dfc10eecc5d4930b8a615340ae3675d2a31f6e79787a2c39849e3d3a468d9", func := "loop.example/g00992/laws.FnDrifts", spec := "fnDrifts", apart := false, narrowed := true }
def FnDriftsUptoSaid : Prop := fnDriftsUptoRow.holds Try.pinned (OpenSpec.upto fnDriftsSpec)

end Rows
end Go.Proofs.Ytmgfejdgjfldfaa
