/-
  No cell of these rows narrows 'for every input' (looked for: loops, veiled, ifaces, maps, wideKeys, modest, calm, conditions, laid).
  DERIVED. THE GIVEN ROWS OF THIS SEAT. 7 by the template 'for every input the law returns true; each argument reads behind the call as it read before'; 0 by the template 'total and deterministic' (their statements: YtmnmnkenboejpaaTotals.lean).
  GIVEN WITH THE SEED: the statements are not yours to turn. If you find one false, say at which input.
  Laid BY PROGRAM, IN A SANDBOX (cutbox-rows.mjs): the forced cells as the released guide's own fill.sh prints them over the translation c1cd06804570600b… (all of the seat's roots in one cut). By AI agents, Wed Nov 11 2026. No macro, syntax, notation, axiom, sorry.
-/
import Derived.Test.YtmnmnkenboejpaaChecked
import GoSem.Claim
import GoSem.ClaimJoined
import GoSem.ClaimMapViews
import Derived.JoinedTies
import Derived.KernelRfl
namespace Go.Proofs.Ytmnmnkenboejpaa
/- THE CELL 'sum', in the pinned program and in every row, IS THE sha256 OF THE DUMP (.gsa) THAT YtmnmnkenboejpaaProg.lean LOADS. Nothing in Lean hashes anything: it is a label: what it is worth is what the hold of that sum in a sandbox is worth. -/
noncomputable def Try.pinned : Pinned := { name := "ytmnmnkenboejpaa", sum := "c1cd06804570600bcfd63279980d27a4527c16726e789be71e4240d4e3496e37", checked := Try.checked }
namespace Rows
def none {H : Type} : Left H := { results := [], args := [] }

/-- 'laws.FnExactResidueSquares': WHATEVER THE INPUT: true; the input reads as it did. -/
def fnExactResidueSquaresSpec : ChangeSpec := { name := "fnExactResidueSquares", fn := fun _ => fun
  | [d1, d2] => { results := [.lit (.bool true)], args := [d1, d2] }
  | _ => none }
def fnExactResidueSquaresRow : OpenClaim := { program := "ytmnmnkenboejpaa", sum := "c1cd06804570600bcfd63279980d27a4527c16726e789be71e4240d4e3496e37", func := "loop.example/g00992/laws.FnExactResidueSquares", spec := "fnExactResidueSquares", recurses := true, apart := false }
def FnExactResidueSquaresSaid : Prop := fnExactResidueSquaresRow.holds Try.pinned (OpenSpec.ofChange fnExactResidueSquaresSpec)

/-- ITS FALSE NEIGHBOUR: 'it returns false'. Refute it at one input. -/
def fnExactResidueSquaresWrong : ChangeSpec := { name := "fnExactResidueSquares", fn := fun _ => fun
  | [d1, d2] => { results := [.lit (.bool false)], args := [d1, d2] }
  | _ => none }
def FnExactResidueSquaresWrongFalsely : Prop := fnExactResidueSquaresRow.holds Try.pinned (OpenSpec.ofChange fnExactResidueSquaresWrong)

/-- 'laws.FnExactWorstRow': WHATEVER THE INPUT: true; the input reads as it did. -/
def fnExactWorstRowSpec : ChangeSpec := { name := "fnExactWorstRow", fn := fun _ => fun
  | [d1, d2] => { results := [.lit (.bool true)], args := [d1, d2] }
  | _ => none }
def fnExactWorstRowRow : OpenClaim := { program := "ytmnmnkenboejpaa", sum := "c1cd06804570600bcfd63279980d27a4527c16726e789be71e4240d4e3496e37", func := "loop.example/g00992/laws.FnExactWorstRow", spec := "fnExactWorstRow", recurses := true, apart := false }
def FnExactWorstRowSaid : Prop := fnExactWorstRowRow.holds Try.pinned (OpenSpec.ofChange fnExactWorstRowSpec)

/-- ITS FALSE NEIGHBOUR: 'it returns false'. Refute it at one input. -/
def fnExactWorstRowWrong : ChangeSpec := { name := "fnExactWorstRow", fn := fun _ => fun
  | [d1, d2] => { results := [.lit (.bool false)], args := [d1, d2] }
  | _ => none }
def FnExactWorstRowWrongFalsely : Prop := fnExactWorstRowRow.holds Try.pinned (OpenSpec.ofChange fnExactWorstRowWrong)

/-- 'laws.FnExactResiduesOf': WHATEVER THE INPUT: true; the input reads as it did. -/
def fnExactResiduesOfSpec : ChangeSpec := { name := "fnExactResiduesOf", fn := fun _ => fun
  | [d1, d2] => { results := [.lit (.bool true)], args := [d1, d2] }
  | _ => none }
def fnExactResiduesOfRow : OpenClaim := { program := "ytmnmnkenboejpaa", sum := "c1cd06804570600bcfd63279980d27a4527c16726e789be71e4240d4e3496e37", func := "loop.example/g00992/laws.FnExactResiduesOf", spec := "fnExactResiduesOf", recurses := true, apart := false }
def FnExactResiduesOfSaid : Prop := fnExactResiduesOfRow.holds Try.pinned (OpenSpec.ofChange fnExactResiduesOfSpec)

/-- ITS FALSE NEIGHBOUR: 'it returns false'. Refute it at one input. -/
def fnExactResiduesOfWrong : ChangeSpec := { name := "fnExactResiduesOf", fn := fun _ => fun
  | [d1, d2] => { results := [.lit (.bool false)], args := [d1, d2] }
  | _ => none }
def FnExactResiduesOfWrongFalsely : Prop := fnExactResiduesOfRow.holds Try.pinned (OpenSpec.ofChange fnExactResiduesOfWrong)

/-- 'laws.FnExactBestSwap': WHATEVER THE INPUT: true; the input reads as it did. -/
def fnExactBestSwapSpec : ChangeSpec := { name := "fnExactBestSwap", fn := fun _ => fun
  | [d1, d2] => { results := [.lit (.bool true)], args := [d1, d2] }
  | _ => none }
def fnExactBestSwapRow : OpenClaim := { program := "ytmnmnkenboejpaa", sum := "c1cd06804570600bcfd63279980d27a4527c16726e789be71e4240d4e3496e37", func := "loop.example/g00992/laws.FnExactBestSwap", spec := "fnExactBestSwap", recurses := true, apart := false }
def FnExactBestSwapSaid : Prop := fnExactBestSwapRow.holds Try.pinned (OpenSpec.ofChange fnExactBestSwapSpec)

/-- ITS FALSE NEIGHBOUR: 'it returns false'. Refute it at one input. -/
def fnExactBestSwapWrong : ChangeSpec := { name := "fnExactBestSwap", fn := fun _ => fun
  | [d1, d2] => { results := [.lit (.bool false)], args := [d1, d2] }
  | _ => none }
def FnExactBestSwapWrongFalsely : Prop := fnExactBestSwapRow.holds Try.pinned (OpenSpec.ofChange fnExactBestSwapWrong)

/-- 'laws.FnResidues': WHATEVER THE INPUT: true; the input reads as it did. -/
def fnResiduesSpec : ChangeSpec := { name := "fnResidues", fn := fun _ => fun
  | [d] => { results := [.lit (.bool true)], args := [d] }
  | _ => none }
def fnResiduesRow : OpenClaim := { program := "ytmnmnkenboejpaa", sum := "c1cd06804570600bcfd63279980d27a4527c16726e789be71e4240d4e3496e37", func := "loop.example/g00992/laws.FnResidues", spec := "fnResidues", recurses := true, apart := false }
def FnResiduesSaid : Prop := fnResiduesRow.holds Try.pinned (OpenSpec.ofChange fnResiduesSpec)

/-- ITS FALSE NEIGHBOUR: 'it returns false'. Refute it at one input. -/
def fnResiduesWrong : ChangeSpec := { name := "fnResidues", fn := fun _ => fun
  | [d] => { results := [.lit (.bool false)], args := [d] }
  | _ => none }
def FnResiduesWrongFalsely : Prop := fnResiduesRow.holds Try.pinned (OpenSpec.ofChange fnResiduesWrong)

/-- 'laws.FnSolved': WHATEVER THE INPUT: true; the input reads as it did. -/
def fnSolvedSpec : ChangeSpec := { name := "fnSolved", fn := fun _ => fun
  | [d] => { results := [.lit (.bool true)], args := [d] }
  | _ => none }
def fnSolvedRow : OpenClaim := { program := "ytmnmnkenboejpaa", sum := "c1cd06804570600bcfd63279980d27a4527c16726e789be71e4240d4e3496e37", func := "loop.example/g00992/laws.FnSolved", spec := "fnSolved", recurses := true, apart := false }
def FnSolvedSaid : Prop := fnSolvedRow.holds Try.pinned (OpenSpec.ofChange fnSolvedSpec)

/-- ITS FALSE NEIGHBOUR: 'it returns false'. Refute it at one input. -/
def fnSolvedWrong : ChangeSpec := { name := "fnSolved", fn := fun _ => fun
  | [d] => { results := [.lit (.bool false)], args := [d] }
  | _ => none }
def FnSolvedWrongFalsely : Prop := fnSolvedRow.holds Try.pinned (OpenSpec.ofChange fnSolvedWrong)

/-- 'laws.FnExactFitsExactly': WHATEVER THE INPUT: true; the input reads as it did. -/
def fnExactFitsExactlySpec : ChangeSpec := { name := "fnExactFitsExactly", fn := fun _ => fun
  | [d1, d2] => { results := [.lit (.bool true)], args := [d1, d2] }
  | _ => none }
def fnExactFitsExactlyRow : OpenClaim := { program := "ytmnmnkenboejpaa", sum := "c1cd06804570600bcfd63279980d27a4527c16726e789be71e4240d4e3496e37", func := "loop.example/g00992/laws.FnExactFitsExactly", spec := "fnExactFitsExactly", recurses := true, apart := false }
def FnExactFitsExactlySaid : Prop := fnExactFitsExactlyRow.holds Try.pinned (OpenSpec.ofChange fnExactFitsExactlySpec)

/-- ITS FALSE NEIGHBOUR: 'it returns false'. Refute it at one input. -/
def fnExactFitsExactlyWrong : ChangeSpec := { name := "fnExactFitsExactly", fn := fun _ => fun
  | [d1, d2] => { results := [.lit (.bool false)], args := [d1, d2] }
  | _ => none }
def FnExactFitsExactlyWrongFalsely : Prop := fnExactFitsExactlyRow.holds Try.pinned (OpenSpec.ofChange fnExactFitsExactlyWrong)

/- THE SECOND FORM. 'bulk': how many values and letters a reading holds, each counted each time it is reached (what is shared counts as often as it is met; a slice's spare places count too). A statement '..UptoSaid' is the law's where the arguments, and the package variables that the reading takes, are together of bulk at most 1048576: NARROWER than '..Said'. Prove '..Said' where nothing that the law and all that it calls make is longer than what came in: it says more and counts as full. Else prove '..UptoSaid'. A law counts once. -/
mutual
def uptoBulk {H : Type} : DataW H → Nat
  | .lit (.string bytes) => bytes.length + 1
  | .lit _ => 1
  | .nil => 1
  | .ptr d => uptoBulk d + 1
  | .slice elems spare => uptoBulkAll elems + uptoBulkAll spare + 1
  | .agg parts => uptoBulkAll parts + 1
  | .iface _ d => uptoBulk d + 1
  | .map entries => uptoBulkEntries entries + 1
  | .held _ => 1
def uptoBulkAll {H : Type} : List (DataW H) → Nat
  | [] => 0
  | d :: r => uptoBulk d + uptoBulkAll r
def uptoBulkEntries {H : Type} : List (Lit × DataW H) → Nat
  | [] => 0
  | x :: r => uptoBulkEntry x + uptoBulkEntries r
def uptoBulkEntry {H : Type} : Lit × DataW H → Nat
  | (.string bytes, d) => bytes.length + uptoBulk d + 1
  | (_, d) => uptoBulk d + 1
 end
def uptoSmall : (H : Type) → List (DataW H) → Bool := fun _ ds => decide (uptoBulkAll ds ≤ 1048576)
def OpenSpec.upto (s : _root_.Go.ChangeSpec) : _root_.Go.OpenSpec := { _root_.Go.OpenSpec.ofChange s with cond := some uptoSmall }

/-- 'laws.FnExactResidueSquares', WHERE WHAT IT READS IS OF BULK AT MOST 1048576: true; the input reads as it did. -/
def fnExactResidueSquaresUptoRow : OpenClaim := { program := "ytmnmnkenboejpaa", sum := "c1cd06804570600bcfd63279980d27a4527c16726e789be71e4240d4e3496e37", func := "loop.example/g00992/laws.FnExactResidueSquares", spec := "fnExactResidueSquares", recurses := true, apart := false, narrowed := true }
def FnExactResidueSquaresUptoSaid : Prop := fnExactResidueSquaresUptoRow.holds Try.pinned (OpenSpec.upto fnExactResidueSquaresSpec)

/-- 'laws.FnExactWorstRow', WHERE WHAT IT READS IS OF BULK AT MOST 1048576: true; the input reads as it did. -/
def fnExactWorstRowUptoRow : OpenClaim := { program := "ytmnmnkenboejpaa", sum := "c1cd06804570600bcfd63279980d27a4527c16726e789be71e4240d4e3496e37", func := "loop.example/g00992/laws.FnExactWorstRow", spec := "fnExactWorstRow", recurses := true, apart := false, narrowed := true }
def FnExactWorstRowUptoSaid : Prop := fnExactWorstRowUptoRow.holds Try.pinned (OpenSpec.upto fnExactWorstRowSpec)

/-- 'laws.FnExactResiduesOf', WHERE WHAT IT READS IS OF BULK AT MOST 1048576: true; the input reads as it did. -/
def fnExactResiduesOfUptoRow : OpenClaim := { program := "ytmnmnkenboejpaa", sum := "c1cd06804570600bcfd63279980d27a4527c16726e789be71e4240d4e3496e37", func := "loop.example/g00992/laws.FnExactResiduesOf", spec := "fnExactResiduesOf", recurses := true, apart := false, narrowed := true }
def FnExactResiduesOfUptoSaid : Prop := fnExactResiduesOfUptoRow.holds Try.pinned (OpenSpec.upto fnExactResiduesOfSpec)

/-- 'laws.FnExactBestSwap', WHERE WHAT IT READS IS OF BULK AT MOST 1048576: true; the input reads as it did. -/
def fnExactBestSwapUptoRow : OpenClaim := { program := "ytmnmnkenboejpaa", sum := "c1cd06804570600bcfd63279980d27a4527c16726e789be71e4240d4e3496e37", func := "loop.example/g00992/laws.FnExactBestSwap", spec := "fnExactBestSwap", recurses := true, apart := false, narrowed := true }
def FnExactBestSwapUptoSaid : Prop := fnExactBestSwapUptoRow.holds Try.pinned (OpenSpec.upto fnExactBestSwapSpec)

/-- 'laws.FnResidues', WHERE WHAT IT READS IS OF BULK AT MOST 1048576: true; the input reads as it did. -/
def fnResiduesUptoRow : OpenClaim := { program := "ytmnmnkenboejpaa", sum := "c1cd06804570600bcfd63279980d27a4527c16726e789be71e4240d4e3496e37", func := "loop.example/g00992/laws.FnResidues", spec := "fnResidues", recurses := true, apart := false, narrowed := true }
def FnResiduesUptoSaid : Prop := fnResiduesUptoRow.holds Try.pinned (OpenSpec.upto fnResiduesSpec)

/-- 'laws.FnSolved', WHERE WHAT IT READS IS OF BULK AT MOST 1048576: true; the input reads as it did. -/
def fnSolvedUptoRow : OpenClaim := { program := "ytmnmnkenboejpaa", sum := "c1cd06804570600bcfd63279980d27a4527c16726e789be71e4240d4e3496e37", func := "loop.example/g00992/laws.FnSolved", spec := "fnSolved", recurses := true, apart := false, narrowed := true }
def FnSolvedUptoSaid : Prop := fnSolvedUptoRow.holds Try.pinned (OpenSpec.upto fnSolvedSpec)

/-- 'laws.FnExactFitsExactly', WHERE WHAT IT READS IS OF BULK AT MOST 1048576: true; the input reads as it did. -/
def fnExactFitsExactlyUptoRow : OpenClaim := { program := "ytmnmnkenboejpaa", sum := "c1cd06804570600bcfd63279980d27a4527c16726e789be71e4240d4e3496e37", func := "loop.example/g00992/laws.FnExactFitsExactly", spec := "fnExactFitsExactly", recurses := true, apart := false, narrowed := true }
def FnExactFitsExactlyUptoSaid : Prop := fnExactFitsExactlyUptoRow.holds Try.pinned (OpenSpec.upto fnExactFitsExactlySpec)

end Rows
end Go.Proofs.Ytmnmnkenboejpaa
