/-
  No cell of these rows narrows 'for every input' (looked for: loops, veiled, ifaces, maps, wideKeys, modest, calm, conditions, laid).
  DERIVED. THE GIVEN ROWS OF THIS SEAT. 6 by the template 'for every input the law returns true; each argument reads behind the call as it read before'; 0 by the template 'total and deterministic' (their statements: YtfgkglbhbdfpfaaTotals.lean).
  GIVEN WITH THE SEED: the statements are not yours to turn. If you find one false, say at which input.
  Laid BY PROGRAM, IN A SANDBOX (cutbox-rows.mjs): the forced cells as the released guide's own fill.sh prints them over the translation ae60717a2ecb83d7… (all of the seat's roots in one cut). By AI agents, Wed Nov 11 2026. No macro, syntax, notation, axiom, sorry.
-/
import Derived.Test.YtfgkglbhbdfpfaaChecked
import GoSem.Claim
import GoSem.ClaimJoined
import GoSem.ClaimMapViews
import Derived.JoinedTies
import Derived.KernelRfl
namespace Go.Proofs.Ytfgkglbhbdfpfaa
/- THE CELL 'sum', in the pinned program and in every row, IS THE sha256 OF THE DUMP (.gsa) THAT YtfgkglbhbdfpfaaProg.lean LOADS. Nothing in Lean hashes anything: it is a label: what it is worth is what the hold of that sum in a sandbox is worth. -/
noncomputable def Try.pinned : Pinned := { name := "ytfgkglbhbdfpfaa", sum := "ae60717a2ecb83d7be67bc27706b558108cbe4b69107b35a9ef3c5594b5b96ba", checked := Try.checked }
namespace Rows
def none {H : Type} : Left H := { results := [], args := [] }

/-- 'laws.FnExactRatiosOk': WHATEVER THE INPUT: true; the input reads as it did. -/
def fnExactRatiosOkSpec : ChangeSpec := { name := "fnExactRatiosOk", fn := fun _ => fun
  | [d] => { results := [.lit (.bool true)], args := [d] }
  | _ => none }
def fnExactRatiosOkRow : OpenClaim := { program := "ytfgkglbhbdfpfaa", sum := "ae60717a2ecb83d7be67bc27706b558108cbe4b69107b35a9ef3c5594b5b96ba", func := "loop.example/g00992/laws.FnExactRatiosOk", spec := "fnExactRatiosOk", apart := false }
def FnExactRatiosOkSaid : Prop := fnExactRatiosOkRow.holds Try.pinned (OpenSpec.ofChange fnExactRatiosOkSpec)

/-- ITS FALSE NEIGHBOUR: 'it returns false'. Refute it at one input. -/
def fnExactRatiosOkWrong : ChangeSpec := { name := "fnExactRatiosOk", fn := fun _ => fun
  | [d] => { results := [.lit (.bool false)], args := [d] }
  | _ => none }
def FnExactRatiosOkWrongFalsely : Prop := fnExactRatiosOkRow.holds Try.pinned (OpenSpec.ofChange fnExactRatiosOkWrong)

/-- 'laws.FnExactAreUnited': WHATEVER THE INPUT: true; the input reads as it did. -/
def fnExactAreUnitedSpec : ChangeSpec := { name := "fnExactAreUnited", fn := fun _ => fun
  | [d1, d2, d3] => { results := [.lit (.bool true)], args := [d1, d2, d3] }
  | _ => none }
def fnExactAreUnitedRow : OpenClaim := { program := "ytfgkglbhbdfpfaa", sum := "ae60717a2ecb83d7be67bc27706b558108cbe4b69107b35a9ef3c5594b5b96ba", func := "loop.example/g00992/laws.FnExactAreUnited", spec := "fnExactAreUnited", apart := false }
def FnExactAreUnitedSaid : Prop := fnExactAreUnitedRow.holds Try.pinned (OpenSpec.ofChange fnExactAreUnitedSpec)

/-- ITS FALSE NEIGHBOUR: 'it returns false'. Refute it at one input. -/
def fnExactAreUnitedWrong : ChangeSpec := { name := "fnExactAreUnited", fn := fun _ => fun
  | [d1, d2, d3] => { results := [.lit (.bool false)], args := [d1, d2, d3] }
  | _ => none }
def FnExactAreUnitedWrongFalsely : Prop := fnExactAreUnitedRow.holds Try.pinned (OpenSpec.ofChange fnExactAreUnitedWrong)

/-- 'laws.FnExactFactorOf': WHATEVER THE INPUT: true; the input reads as it did. -/
def fnExactFactorOfSpec : ChangeSpec := { name := "fnExactFactorOf", fn := fun _ => fun
  | [d1, d2, d3] => { results := [.lit (.bool true)], args := [d1, d2, d3] }
  | _ => none }
def fnExactFactorOfRow : OpenClaim := { program := "ytfgkglbhbdfpfaa", sum := "ae60717a2ecb83d7be67bc27706b558108cbe4b69107b35a9ef3c5594b5b96ba", func := "loop.example/g00992/laws.FnExactFactorOf", spec := "fnExactFactorOf", apart := false }
def FnExactFactorOfSaid : Prop := fnExactFactorOfRow.holds Try.pinned (OpenSpec.ofChange fnExactFactorOfSpec)

/-- ITS FALSE NEIGHBOUR: 'it returns false'. Refute it at one input. -/
def fnExactFactorOfWrong : ChangeSpec := { name := "fnExactFactorOf", fn := fun _ => fun
  | [d1, d2, d3] => { results := [.lit (.bool false)], args := [d1, d2, d3] }
  | _ => none }
def FnExactFactorOfWrongFalsely : Prop := fnExactFactorOfRow.holds Try.pinned (OpenSpec.ofChange fnExactFactorOfWrong)

/-- 'laws.FnExactConvertTo': WHATEVER THE INPUT: true; the input reads as it did. -/
def fnExactConvertToSpec : ChangeSpec := { name := "fnExactConvertTo", fn := fun _ => fun
  | [d1, d2, d3, d4] => { results := [.lit (.bool true)], args := [d1, d2, d3, d4] }
  | _ => none }
def fnExactConvertToRow : OpenClaim := { program := "ytfgkglbhbdfpfaa", sum := "ae60717a2ecb83d7be67bc27706b558108cbe4b69107b35a9ef3c5594b5b96ba", func := "loop.example/g00992/laws.FnExactConvertTo", spec := "fnExactConvertTo", apart := false }
def FnExactConvertToSaid : Prop := fnExactConvertToRow.holds Try.pinned (OpenSpec.ofChange fnExactConvertToSpec)

/-- ITS FALSE NEIGHBOUR: 'it returns false'. Refute it at one input. -/
def fnExactConvertToWrong : ChangeSpec := { name := "fnExactConvertTo", fn := fun _ => fun
  | [d1, d2, d3, d4] => { results := [.lit (.bool false)], args := [d1, d2, d3, d4] }
  | _ => none }
def FnExactConvertToWrongFalsely : Prop := fnExactConvertToRow.holds Try.pinned (OpenSpec.ofChange fnExactConvertToWrong)

/-- 'laws.FnExactIsConsistent': WHATEVER THE INPUT: true; the input reads as it did. -/
def fnExactIsConsistentSpec : ChangeSpec := { name := "fnExactIsConsistent", fn := fun _ => fun
  | [d] => { results := [.lit (.bool true)], args := [d] }
  | _ => none }
def fnExactIsConsistentRow : OpenClaim := { program := "ytfgkglbhbdfpfaa", sum := "ae60717a2ecb83d7be67bc27706b558108cbe4b69107b35a9ef3c5594b5b96ba", func := "loop.example/g00992/laws.FnExactIsConsistent", spec := "fnExactIsConsistent", apart := false }
def FnExactIsConsistentSaid : Prop := fnExactIsConsistentRow.holds Try.pinned (OpenSpec.ofChange fnExactIsConsistentSpec)

/-- ITS FALSE NEIGHBOUR: 'it returns false'. Refute it at one input. -/
def fnExactIsConsistentWrong : ChangeSpec := { name := "fnExactIsConsistent", fn := fun _ => fun
  | [d] => { results := [.lit (.bool false)], args := [d] }
  | _ => none }
def FnExactIsConsistentWrongFalsely : Prop := fnExactIsConsistentRow.holds Try.pinned (OpenSpec.ofChange fnExactIsConsistentWrong)

/-- 'laws.FnUnits': WHATEVER THE INPUT: true; the input reads as it did. -/
def fnUnitsSpec : ChangeSpec := { name := "fnUnits", fn := fun _ => fun
  | [d] => { results := [.lit (.bool true)], args := [d] }
  | _ => none }
def fnUnitsRow : OpenClaim := { program := "ytfgkglbhbdfpfaa", sum := "ae60717a2ecb83d7be67bc27706b558108cbe4b69107b35a9ef3c5594b5b96ba", func := "loop.example/g00992/laws.FnUnits", spec := "fnUnits", apart := false }
def FnUnitsSaid : Prop := fnUnitsRow.holds Try.pinned (OpenSpec.ofChange fnUnitsSpec)

/-- ITS FALSE NEIGHBOUR: 'it returns false'. Refute it at one input. -/
def fnUnitsWrong : ChangeSpec := { name := "fnUnits", fn := fun _ => fun
  | [d] => { results := [.lit (.bool false)], args := [d] }
  | _ => none }
def FnUnitsWrongFalsely : Prop := fnUnitsRow.holds Try.pinned (OpenSpec.ofChange fnUnitsWrong)

/- THE SECOND FORM. 'bulk': how many values and letters a reading holds, each counted each time it is reached (what is shared counts as often as it is met; a slice's spare places count too). A statement '..UptoSaid' is the law's where the arguments, and the package variables that the reading takes, are together of bulk at most 1048576: NARROWER than '..Said'. Prove '..Said' where nothing that the law and all that it calls make is longer than what came in: it says more and counts as full. Else prove '..UptoSaid'. A law counts once. -/
mutual
def uptoBulk {H : Type} : DataW H → Nat
  | .lit (.string bytes) => bytes.length + 1
  | .lit _ => 1
  | .nil => 1
  | .ptr d => uptoBulk d + 1
  | .slice elems spare => uptoBulkAll elems + uptoBulkAll spare + 1
  | .agg parts => uptoBulkAll parts + 1
  | .iface _ d => uptoBulk d + 1
  | .map entries => uptoBulkEntries entries + 1
  | .held _ => 1
def uptoBulkAll {H : Type} : List (DataW H) → Nat
  | [] => 0
  | d :: r => uptoBulk d + uptoBulkAll r
def uptoBulkEntries {H : Type} : List (Lit × DataW H) → Nat
  | [] => 0
  | x :: r => uptoBulkEntry x + uptoBulkEntries r
def uptoBulkEntry {H : Type} : Lit × DataW H → Nat
  | (.string bytes, d) => bytes.length + uptoBulk d + 1
  | (_, d) => uptoBulk d + 1
 end
def uptoSmall : (H : Type) → List (DataW H) → Bool := fun _ ds => decide (uptoBulkAll ds ≤ 1048576)
def OpenSpec.upto (s : _root_.Go.ChangeSpec) : _root_.Go.OpenSpec := { _root_.Go.OpenSpec.ofChange s with cond := some uptoSmall }

/-- 'laws.FnExactRatiosOk', WHERE WHAT IT READS IS OF BULK AT MOST 1048576: true; the input reads as it did. -/
def fnExactRatiosOkUptoRow : OpenClaim := { program := "ytfgkglbhbdfpfaa", sum := "ae60717a2ecb83d7be67bc27706b558108cbe4b69107b35a9ef3c5594b5b96ba", func := "loop.example/g00992/laws.FnExactRatiosOk", spec := "fnExactRatiosOk", apart := false, narrowed := true }
def FnExactRatiosOkUptoSaid : Prop := fnExactRatiosOkUptoRow.holds Try.pinned (OpenSpec.upto fnExactRatiosOkSpec)

/-- 'laws.FnExactAreUnited', WHERE WHAT IT READS IS OF BULK AT MOST 1048576: true; the input reads as it did. -/
def fnExactAreUnitedUptoRow : OpenClaim := { program := "ytfgkglbhbdfpfaa", sum := "ae60717a2ecb83d7be67bc27706b558108cbe4b69107b35a9ef3c5594b5b96ba", func := "loop.example/g00992/laws.FnExactAreUnited", spec := "fnExactAreUnited", apart := false, narrowed := true }
def FnExactAreUnitedUptoSaid : Prop := fnExactAreUnitedUptoRow.holds Try.pinned (OpenSpec.upto fnExactAreUnitedSpec)

/-- 'laws.FnExactFactorOf', WHERE WHAT IT READS IS OF BULK AT MOST 1048576: true; the input reads as it did. -/
def fnExactFactorOfUptoRow : OpenClaim := { program := "ytfgkglbhbdfpfaa", sum := "ae60717a2ecb83d7be67bc27706b558108cbe4b69107b35a9ef3c5594b5b96ba", func := "loop.example/g00992/laws.FnExactFactorOf", spec := "fnExactFactorOf", apart := false, narrowed := true }
def FnExactFactorOfUptoSaid : Prop := fnExactFactorOfUptoRow.holds Try.pinned (OpenSpec.upto fnExactFactorOfSpec)

/-- 'laws.FnExactConvertTo', WHERE WHAT IT READS IS OF BULK AT MOST 1048576: true; the input reads as it did. -/
def fnExactConvertToUptoRow : OpenClaim := { program := "ytfgkglbhbdfpfaa", sum := "ae60717a2ecb83d7be67bc27706b558108cbe4b69107b35a9ef3c5594b5b96ba", func := "loop.example/g00992/laws.FnExactConvertTo", spec := "fnExactConvertTo", apart := false, narrowed := true }
def FnExactConvertToUptoSaid : Prop := fnExactConvertToUptoRow.holds Try.pinned (OpenSpec.upto fnExactConvertToSpec)

/-- 'laws.FnExactIsConsistent', WHERE WHAT IT READS IS OF BULK AT MOST 1048576: true; the input reads as it did. -/
def fnExactIsConsistentUptoRow : OpenClaim := { program := "ytfgkglbhbdfpfaa", sum := "ae60717a2ecb83d7be67bc27706b558108cbe4b69107b35a9ef3c5594b5b96ba", func := "loop.example/g00992/laws.FnExactIsConsistent", spec := "fnExactIsConsistent", apart := false, narrowed := true }
def FnExactIsConsistentUptoSaid : Prop := fnExactIsConsistentUptoRow.holds Try.pinned (OpenSpec.upto fnExactIsConsistentSpec)

/-- 'laws.FnUnits', WHERE WHAT IT READS IS OF BULK AT MOST 1048576: true; the input reads as it did. -/
def fnUnitsUptoRow : OpenClaim := { program := "ytfgkglbhbdfpfaa", sum := "ae60717a2ecb83d7be67bc27706b558108cbe4b69107b35a9ef3c5594b5b96ba", func := "loop.example/g00992/laws.FnUnits", spec := "fnUnits", apart := false, narrowed := true }
def FnUnitsUptoSaid : Prop := fnUnitsUptoRow.holds Try.pinned (OpenSpec.upto fnUnitsSpec)

end Rows
end Go.Proofs.Ytfgkglbhbdfpfaa
