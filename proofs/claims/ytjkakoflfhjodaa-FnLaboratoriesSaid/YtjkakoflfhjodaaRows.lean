/-
  No cell of these rows narrows 'for every input' (looked for: loops, veiled, ifaces, maps, wideKeys, modest, calm, conditions, laid).
  DERIVED. THE GIVEN ROWS OF THIS SEAT. 8 by the template 'for every input the law returns true; each argument reads behind the call as it read before'; 0 by the template 'total and deterministic' (their statements: YtjkakoflfhjodaaTotals.lean).
  GIVEN WITH THE SEED: the statements are not yours to turn. If you find one false, say at which input.
  Laid BY PROGRAM, IN A SANDBOX (cutbox-rows.mjs): the forced cells as the released guide's own fill.sh prints them over the translation 78584e01a534cb61… (all of the seat's roots in one cut). By AI agents, Wed Nov 11 2026. No macro, syntax, notation, axiom, sorry.
-/
import Derived.Test.YtjkakoflfhjodaaChecked
import GoSem.Claim
import GoSem.ClaimJoined
import GoSem.ClaimMapViews
import Derived.JoinedTies
import Derived.KernelRfl
namespace Go.Proofs.Ytjkakoflfhjodaa
/- THE CELL 'sum', in the pinned program and in every row, IS THE sha256 OF THE DUMP (.gsa) THAT YtjkakoflfhjodaaProg.lean LOADS. Nothing in Lean hashes anything: it is a label: what it is worth is what the hold of that sum in a sandbox is worth. -/
noncomputable def Try.pinned : Pinned := { name := "ytjkakoflfhjodaa", sum := "78584e01a534cb61fb198cb78b653bb7c9be1ead89d523f8f38437a21957be65", checked := Try.checked }
namespace Rows
def none {H : Type} : Left H := { results := [], args := [] }

/-- 'laws.FnExactSpansOk': WHATEVER THE INPUT: true; the input reads as it did. -/
def fnExactSpansOkSpec : ChangeSpec := { name := "fnExactSpansOk", fn := fun _ => fun
  | [d] => { results := [.lit (.bool true)], args := [d] }
  | _ => none }
def fnExactSpansOkRow : OpenClaim := { program := "ytjkakoflfhjodaa", sum := "78584e01a534cb61fb198cb78b653bb7c9be1ead89d523f8f38437a21957be65", func := "loop.example/g00992/laws.FnExactSpansOk", spec := "fnExactSpansOk", apart := false }
def FnExactSpansOkSaid : Prop := fnExactSpansOkRow.holds Try.pinned (OpenSpec.ofChange fnExactSpansOkSpec)

/-- ITS FALSE NEIGHBOUR: 'it returns false'. Refute it at one input. -/
def fnExactSpansOkWrong : ChangeSpec := { name := "fnExactSpansOk", fn := fun _ => fun
  | [d] => { results := [.lit (.bool false)], args := [d] }
  | _ => none }
def FnExactSpansOkWrongFalsely : Prop := fnExactSpansOkRow.holds Try.pinned (OpenSpec.ofChange fnExactSpansOkWrong)

/-- 'laws.FnExactCommonSpan': WHATEVER THE INPUT: true; the input reads as it did. -/
def fnExactCommonSpanSpec : ChangeSpec := { name := "fnExactCommonSpan", fn := fun _ => fun
  | [d] => { results := [.lit (.bool true)], args := [d] }
  | _ => none }
def fnExactCommonSpanRow : OpenClaim := { program := "ytjkakoflfhjodaa", sum := "78584e01a534cb61fb198cb78b653bb7c9be1ead89d523f8f38437a21957be65", func := "loop.example/g00992/laws.FnExactCommonSpan", spec := "fnExactCommonSpan", apart := false }
def FnExactCommonSpanSaid : Prop := fnExactCommonSpanRow.holds Try.pinned (OpenSpec.ofChange fnExactCommonSpanSpec)

/-- ITS FALSE NEIGHBOUR: 'it returns false'. Refute it at one input. -/
def fnExactCommonSpanWrong : ChangeSpec := { name := "fnExactCommonSpan", fn := fun _ => fun
  | [d] => { results := [.lit (.bool false)], args := [d] }
  | _ => none }
def FnExactCommonSpanWrongFalsely : Prop := fnExactCommonSpanRow.holds Try.pinned (OpenSpec.ofChange fnExactCommonSpanWrong)

/-- 'laws.FnExactDoPairsAgree': WHATEVER THE INPUT: true; the input reads as it did. -/
def fnExactDoPairsAgreeSpec : ChangeSpec := { name := "fnExactDoPairsAgree", fn := fun _ => fun
  | [d] => { results := [.lit (.bool true)], args := [d] }
  | _ => none }
def fnExactDoPairsAgreeRow : OpenClaim := { program := "ytjkakoflfhjodaa", sum := "78584e01a534cb61fb198cb78b653bb7c9be1ead89d523f8f38437a21957be65", func := "loop.example/g00992/laws.FnExactDoPairsAgree", spec := "fnExactDoPairsAgree", apart := false }
def FnExactDoPairsAgreeSaid : Prop := fnExactDoPairsAgreeRow.holds Try.pinned (OpenSpec.ofChange fnExactDoPairsAgreeSpec)

/-- ITS FALSE NEIGHBOUR: 'it returns false'. Refute it at one input. -/
def fnExactDoPairsAgreeWrong : ChangeSpec := { name := "fnExactDoPairsAgree", fn := fun _ => fun
  | [d] => { results := [.lit (.bool false)], args := [d] }
  | _ => none }
def FnExactDoPairsAgreeWrongFalsely : Prop := fnExactDoPairsAgreeRow.holds Try.pinned (OpenSpec.ofChange fnExactDoPairsAgreeWrong)

/-- 'laws.FnExactMostAgreeing': WHATEVER THE INPUT: true; the input reads as it did. -/
def fnExactMostAgreeingSpec : ChangeSpec := { name := "fnExactMostAgreeing", fn := fun _ => fun
  | [d] => { results := [.lit (.bool true)], args := [d] }
  | _ => none }
def fnExactMostAgreeingRow : OpenClaim := { program := "ytjkakoflfhjodaa", sum := "78584e01a534cb61fb198cb78b653bb7c9be1ead89d523f8f38437a21957be65", func := "loop.example/g00992/laws.FnExactMostAgreeing", spec := "fnExactMostAgreeing", apart := false }
def FnExactMostAgreeingSaid : Prop := fnExactMostAgreeingRow.holds Try.pinned (OpenSpec.ofChange fnExactMostAgreeingSpec)

/-- ITS FALSE NEIGHBOUR: 'it returns false'. Refute it at one input. -/
def fnExactMostAgreeingWrong : ChangeSpec := { name := "fnExactMostAgreeing", fn := fun _ => fun
  | [d] => { results := [.lit (.bool false)], args := [d] }
  | _ => none }
def FnExactMostAgreeingWrongFalsely : Prop := fnExactMostAgreeingRow.holds Try.pinned (OpenSpec.ofChange fnExactMostAgreeingWrong)

/-- 'laws.FnExactMostApart': WHATEVER THE INPUT: true; the input reads as it did. -/
def fnExactMostApartSpec : ChangeSpec := { name := "fnExactMostApart", fn := fun _ => fun
  | [d] => { results := [.lit (.bool true)], args := [d] }
  | _ => none }
def fnExactMostApartRow : OpenClaim := { program := "ytjkakoflfhjodaa", sum := "78584e01a534cb61fb198cb78b653bb7c9be1ead89d523f8f38437a21957be65", func := "loop.example/g00992/laws.FnExactMostApart", spec := "fnExactMostApart", apart := false }
def FnExactMostApartSaid : Prop := fnExactMostApartRow.holds Try.pinned (OpenSpec.ofChange fnExactMostApartSpec)

/-- ITS FALSE NEIGHBOUR: 'it returns false'. Refute it at one input. -/
def fnExactMostApartWrong : ChangeSpec := { name := "fnExactMostApart", fn := fun _ => fun
  | [d] => { results := [.lit (.bool false)], args := [d] }
  | _ => none }
def FnExactMostApartWrongFalsely : Prop := fnExactMostApartRow.holds Try.pinned (OpenSpec.ofChange fnExactMostApartWrong)

/-- 'laws.FnExactFewestPoints': WHATEVER THE INPUT: true; the input reads as it did. -/
def fnExactFewestPointsSpec : ChangeSpec := { name := "fnExactFewestPoints", fn := fun _ => fun
  | [d] => { results := [.lit (.bool true)], args := [d] }
  | _ => none }
def fnExactFewestPointsRow : OpenClaim := { program := "ytjkakoflfhjodaa", sum := "78584e01a534cb61fb198cb78b653bb7c9be1ead89d523f8f38437a21957be65", func := "loop.example/g00992/laws.FnExactFewestPoints", spec := "fnExactFewestPoints", apart := false }
def FnExactFewestPointsSaid : Prop := fnExactFewestPointsRow.holds Try.pinned (OpenSpec.ofChange fnExactFewestPointsSpec)

/-- ITS FALSE NEIGHBOUR: 'it returns false'. Refute it at one input. -/
def fnExactFewestPointsWrong : ChangeSpec := { name := "fnExactFewestPoints", fn := fun _ => fun
  | [d] => { results := [.lit (.bool false)], args := [d] }
  | _ => none }
def FnExactFewestPointsWrongFalsely : Prop := fnExactFewestPointsRow.holds Try.pinned (OpenSpec.ofChange fnExactFewestPointsWrong)

/-- 'laws.FnExactOddOnes': WHATEVER THE INPUT: true; the input reads as it did. -/
def fnExactOddOnesSpec : ChangeSpec := { name := "fnExactOddOnes", fn := fun _ => fun
  | [d] => { results := [.lit (.bool true)], args := [d] }
  | _ => none }
def fnExactOddOnesRow : OpenClaim := { program := "ytjkakoflfhjodaa", sum := "78584e01a534cb61fb198cb78b653bb7c9be1ead89d523f8f38437a21957be65", func := "loop.example/g00992/laws.FnExactOddOnes", spec := "fnExactOddOnes", apart := false }
def FnExactOddOnesSaid : Prop := fnExactOddOnesRow.holds Try.pinned (OpenSpec.ofChange fnExactOddOnesSpec)

/-- ITS FALSE NEIGHBOUR: 'it returns false'. Refute it at one input. -/
def fnExactOddOnesWrong : ChangeSpec := { name := "fnExactOddOnes", fn := fun _ => fun
  | [d] => { results := [.lit (.bool false)], args := [d] }
  | _ => none }
def FnExactOddOnesWrongFalsely : Prop := fnExactOddOnesRow.holds Try.pinned (OpenSpec.ofChange fnExactOddOnesWrong)

/-- 'laws.FnLaboratories': WHATEVER THE INPUT: true; the input reads as it did. -/
def fnLaboratoriesSpec : ChangeSpec := { name := "fnLaboratories", fn := fun _ => fun
  | [d] => { results := [.lit (.bool true)], args := [d] }
  | _ => none }
def fnLaboratoriesRow : OpenClaim := { program := "ytjkakoflfhjodaa", sum := "78584e01a534cb61fb198cb78b653bb7c9be1ead89d523f8f38437a21957be65", func := "loop.example/g00992/laws.FnLaboratories", spec := "fnLaboratories", apart := false }
def FnLaboratoriesSaid : Prop := fnLaboratoriesRow.holds Try.pinned (OpenSpec.ofChange fnLaboratoriesSpec)

/-- ITS FALSE NEIGHBOUR: 'it returns false'. Refute it at one input. -/
def fnLaboratoriesWrong : ChangeSpec := { name := "fnLaboratories", fn := fun _ => fun
  | [d] => { results := [.lit (.bool false)], args := [d] }
  | _ => none }
def FnLaboratoriesWrongFalsely : Prop := fnLaboratoriesRow.holds Try.pinned (OpenSpec.ofChange fnLaboratoriesWrong)

/- THE SECOND FORM. 'bulk': how many values and letters a reading holds, each counted each time it is reached (what is shared counts as often as it is met; a slice's spare places count too). A statement '..UptoSaid' is the law's where the arguments, and the package variables that the reading takes, are together of bulk at most 1048576: NARROWER than '..Said'. Prove '..Said' where nothing that the law and all that it calls make is longer than what came in: it says more and counts as full. Else prove '..UptoSaid'. A law counts once. -/
mutual
def uptoBulk {H : Type} : DataW H → Nat
  | .lit (.string bytes) => bytes.length + 1
  | .lit _ => 1
  | .nil => 1
  | .ptr d => uptoBulk d + 1
  | .slice elems spare => uptoBulkAll elems + uptoBulkAll spare + 1
  | .agg parts => uptoBulkAll parts + 1
  | .iface _ d => uptoBulk d + 1
  | .map entries => uptoBulkEntries entries + 1
  | .held _ => 1
def uptoBulkAll {H : Type} : List (DataW H) → Nat
  | [] => 0
  | d :: r => uptoBulk d + uptoBulkAll r
def uptoBulkEntries {H : Type} : List (Lit × DataW H) → Nat
  | [] => 0
  | x :: r => uptoBulkEntry x + uptoBulkEntries r
def uptoBulkEntry {H : Type} : Lit × DataW H → Nat
  | (.string bytes, d) => bytes.length + uptoBulk d + 1
  | (_, d) => uptoBulk d + 1
 end
def uptoSmall : (H : Type) → List (DataW H) → Bool := fun _ ds => decide (uptoBulkAll ds ≤ 1048576)
def OpenSpec.upto (s : _root_.Go.ChangeSpec) : _root_.Go.OpenSpec := { _root_.Go.OpenSpec.ofChange s with cond := some uptoSmall }

/-- 'laws.FnExactSpansOk', WHERE WHAT IT READS IS OF BULK AT MOST 1048576: true; the input reads as it did. -/
def fnExactSpansOkUptoRow : OpenClaim := { program := "ytjkakoflfhjodaa", sum := "78584e01a534cb61fb198cb78b653bb7c9be1ead89d523f8f38437a21957be65", func := "loop.example/g00992/laws.FnExactSpansOk", spec := "fnExactSpansOk", apart := false, narrowed := true }
def FnExactSpansOkUptoSaid : Prop := fnExactSpansOkUptoRow.holds Try.pinned (OpenSpec.upto fnExactSpansOkSpec)

/-- 'laws.FnExactCommonSpan', WHERE WHAT IT READS IS OF BULK AT MOST 1048576: true; the input reads as it did. -/
def fnExactCommonSpanUptoRow : OpenClaim := { program := "ytjkakoflfhjodaa", sum := "78584e01a534cb61fb198cb78b653bb7c9be1ead89d523f8f38437a21957be65", func := "loop.example/g00992/laws.FnExactCommonSpan", spec := "fnExactCommonSpan", apart := false, narrowed := true }
def FnExactCommonSpanUptoSaid : Prop := fnExactCommonSpanUptoRow.holds Try.pinned (OpenSpec.upto fnExactCommonSpanSpec)

/-- 'laws.FnExactDoPairsAgree', WHERE WHAT IT READS IS OF BULK AT MOST 1048576: true; the input reads as it did. -/
def fnExactDoPairsAgreeUptoRow : OpenClaim := { program := "ytjkakoflfhjodaa", sum := "78584e01a534cb61fb198cb78b653bb7c9be1ead89d523f8f38437a21957be65", func := "loop.example/g00992/laws.FnExactDoPairsAgree", spec := "fnExactDoPairsAgree", apart := false, narrowed := true }
def FnExactDoPairsAgreeUptoSaid : Prop := fnExactDoPairsAgreeUptoRow.holds Try.pinned (OpenSpec.upto fnExactDoPairsAgreeSpec)

/-- 'laws.FnExactMostAgreeing', WHERE WHAT IT READS IS OF BULK AT MOST 1048576: true; the input reads as it did. -/
def fnExactMostAgreeingUptoRow : OpenClaim := { program := "ytjkakoflfhjodaa", sum := "78584e01a534cb61fb198cb78b653bb7c9be1ead89d523f8f38437a21957be65", func := "loop.example/g00992/laws.FnExactMostAgreeing", spec := "fnExactMostAgreeing", apart := false, narrowed := true }
def FnExactMostAgreeingUptoSaid : Prop := fnExactMostAgreeingUptoRow.holds Try.pinned (OpenSpec.upto fnExactMostAgreeingSpec)

/-- 'laws.FnExactMostApart', WHERE WHAT IT READS IS OF BULK AT MOST 1048576: true; the input reads as it did. -/
def fnExactMostApartUptoRow : OpenClaim := { program := "ytjkakoflfhjodaa", sum := "78584e01a534cb61fb198cb78b653bb7c9be1ead89d523f8f38437a21957be65", func := "loop.example/g00992/laws.FnExactMostApart", spec := "fnExactMostApart", apart := false, narrowed := true }
def FnExactMostApartUptoSaid : Prop := fnExactMostApartUptoRow.holds Try.pinned (OpenSpec.upto fnExactMostApartSpec)

/-- 'laws.FnExactFewestPoints', WHERE WHAT IT READS IS OF BULK AT MOST 1048576: true; the input reads as it did. -/
def fnExactFewestPointsUptoRow : OpenClaim := { program := "ytjkakoflfhjodaa", sum := "78584e01a534cb61fb198cb78b653bb7c9be1ead89d523f8f38437a21957be65", func := "loop.example/g00992/laws.FnExactFewestPoints", spec := "fnExactFewestPoints", apart := false, narrowed := true }
def FnExactFewestPointsUptoSaid : Prop := fnExactFewestPointsUptoRow.holds Try.pinned (OpenSpec.upto fnExactFewestPointsSpec)

/-- 'laws.FnExactOddOnes', WHERE WHAT IT READS IS OF BULK AT MOST 1048576: true; the input reads as it did. -/
def fnExactOddOnesUptoRow : OpenClaim := { program := "ytjkakoflfhjodaa", sum := "78584e01a534cb61fb198cb78b653bb7c9be1ead89d523f8f38437a21957be65", func := "loop.example/g00992/laws.FnExactOddOnes", spec := "fnExactOddOnes", apart := false, narrowed := true }
def FnExactOddOnesUptoSaid : Prop := fnExactOddOnesUptoRow.holds Try.pinned (OpenSpec.upto fnExactOddOnesSpec)

/-- 'laws.FnLaboratories', WHERE WHAT IT READS IS OF BULK AT MOST 1048576: true; the input reads as it did. -/
def fnLaboratoriesUptoRow : OpenClaim := { program := "ytjkakoflfhjodaa", sum := "78584e01a534cb61fb198cb78b653bb7c9be1ead89d523f8f38437a21957be65", func := "loop.example/g00992/laws.FnLaboratories", spec := "fnLaboratories", apart := false, narrowed := true }
def FnLaboratoriesUptoSaid : Prop := fnLaboratoriesUptoRow.holds Try.pinned (OpenSpec.upto fnLaboratoriesSpec)

end Rows
end Go.Proofs.Ytjkakoflfhjodaa
