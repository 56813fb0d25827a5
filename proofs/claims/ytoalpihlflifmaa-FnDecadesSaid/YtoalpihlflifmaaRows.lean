/-
  No cell of these rows narrows 'for every input' (looked for: loops, veiled, ifaces, maps, wideKeys, modest, calm, conditions, laid).
  DERIVED. THE GIVEN ROWS OF THIS SEAT. 8 by the template 'for every input the law returns true; each argument reads behind the call as it read before'; 0 by the template 'total and deterministic' (their statements: YtoalpihlflifmaaTotals.lean).
  GIVEN WITH THE SEED: the statements are not yours to turn. If you find one false, say at which input.
  Laid BY PROGRAM, IN A SANDBOX (cutbox-rows.mjs): the forced cells as the released guide's own fill.sh prints them over the translation 35029054f389070d… (all of the seat's roots in one cut). By AI agents, Wed Nov 11 2026. No macro, syntax, notation, axiom, sorry.
-/
import Derived.Test.YtoalpihlflifmaaChecked
import GoSem.Claim
import GoSem.ClaimJoined
import GoSem.ClaimMapViews
import Derived.JoinedTies
import Derived.KernelRfl
namespace Go.Proofs.Ytoalpihlflifmaa
/- THE CELL 'sum', in the pinned program and in every row, IS THE sha256 OF THE DUMP (.gsa) THAT YtoalpihlflifmaaProg.lean LOADS. Nothing in Lean hashes anything: it is a label: what it is worth is what the hold of that sum in a sandbox is worth. -/
noncomputable def Try.pinned : Pinned := { name := "ytoalpihlflifmaa", sum := "35029054f389070d9cae181fde8f83f8e6f5e2f76c3c929dc67d5f368c7209ea", checked := Try.checked }
namespace Rows
def none {H : Type} : Left H := { results := [], args := [] }

/-- 'laws.FnExactAcceptChance': WHATEVER THE INPUT: true; the input reads as it did. -/
def fnExactAcceptChanceSpec : ChangeSpec := { name := "fnExactAcceptChance", fn := fun _ => fun
  | [d1, d2] => { results := [.lit (.bool true)], args := [d1, d2] }
  | _ => none }
def fnExactAcceptChanceRow : OpenClaim := { program := "ytoalpihlflifmaa", sum := "35029054f389070d9cae181fde8f83f8e6f5e2f76c3c929dc67d5f368c7209ea", func := "loop.example/g00992/laws.FnExactAcceptChance", spec := "fnExactAcceptChance", apart := false }
def FnExactAcceptChanceSaid : Prop := fnExactAcceptChanceRow.holds Try.pinned (OpenSpec.ofChange fnExactAcceptChanceSpec)

/-- ITS FALSE NEIGHBOUR: 'it returns false'. Refute it at one input. -/
def fnExactAcceptChanceWrong : ChangeSpec := { name := "fnExactAcceptChance", fn := fun _ => fun
  | [d1, d2] => { results := [.lit (.bool false)], args := [d1, d2] }
  | _ => none }
def FnExactAcceptChanceWrongFalsely : Prop := fnExactAcceptChanceRow.holds Try.pinned (OpenSpec.ofChange fnExactAcceptChanceWrong)

/-- 'laws.FnExactSumFractions': WHATEVER THE INPUT: true; the input reads as it did. -/
def fnExactSumFractionsSpec : ChangeSpec := { name := "fnExactSumFractions", fn := fun _ => fun
  | [d] => { results := [.lit (.bool true)], args := [d] }
  | _ => none }
def fnExactSumFractionsRow : OpenClaim := { program := "ytoalpihlflifmaa", sum := "35029054f389070d9cae181fde8f83f8e6f5e2f76c3c929dc67d5f368c7209ea", func := "loop.example/g00992/laws.FnExactSumFractions", spec := "fnExactSumFractions", apart := false }
def FnExactSumFractionsSaid : Prop := fnExactSumFractionsRow.holds Try.pinned (OpenSpec.ofChange fnExactSumFractionsSpec)

/-- ITS FALSE NEIGHBOUR: 'it returns false'. Refute it at one input. -/
def fnExactSumFractionsWrong : ChangeSpec := { name := "fnExactSumFractions", fn := fun _ => fun
  | [d] => { results := [.lit (.bool false)], args := [d] }
  | _ => none }
def FnExactSumFractionsWrongFalsely : Prop := fnExactSumFractionsRow.holds Try.pinned (OpenSpec.ofChange fnExactSumFractionsWrong)

/-- 'laws.FnExactHalveOnce': WHATEVER THE INPUT: true; the input reads as it did. -/
def fnExactHalveOnceSpec : ChangeSpec := { name := "fnExactHalveOnce", fn := fun _ => fun
  | [d1, d2] => { results := [.lit (.bool true)], args := [d1, d2] }
  | _ => none }
def fnExactHalveOnceRow : OpenClaim := { program := "ytoalpihlflifmaa", sum := "35029054f389070d9cae181fde8f83f8e6f5e2f76c3c929dc67d5f368c7209ea", func := "loop.example/g00992/laws.FnExactHalveOnce", spec := "fnExactHalveOnce", apart := false }
def FnExactHalveOnceSaid : Prop := fnExactHalveOnceRow.holds Try.pinned (OpenSpec.ofChange fnExactHalveOnceSpec)

/-- ITS FALSE NEIGHBOUR: 'it returns false'. Refute it at one input. -/
def fnExactHalveOnceWrong : ChangeSpec := { name := "fnExactHalveOnce", fn := fun _ => fun
  | [d1, d2] => { results := [.lit (.bool false)], args := [d1, d2] }
  | _ => none }
def FnExactHalveOnceWrongFalsely : Prop := fnExactHalveOnceRow.holds Try.pinned (OpenSpec.ofChange fnExactHalveOnceWrong)

/-- 'laws.FnExactHalveDown': WHATEVER THE INPUT: true; the input reads as it did. -/
def fnExactHalveDownSpec : ChangeSpec := { name := "fnExactHalveDown", fn := fun _ => fun
  | [d1, d2] => { results := [.lit (.bool true)], args := [d1, d2] }
  | _ => none }
def fnExactHalveDownRow : OpenClaim := { program := "ytoalpihlflifmaa", sum := "35029054f389070d9cae181fde8f83f8e6f5e2f76c3c929dc67d5f368c7209ea", func := "loop.example/g00992/laws.FnExactHalveDown", spec := "fnExactHalveDown", apart := false }
def FnExactHalveDownSaid : Prop := fnExactHalveDownRow.holds Try.pinned (OpenSpec.ofChange fnExactHalveDownSpec)

/-- ITS FALSE NEIGHBOUR: 'it returns false'. Refute it at one input. -/
def fnExactHalveDownWrong : ChangeSpec := { name := "fnExactHalveDown", fn := fun _ => fun
  | [d1, d2] => { results := [.lit (.bool false)], args := [d1, d2] }
  | _ => none }
def FnExactHalveDownWrongFalsely : Prop := fnExactHalveDownRow.holds Try.pinned (OpenSpec.ofChange fnExactHalveDownWrong)

/-- 'laws.FnExactDecadeOf': WHATEVER THE INPUT: true; the input reads as it did. -/
def fnExactDecadeOfSpec : ChangeSpec := { name := "fnExactDecadeOf", fn := fun _ => fun
  | [d1, d2] => { results := [.lit (.bool true)], args := [d1, d2] }
  | _ => none }
def fnExactDecadeOfRow : OpenClaim := { program := "ytoalpihlflifmaa", sum := "35029054f389070d9cae181fde8f83f8e6f5e2f76c3c929dc67d5f368c7209ea", func := "loop.example/g00992/laws.FnExactDecadeOf", spec := "fnExactDecadeOf", apart := false }
def FnExactDecadeOfSaid : Prop := fnExactDecadeOfRow.holds Try.pinned (OpenSpec.ofChange fnExactDecadeOfSpec)

/-- ITS FALSE NEIGHBOUR: 'it returns false'. Refute it at one input. -/
def fnExactDecadeOfWrong : ChangeSpec := { name := "fnExactDecadeOf", fn := fun _ => fun
  | [d1, d2] => { results := [.lit (.bool false)], args := [d1, d2] }
  | _ => none }
def FnExactDecadeOfWrongFalsely : Prop := fnExactDecadeOfRow.holds Try.pinned (OpenSpec.ofChange fnExactDecadeOfWrong)

/-- 'laws.FnDecades': WHATEVER THE INPUT: true; the input reads as it did. -/
def fnDecadesSpec : ChangeSpec := { name := "fnDecades", fn := fun _ => fun
  | [d] => { results := [.lit (.bool true)], args := [d] }
  | _ => none }
def fnDecadesRow : OpenClaim := { program := "ytoalpihlflifmaa", sum := "35029054f389070d9cae181fde8f83f8e6f5e2f76c3c929dc67d5f368c7209ea", func := "loop.example/g00992/laws.FnDecades", spec := "fnDecades", apart := false }
def FnDecadesSaid : Prop := fnDecadesRow.holds Try.pinned (OpenSpec.ofChange fnDecadesSpec)

/-- ITS FALSE NEIGHBOUR: 'it returns false'. Refute it at one input. -/
def fnDecadesWrong : ChangeSpec := { name := "fnDecades", fn := fun _ => fun
  | [d] => { results := [.lit (.bool false)], args := [d] }
  | _ => none }
def FnDecadesWrongFalsely : Prop := fnDecadesRow.holds Try.pinned (OpenSpec.ofChange fnDecadesWrong)

/-- 'laws.FnClasses': WHATEVER THE INPUT: true; the input reads as it did. -/
def fnClassesSpec : ChangeSpec := { name := "fnClasses", fn := fun _ => fun
  | [d] => { results := [.lit (.bool true)], args := [d] }
  | _ => none }
def fnClassesRow : OpenClaim := { program := "ytoalpihlflifmaa", sum := "35029054f389070d9cae181fde8f83f8e6f5e2f76c3c929dc67d5f368c7209ea", func := "loop.example/g00992/laws.FnClasses", spec := "fnClasses", apart := false }
def FnClassesSaid : Prop := fnClassesRow.holds Try.pinned (OpenSpec.ofChange fnClassesSpec)

/-- ITS FALSE NEIGHBOUR: 'it returns false'. Refute it at one input. -/
def fnClassesWrong : ChangeSpec := { name := "fnClasses", fn := fun _ => fun
  | [d] => { results := [.lit (.bool false)], args := [d] }
  | _ => none }
def FnClassesWrongFalsely : Prop := fnClassesRow.holds Try.pinned (OpenSpec.ofChange fnClassesWrong)

/-- 'laws.FnSamples': WHATEVER THE INPUT: true; the input reads as it did. -/
def fnSamplesSpec : ChangeSpec := { name := "fnSamples", fn := fun _ => fun
  | [d] => { results := [.lit (.bool true)], args := [d] }
  | _ => none }
def fnSamplesRow : OpenClaim := { program := "ytoalpihlflifmaa", sum := "35029054f389070d9cae181fde8f83f8e6f5e2f76c3c929dc67d5f368c7209ea", func := "loop.example/g00992/laws.FnSamples", spec := "fnSamples", apart := false }
def FnSamplesSaid : Prop := fnSamplesRow.holds Try.pinned (OpenSpec.ofChange fnSamplesSpec)

/-- ITS FALSE NEIGHBOUR: 'it returns false'. Refute it at one input. -/
def fnSamplesWrong : ChangeSpec := { name := "fnSamples", fn := fun _ => fun
  | [d] => { results := [.lit (.bool false)], args := [d] }
  | _ => none }
def FnSamplesWrongFalsely : Prop := fnSamplesRow.holds Try.pinned (OpenSpec.ofChange fnSamplesWrong)

/- THE SECOND FORM. 'bulk': how many values and letters a reading holds, each counted each time it is reached (what is shared counts as often as it is met; a slice's spare places count too). A statement '..UptoSaid' is the law's where the arguments, and the package variables that the reading takes, are together of bulk at most 1048576: NARROWER than '..Said'. Prove '..Said' where nothing that the law and all that it calls make is longer than what came in: it says more and counts as full. Else prove '..UptoSaid'. A law counts once. -/
mutual
def uptoBulk {H : Type} : DataW H → Nat
  | .lit (.string bytes) => bytes.length + 1
  | .lit _ => 1
  | .nil => 1
  | .ptr d => uptoBulk d + 1
  | .slice elems spare => uptoBulkAll elems + uptoBulkAll spare + 1
  | .agg parts => uptoBulkAll parts + 1
  | .iface _ d => uptoBulk d + 1
  | .map entries => uptoBulkEntries entries + 1
  | .held _ => 1
def uptoBulkAll {H : Type} : List (DataW H) → Nat
  | [] => 0
  | d :: r => uptoBulk d + uptoBulkAll r
def uptoBulkEntries {H : Type} : List (Lit × DataW H) → Nat
  | [] => 0
  | x :: r => uptoBulkEntry x + uptoBulkEntries r
def uptoBulkEntry {H : Type} : Lit × DataW H → Nat
  | (.string bytes, d) => bytes.length + uptoBulk d + 1
  | (_, d) => uptoBulk d + 1
 end
def uptoSmall : (H : Type) → List (DataW H) → Bool := fun _ ds => decide (uptoBulkAll ds ≤ 1048576)
def OpenSpec.upto (s : _root_.Go.ChangeSpec) : _root_.Go.OpenSpec := { _root_.Go.OpenSpec.ofChange s with cond := some uptoSmall }

/-- 'laws.FnExactAcceptChance', WHERE WHAT IT READS IS OF BULK AT MOST 1048576: true; the input reads as it did. -/
def fnExactAcceptChanceUptoRow : OpenClaim := { program := "ytoalpihlflifmaa", sum := "35029054f389070d9cae181fde8f83f8e6f5e2f76c3c929dc67d5f368c7209ea", func := "loop.example/g00992/laws.FnExactAcceptChance", spec := "fnExactAcceptChance", apart := false, narrowed := true }
def FnExactAcceptChanceUptoSaid : Prop := fnExactAcceptChanceUptoRow.holds Try.pinned (OpenSpec.upto fnExactAcceptChanceSpec)

/-- 'laws.FnExactSumFractions', WHERE WHAT IT READS IS OF BULK AT MOST 1048576: true; the input reads as it did. -/
def fnExactSumFractionsUptoRow : OpenClaim := { program := "ytoalpihlflifmaa", sum := "35029054f389070d9cae181fde8f83f8e6f5e2f76c3c929dc67d5f368c7209ea", func := "loop.example/g00992/laws.FnExactSumFractions", spec := "fnExactSumFractions", apart := false, narrowed := true }
def FnExactSumFractionsUptoSaid : Prop := fnExactSumFractionsUptoRow.holds Try.pinned (OpenSpec.upto fnExactSumFractionsSpec)

/-- 'laws.FnExactHalveOnce', WHERE WHAT IT READS IS OF BULK AT MOST 1048576: true; the input reads as it did. -/
def fnExactHalveOnceUptoRow : OpenClaim := { program := "ytoalpihlflifmaa", sum := "35029054f389070d9cae181fde8f83f8e6f5e2f76c3c929dc67d5f368c7209ea", func := "loop.example/g00992/laws.FnExactHalveOnce", spec := "fnExactHalveOnce", apart := false, narrowed := true }
def FnExactHalveOnceUptoSaid : Prop := fnExactHalveOnceUptoRow.holds Try.pinned (OpenSpec.upto fnExactHalveOnceSpec)

/-- 'laws.FnExactHalveDown', WHERE WHAT IT READS IS OF BULK AT MOST 1048576: true; the input reads as it did. -/
def fnExactHalveDownUptoRow : OpenClaim := { program := "ytoalpihlflifmaa", sum := "35029054f389070d9cae181fde8f83f8e6f5e2f76c3c929dc67d5f368c7209ea", func := "loop.example/g00992/laws.FnExactHalveDown", spec := "fnExactHalveDown", apart := false, narrowed := true }
def FnExactHalveDownUptoSaid : Prop := fnExactHalveDownUptoRow.holds Try.pinned (OpenSpec.upto fnExactHalveDownSpec)

/-- 'laws.FnExactDecadeOf', WHERE WHAT IT READS IS OF BULK AT MOST 1048576: true; the input reads as it did. -/
def fnExactDecadeOfUptoRow : OpenClaim := { program := "ytoalpihlflifmaa", sum := "35029054f389070d9cae181fde8f83f8e6f5e2f76c3c929dc67d5f368c7209ea", func := "loop.example/g00992/laws.FnExactDecadeOf", spec := "fnExactDecadeOf", apart := false, narrowed := true }
def FnExactDecadeOfUptoSaid : Prop := fnExactDecadeOfUptoRow.holds Try.pinned (OpenSpec.upto fnExactDecadeOfSpec)

/-- 'laws.FnDecades', WHERE WHAT IT READS IS OF BULK AT MOST 1048576: true; the input reads as it did. -/
def fnDecadesUptoRow : OpenClaim := { program := "ytoalpihlflifmaa", sum := "35029054f389070d9cae181fde8f83f8e6f5e2f76c3c929dc67d5f368c7209ea", func := "loop.example/g00992/laws.FnDecades", spec := "fnDecades", apart := false, narrowed := true }
def FnDecadesUptoSaid : Prop := fnDecadesUptoRow.holds Try.pinned (OpenSpec.upto fnDecadesSpec)

/-- 'laws.FnClasses', WHERE WHAT IT READS IS OF BULK AT MOST 1048576: true; the input reads as it did. -/
def fnClassesUptoRow : OpenClaim := { program := "ytoalpihlflifmaa", sum := "35029054f389070d9cae181fde8f83f8e6f5e2f76c3c929dc67d5f368c7209ea", func := "loop.example/g00992/laws.FnClasses", spec := "fnClasses", apart := false, narrowed := true }
def FnClassesUptoSaid : Prop := fnClassesUptoRow.holds Try.pinned (OpenSpec.upto fnClassesSpec)

/-- 'laws.FnSamples', WHERE WHAT IT READS IS OF BULK AT MOST 1048576: true; the input reads as it did. -/
def fnSamplesUptoRow : OpenClaim := { program := "ytoalpihlflifmaa", sum := "35029054f389070d9cae181fde8f83f8e6f5e2f76c3c929dc67d5f368c7209ea", func := "loop.example/g00992/laws.FnSamples", spec := "fnSamples", apart := false, narrowed := true }
def FnSamplesUptoSaid : Prop := fnSamplesUptoRow.holds Try.pinned (OpenSpec.upto fnSamplesSpec)

end Rows
end Go.Proofs.Ytoalpihlflifmaa
