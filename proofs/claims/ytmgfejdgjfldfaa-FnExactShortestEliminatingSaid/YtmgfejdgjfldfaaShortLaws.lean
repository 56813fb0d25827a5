/- The walk of the law on ShortestEliminating: it returns true and leaves old memory alone. No conditions. -/
import Derived.Test.YtmgfejdgjfldfaaShort
namespace Go.Proofs.Ytmgfejdgjfldfaa
open Go.RowKit
set_option linter.unusedSimpArgs false
set_option linter.unusedVariables false
set_option maxHeartbeats 1000000
theorem walkShort (n : Int) (w : World) : Calls Try.prog 7 #[.int .i64 n] w fun e w' => e = .returned (.bool true) ∧ Below w.heap.size w w' := by
  have hB := Below.refl w.heap.size w
  go_enter Try.func7, Try.ntmps7
  ((go_wp2_with fail); (with_reducible refine (spec_Short n _).mono ?_); rintro _ w1 ⟨rfl, hb⟩; replace hB := below_step hB hb; clear hb)
  ((go_wp2_with fail); (with_reducible refine (impl_Short n _).mono ?_); rintro _ w1 ⟨rfl, hb⟩; replace hB := below_step hB hb; clear hb)
  go_wp2_with fail
  go_ret
  exact ⟨rfl, hB⟩
end Go.Proofs.Ytmgfejdgjfldfaa
