/- The walk of the law on SumFractions: it returns true and leaves old memory alone. No conditions. -/
import Derived.Test.YtoalpihlflifmaaSumF
import Derived.Test.YtoalpihlflifmaaFractionS
namespace Go.Proofs.Ytoalpihlflifmaa
open Go.RowKit
set_option linter.unusedSimpArgs false
set_option linter.unusedVariables false
set_option maxHeartbeats 1000000
theorem sumV_form (n : Nat) (v : Nat → Int) : ∃ (X Y : Int) (O : Bool), sumV n v = .tuple #[.agg #[.int .i64 X, .int .i64 Y], .bool O] := by
  unfold sumV; split
  · exact ⟨_, _, _, rfl⟩
  · exact ⟨0, 0, false, rfl⟩
theorem walkSum (A : Option Addr) (n c : Nat) (v : Nat → Int) (w : World) (hm : n ≤ maxLen) (f0 : Fl w A n 2 v) : Calls Try.prog 4 #[.slice A n c] w fun e w' => e = .returned (.bool true) ∧ Below w.heap.size w w' := by
  have hB := Below.refl w.heap.size w
  by_cases hn : n ≤ 1048576
  · have hs : ∀ w, _ := fun w => szFractionS_any A n c hm w
    simp only [szB_yes hn] at hs
    have hS := fun A c w f => spec_Sum A n c v w hn f
    have hI := fun A c w f => impl_Sum A n c v w hn f
    obtain ⟨X, Y, O, hv⟩ := sumV_form n v
    simp only [hv] at hS hI
    clear hv
    have ob : (O != O) = false := by simp
    go_enter Try.func4, Try.ntmps4
    ((go_wp2_with fail); (with_reducible refine (hs _).mono ?_); rintro _ _ ⟨rfl, rfl⟩)
    ((go_wp2_with fail); (with_reducible refine (toFractionS_any A n c v _ hn f0).mono ?_); rintro _ w1 ⟨g1, rfl, hg1, o1, hb⟩; replace f0 := Fl.below f0 hb; replace hB := below_step hB hb; clear hb)
    ((go_wp2_with fail); (with_reducible refine (hS _ n _ (o1.fl (Nat.le_refl _))).mono ?_); rintro _ w1 ⟨rfl, hb⟩; replace f0 := Fl.below f0 hb; replace hB := below_step hB hb; clear hb)
    have hb := below_alloc (Below.refl w1.heap.size w1) (.cells #[.int .i64 X, .int .i64 Y] 25)
    have c0 : (w1.alloc (.cells #[.int .i64 X, .int .i64 Y] 25)).cell? ⟨w1.heap.size, 0, none⟩ = some (.int .i64 X) := by simp [go_sem]
    have c1 : (w1.alloc (.cells #[.int .i64 X, .int .i64 Y] 25)).cell? ⟨w1.heap.size, 1, none⟩ = some (.int .i64 Y) := by simp [go_sem]
    (skip; replace f0 := Fl.below f0 hb; replace hB := below_step hB hb; clear hb)
    ((go_wp2_with fail); (with_reducible refine (toFractionS_any A n c v _ hn f0).mono ?_); rintro _ w1 ⟨g2, rfl, hg2, o2, hb⟩; replace c0 := below_cell hb c0; replace c1 := below_cell hb c1; replace f0 := Fl.below f0 hb; replace hB := below_step hB hb; clear hb)
    ((go_wp2_with fail); (with_reducible refine (hI _ n _ (o2.fl (Nat.le_refl _))).mono ?_); rintro _ w1 ⟨rfl, hb⟩; replace c0 := below_cell hb c0; replace c1 := below_cell hb c1; replace f0 := Fl.below f0 hb; replace o2 := Own.below o2 hb; replace hB := below_step hB hb; clear hb)
    have hb := below_alloc (Below.refl w1.heap.size w1) (.cells #[.int .i64 X, .int .i64 Y] 25)
    have c2 : (w1.alloc (.cells #[.int .i64 X, .int .i64 Y] 25)).cell? ⟨w1.heap.size, 0, none⟩ = some (.int .i64 X) := by simp [go_sem]
    have c3 : (w1.alloc (.cells #[.int .i64 X, .int .i64 Y] 25)).cell? ⟨w1.heap.size, 1, none⟩ = some (.int .i64 Y) := by simp [go_sem]
    (skip; replace c0 := below_cell hb c0; replace c1 := below_cell hb c1; replace f0 := Fl.below f0 hb; replace o2 := Own.below o2 hb; replace hB := below_step hB hb; clear hb)
    ((go_wp2_with fail); (with_reducible refine (eqFraction_true _ _ _).mono ?_); rintro _ w1 ⟨rfl, hb⟩; replace f0 := Fl.below f0 hb; replace o2 := Own.below o2 hb; replace hB := below_step hB hb; clear hb)
    ((go_wp2_with fail); (with_reducible refine (toFractionS_any A n c v _ hn f0).mono ?_); rintro _ w1 ⟨g3, rfl, hg3, o3, hb⟩; replace o2 := Own.below o2 hb; replace hB := below_step hB hb; clear hb)
    ((go_wp2_with fail); (with_reducible refine (eqFractionS_true _ _ n n n v _ hn (o2.fl (Nat.le_refl _)) (o3.fl (Nat.le_refl _))).mono ?_); rintro _ w1 ⟨rfl, hb⟩; replace hB := below_step hB hb; clear hb)
    go_wp2_with fail
    go_ret
    exact ⟨rfl, hB⟩
  · have hs : ∀ w, _ := fun w => szFractionS_any A n c hm w
    simp only [szB_no hn] at hs
    go_enter Try.func4, Try.ntmps4
    ((go_wp2_with fail); (with_reducible refine (hs _).mono ?_); rintro _ _ ⟨rfl, rfl⟩)
    go_wp2_with fail
    go_ret
    exact ⟨rfl, hB⟩
end Go.Proofs.Ytoalpihlflifmaa
