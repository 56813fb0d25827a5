/- The walk of the law on CommonSpan: it returns true and leaves old memory alone. No conditions. -/
import Derived.Test.YtjkakoflfhjodaaCommon
import Derived.Test.YtjkakoflfhjodaaSpanS
namespace Go.Proofs.Ytjkakoflfhjodaa
open Go.RowKit
set_option linter.unusedSimpArgs false
set_option linter.unusedVariables false
set_option maxHeartbeats 1000000
theorem walkCommon (A : Option Addr) (n c : Nat) (v : Nat → Int) (w : World) (hm : n ≤ maxLen) (f0 : Fl w A n 2 v) : Calls Try.prog 4 #[.slice A n c] w fun e w' => e = .returned (.bool true) ∧ Below w.heap.size w w' := by
  have hB := Below.refl w.heap.size w
  by_cases hn : n ≤ 1048576
  · have hs : ∀ w, _ := fun w => szSpanS_any A n c hm w
    simp only [szB_yes hn] at hs
    obtain ⟨x, y, o, hv⟩ := comV_form n v
    have hS : ∀ A w, _ := fun A w => spec_Common A n n v w hn
    have hI : ∀ A w, _ := fun A w => impl_Common A n n v w
    simp only [hv] at hS hI
    clear hv
    have HS := Lib.hid hS; clear hS
    have HI := Lib.hid hI; clear hI
    go_enter Try.func4, Try.ntmps4
    ((go_wp2_with fail); (with_reducible refine (hs _).mono ?_); rintro _ _ ⟨rfl, rfl⟩)
    ((go_wp2_with fail); (with_reducible refine (toSpanS_any A n c v _ hn f0).mono ?_); rintro _ w1 ⟨g1, rfl, hg1, o1, hb⟩; replace f0 := Fl.below f0 hb; replace hB := below_step hB hb; clear hb)
    ((go_wp2_with fail); (with_reducible refine (HS.out _ _ (o1.fl (Nat.le_refl _))).mono ?_); rintro _ w1 ⟨rfl, hb⟩; replace f0 := Fl.below f0 hb; replace hB := below_step hB hb; clear hb)
    have hb : Below w1.heap.size w1 (w1.alloc (.cells #[.int .i64 x, .int .i64 y] 30)) := below_alloc (Below.refl _ _) _
    have c0 : (w1.alloc (.cells #[.int .i64 x, .int .i64 y] 30)).cell? ⟨w1.heap.size, 0, none⟩ = some (.int .i64 x) := by simp
    have c1 : (w1.alloc (.cells #[.int .i64 x, .int .i64 y] 30)).cell? ⟨w1.heap.size, 1, none⟩ = some (.int .i64 y) := by simp
    replace f0 := f0.below hb
    replace hB := below_step hB hb
    clear hb
    ((go_wp2_with fail); (with_reducible refine (toSpanS_any A n c v _ hn f0).mono ?_); rintro _ w1 ⟨g1, rfl, hg1, o1, hb⟩; replace f0 := Fl.below f0 hb; replace c0 := below_cell hb c0; replace c1 := below_cell hb c1; replace hB := below_step hB hb; clear hb)
    ((go_wp2_with fail); (with_reducible refine (HI.out _ _ (o1.fl (Nat.le_refl _))).mono ?_); rintro _ w1 ⟨rfl, hb⟩; replace f0 := Fl.below f0 hb; replace o1 := Own.below o1 hb; replace c0 := below_cell hb c0; replace c1 := below_cell hb c1; replace hB := below_step hB hb; clear hb)
    have hb : Below w1.heap.size w1 (w1.alloc (.cells #[.int .i64 x, .int .i64 y] 30)) := below_alloc (Below.refl _ _) _
    replace f0 := f0.below hb
    replace o1 := o1.below hb
    replace hB := below_step hB hb
    have l0 := lt_of_cell c0
    clear hb
    ((go_wp2_with fail); (with_reducible refine (eqSpan_true _ _ _).mono ?_); rintro _ w1 ⟨rfl, hb⟩; replace f0 := Fl.below f0 hb; replace o1 := Own.below o1 hb; replace hB := below_step hB hb; clear hb)
    ((go_wp2_with fail); (with_reducible refine (toSpanS_any A n c v _ hn f0).mono ?_); rintro _ w1 ⟨g2, rfl, hg2, o2, hb⟩; replace f0 := Fl.below f0 hb; replace o1 := Own.below o1 hb; replace hB := below_step hB hb; clear hb)
    ((go_wp2_with fail); (with_reducible refine (eqSpanS_true _ _ n n n v _ hn (o1.fl (Nat.le_refl _)) (o2.fl (Nat.le_refl _))).mono ?_); rintro _ w1 ⟨rfl, hb⟩; replace hB := below_step hB hb; clear hb)
    go_wp2_with fail
    go_ret
    exact ⟨rfl, hB⟩
  · have hs : ∀ w, _ := fun w => szSpanS_any A n c hm w
    simp only [szB_no hn] at hs
    go_enter Try.func4, Try.ntmps4
    ((go_wp2_with fail); (with_reducible refine (hs _).mono ?_); rintro _ _ ⟨rfl, rfl⟩)
    go_wp2_with fail
    go_ret
    exact ⟨rfl, hB⟩
end Go.Proofs.Ytjkakoflfhjodaa
