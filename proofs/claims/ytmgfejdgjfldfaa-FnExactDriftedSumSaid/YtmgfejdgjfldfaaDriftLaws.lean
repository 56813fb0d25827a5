/- The walks of the laws on SignSum, Eliminates and DriftedSum: each returns true and leaves old memory alone. No conditions. -/
import Derived.Test.YtmgfejdgjfldfaaDrift
import Derived.Test.YtmgfejdgjfldfaaIntS
namespace Go.Proofs.Ytmgfejdgjfldfaa
open Go.RowKit
set_option linter.unusedSimpArgs false
set_option linter.unusedVariables false
set_option maxHeartbeats 1000000
theorem walkSignSum (A : Option Addr) (n c : Nat) (v : Nat → Int) (d : Int) (w : World) (hm : n ≤ maxLen) (f0 : Fl w A n 1 v) : Calls Try.prog 4 #[.slice A n c, .int .i64 d] w fun e w' => e = .returned (.bool true) ∧ Below w.heap.size w w' := by
  have hB := Below.refl w.heap.size w
  unfold maxLen at hm
  by_cases hn : n ≤ 1048576
  · go_enter Try.func4, Try.ntmps4
    ((go_wp2_with fail); (with_reducible refine (toIntS_any A n c v _ hn f0).mono ?_); rintro _ w1 ⟨g1, rfl, hg1, o1, hb⟩; replace f0 := Fl.below f0 hb; replace hB := below_step hB hb; clear hb)
    ((go_wp2_with fail); (with_reducible refine (spec_SignSum _ n n v _ _ hn (o1.fl (Nat.le_refl _))).mono ?_); rintro _ _ ⟨rfl, rfl⟩)
    ((go_wp2_with fail); (with_reducible refine (toIntS_any A n c v _ hn f0).mono ?_); rintro _ w1 ⟨g1, rfl, hg1, o1, hb⟩; replace f0 := Fl.below f0 hb; replace hB := below_step hB hb; clear hb)
    ((go_wp2_with fail); (with_reducible refine (impl_SignSum _ n n v _ _ hn (o1.fl (Nat.le_refl _))).mono ?_); rintro _ _ ⟨rfl, rfl⟩)
    ((go_wp2_with fail); (with_reducible refine (toIntS_any A n c v _ hn f0).mono ?_); rintro _ w1 ⟨g2, rfl, hg2, o2, hb⟩; replace f0 := Fl.below f0 hb; replace o1 := Own.below o1 hb; replace hB := below_step hB hb; clear hb)
    ((go_wp2_with fail); (with_reducible refine (eqIntS_true _ _ n n n v _ hn (o1.fl (Nat.le_refl _)) (o2.fl (Nat.le_refl _))).mono ?_); rintro _ w1 ⟨rfl, hb⟩; replace hB := below_step hB hb; clear hb)
    go_wp2_with fail
    go_ret
    exact ⟨rfl, hB⟩
  · go_enter Try.func4, Try.ntmps4
    go_wp2_with fail
    go_ret
    exact ⟨rfl, hB⟩

theorem walkEliminates (A : Option Addr) (n c : Nat) (v : Nat → Int) (w : World) (hm : n ≤ maxLen) (f0 : Fl w A n 1 v) : Calls Try.prog 5 #[.slice A n c] w fun e w' => e = .returned (.bool true) ∧ Below w.heap.size w w' := by
  have hB := Below.refl w.heap.size w
  unfold maxLen at hm
  by_cases hn : n ≤ 1048576
  · go_enter Try.func5, Try.ntmps5
    ((go_wp2_with fail); (with_reducible refine (toIntS_any A n c v _ hn f0).mono ?_); rintro _ w1 ⟨g1, rfl, hg1, o1, hb⟩; replace f0 := Fl.below f0 hb; replace hB := below_step hB hb; clear hb)
    ((go_wp2_with fail); (with_reducible refine (spec_Eliminates _ n n v _ hn (o1.fl (Nat.le_refl _))).mono ?_); rintro _ _ ⟨rfl, rfl⟩)
    ((go_wp2_with fail); (with_reducible refine (toIntS_any A n c v _ hn f0).mono ?_); rintro _ w1 ⟨g1, rfl, hg1, o1, hb⟩; replace f0 := Fl.below f0 hb; replace hB := below_step hB hb; clear hb)
    ((go_wp2_with fail); (with_reducible refine (impl_Eliminates _ n n v _ hn (o1.fl (Nat.le_refl _))).mono ?_); rintro _ _ ⟨rfl, rfl⟩)
    ((go_wp2_with fail); (with_reducible refine (toIntS_any A n c v _ hn f0).mono ?_); rintro _ w1 ⟨g2, rfl, hg2, o2, hb⟩; replace f0 := Fl.below f0 hb; replace o1 := Own.below o1 hb; replace hB := below_step hB hb; clear hb)
    ((go_wp2_with fail); (with_reducible refine (eqIntS_true _ _ n n n v _ hn (o1.fl (Nat.le_refl _)) (o2.fl (Nat.le_refl _))).mono ?_); rintro _ w1 ⟨rfl, hb⟩; replace hB := below_step hB hb; clear hb)
    go_wp2_with fail
    go_ret
    exact ⟨rfl, hB⟩
  · go_enter Try.func5, Try.ntmps5
    go_wp2_with fail
    go_ret
    exact ⟨rfl, hB⟩

theorem walkDriftedSum (A : Option Addr) (n c : Nat) (v : Nat → Int) (A' : Option Addr) (m c' : Nat) (u : Nat → Int) (w : World) (hm : n ≤ maxLen) (f0 : Fl w A n 1 v) (hm' : m ≤ maxLen) (f1 : Fl w A' m 1 u) :
    Calls Try.prog 6 #[.slice A n c, .slice A' m c'] w fun e w' => e = .returned (.bool true) ∧ Below w.heap.size w w' := by
  have hB := Below.refl w.heap.size w
  unfold maxLen at hm hm'
  by_cases hn : n ≤ 1048576
  · by_cases hn' : m ≤ 1048576
    · go_enter Try.func6, Try.ntmps6
      ((go_wp2_with fail); (with_reducible refine (toIntS_any A n c v _ hn f0).mono ?_); rintro _ w1 ⟨g1, rfl, hg1, o1, hb⟩; replace f0 := Fl.below f0 hb; replace f1 := Fl.below f1 hb; replace hB := below_step hB hb; clear hb)
      ((go_wp2_with fail); (with_reducible refine (toIntS_any A' m c' u _ hn' f1).mono ?_); rintro _ w1 ⟨g2, rfl, hg2, o2, hb⟩; replace f0 := Fl.below f0 hb; replace f1 := Fl.below f1 hb; replace o1 := Own.below o1 hb; replace hB := below_step hB hb; clear hb)
      ((go_wp2_with fail); (with_reducible refine (spec_DriftedSum _ _ n n m m v u _ hn hn' (o1.fl (Nat.le_refl _)) (o2.fl (Nat.le_refl _))).mono ?_); rintro _ w1 ⟨rfl, hb⟩; replace f0 := Fl.below f0 hb; replace f1 := Fl.below f1 hb; replace hB := below_step hB hb; clear hb)
      ((go_wp2_with fail); (with_reducible refine (toIntS_any A n c v _ hn f0).mono ?_); rintro _ w1 ⟨g1, rfl, hg1, o1, hb⟩; replace f0 := Fl.below f0 hb; replace f1 := Fl.below f1 hb; replace hB := below_step hB hb; clear hb)
      ((go_wp2_with fail); (with_reducible refine (toIntS_any A' m c' u _ hn' f1).mono ?_); rintro _ w1 ⟨g2, rfl, hg2, o2, hb⟩; replace f0 := Fl.below f0 hb; replace f1 := Fl.below f1 hb; replace o1 := Own.below o1 hb; replace hB := below_step hB hb; clear hb)
      ((go_wp2_with fail); (with_reducible refine (impl_DriftedSum _ _ n n m m v u _ hn hn' (o1.fl (Nat.le_refl _)) (o2.fl (Nat.le_refl _))).mono ?_); rintro _ _ ⟨rfl, rfl⟩)
      ((go_wp2_with fail); (with_reducible refine (toIntS_any A n c v _ hn f0).mono ?_); rintro _ w1 ⟨g3, rfl, hg3, o3, hb⟩; replace f0 := Fl.below f0 hb; replace f1 := Fl.below f1 hb; replace o1 := Own.below o1 hb; replace o2 := Own.below o2 hb; replace hB := below_step hB hb; clear hb)
      ((go_wp2_with fail); (with_reducible refine (eqIntS_true _ _ n n n v _ hn (o1.fl (Nat.le_refl _)) (o3.fl (Nat.le_refl _))).mono ?_); rintro _ w1 ⟨rfl, hb⟩; replace f0 := Fl.below f0 hb; replace f1 := Fl.below f1 hb; replace o1 := Own.below o1 hb; replace o2 := Own.below o2 hb; replace hB := below_step hB hb; clear hb)
      ((go_wp2_with fail); (with_reducible refine (toIntS_any A' m c' u _ hn' f1).mono ?_); rintro _ w1 ⟨g4, rfl, hg4, o4, hb⟩; replace f0 := Fl.below f0 hb; replace f1 := Fl.below f1 hb; replace o1 := Own.below o1 hb; replace o2 := Own.below o2 hb; replace hB := below_step hB hb; clear hb)
      ((go_wp2_with fail); (with_reducible refine (eqIntS_true _ _ m m m u _ hn' (o2.fl (Nat.le_refl _)) (o4.fl (Nat.le_refl _))).mono ?_); rintro _ w1 ⟨rfl, hb⟩; replace hB := below_step hB hb; clear hb)
      go_wp2_with fail
      go_ret
      exact ⟨rfl, hB⟩
    · go_enter Try.func6, Try.ntmps6
      go_wp2_with fail
      go_ret
      exact ⟨rfl, hB⟩
  · go_enter Try.func6, Try.ntmps6
    go_wp2_with fail
    go_ret
    exact ⟨rfl, hB⟩
end Go.Proofs.Ytmgfejdgjfldfaa
