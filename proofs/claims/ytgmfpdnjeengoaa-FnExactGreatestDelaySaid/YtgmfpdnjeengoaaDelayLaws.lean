/- The walk of the law on GreatestDelay: it returns true and leaves old memory alone. No conditions. -/
import Derived.Test.YtgmfpdnjeengoaaDelay
import Derived.Test.YtgmfpdnjeengoaaVisitS
namespace Go.Proofs.Ytgmfpdnjeengoaa
open Go.RowKit
set_option linter.unusedSimpArgs false
set_option linter.unusedVariables false
set_option maxHeartbeats 1000000
theorem walkDelay (A : Option Addr) (n c : Nat) (v : Nat → Int) (A' : Option Addr) (N c' : Nat) (z : Nat → Int) (w : World) (hm : n ≤ maxLen) (f0 : Fl w A n 2 v) (hM : N ≤ maxLen) (f1 : Fl w A' N 1 z) : Calls Try.prog 11 #[.slice A n c, .slice A' N c'] w fun e w' => e = .returned (.bool true) ∧ Below w.heap.size w w' := by
  have hB := Below.refl w.heap.size w
  by_cases hN : N ≤ 1048576
  · by_cases hn : n ≤ 1048576
    · have hs : ∀ w, _ := fun w => szVisitS_any A n c hm w
      simp only [szB_yes hn] at hs
      go_enter Try.func11, Try.ntmps11
      ((go_wp2_with fail); (with_reducible refine (hs _).mono ?_); rintro _ _ ⟨rfl, rfl⟩)
      ((go_wp2_with fail); (with_reducible refine (toVisitS_any A n c v _ hn f0).mono ?_); rintro _ w1 ⟨g1, rfl, hg1, o1, hb⟩; replace f0 := Fl.below f0 hb; replace f1 := Fl.below f1 hb; replace hB := below_step hB hb; clear hb)
      ((go_wp2_with fail); (with_reducible refine (toIntS_any A' N c' z _ hN f1).mono ?_); rintro _ w1 ⟨g2, rfl, hg2, o2, hb⟩; replace f0 := Fl.below f0 hb; replace f1 := Fl.below f1 hb; replace o1 := Own.below o1 hb; replace hB := below_step hB hb; clear hb)
      ((go_wp2_with fail); (with_reducible refine (spec_Delay _ _ n n N v z _ hn hN (o1.fl (Nat.le_refl _)) (o2.fl (Nat.le_refl _))).mono ?_); rintro _ w1 ⟨rfl, hb⟩; replace f0 := Fl.below f0 hb; replace f1 := Fl.below f1 hb; replace hB := below_step hB hb; clear hb)
      ((go_wp2_with fail); (with_reducible refine (toVisitS_any A n c v _ hn f0).mono ?_); rintro _ w1 ⟨g3, rfl, hg3, o3, hb⟩; replace f0 := Fl.below f0 hb; replace f1 := Fl.below f1 hb; replace hB := below_step hB hb; clear hb)
      ((go_wp2_with fail); (with_reducible refine (toIntS_any A' N c' z _ hN f1).mono ?_); rintro _ w1 ⟨g4, rfl, hg4, o4, hb⟩; replace f0 := Fl.below f0 hb; replace f1 := Fl.below f1 hb; replace o3 := Own.below o3 hb; replace hB := below_step hB hb; clear hb)
      ((go_wp2_with fail); (with_reducible refine (impl_Delay _ _ n n N N v z _ hn hN (o3.fl (Nat.le_refl _)) (o4.fl (Nat.le_refl _))).mono ?_); rintro _ w1 ⟨rfl, hb⟩; replace f0 := Fl.below f0 hb; replace f1 := Fl.below f1 hb; replace o3 := Own.below o3 hb; replace o4 := Own.below o4 hb; replace hB := below_step hB hb; clear hb)
      ((go_wp2_with fail); (with_reducible refine (toVisitS_any A n c v _ hn f0).mono ?_); rintro _ w1 ⟨g5, rfl, hg5, o5, hb⟩; replace f0 := Fl.below f0 hb; replace f1 := Fl.below f1 hb; replace o3 := Own.below o3 hb; replace o4 := Own.below o4 hb; replace hB := below_step hB hb; clear hb)
      ((go_wp2_with fail); (with_reducible refine (eqVisitS_true _ _ n n n v _ hn (o3.fl (Nat.le_refl _)) (o5.fl (Nat.le_refl _))).mono ?_); rintro _ w1 ⟨rfl, hb⟩; replace f0 := Fl.below f0 hb; replace f1 := Fl.below f1 hb; replace o4 := Own.below o4 hb; replace hB := below_step hB hb; clear hb)
      ((go_wp2_with fail); (with_reducible refine (toIntS_any A' N c' z _ hN f1).mono ?_); rintro _ w1 ⟨g6, rfl, hg6, o6, hb⟩; replace o4 := Own.below o4 hb; replace hB := below_step hB hb; clear hb)
      ((go_wp2_with fail); (with_reducible refine (eqIntS_true _ _ N N N z _ hN (o4.fl (Nat.le_refl _)) (o6.fl (Nat.le_refl _))).mono ?_); rintro _ w1 ⟨rfl, hb⟩; replace hB := below_step hB hb; clear hb)
      go_wp2_with fail
      go_ret
      exact ⟨rfl, hB⟩
    · have hs : ∀ w, _ := fun w => szVisitS_any A n c hm w
      simp only [szB_no hn] at hs
      go_enter Try.func11, Try.ntmps11
      ((go_wp2_with fail); (with_reducible refine (hs _).mono ?_); rintro _ _ ⟨rfl, rfl⟩)
      go_wp2_with fail
      go_ret
      exact ⟨rfl, hB⟩
  · go_enter Try.func11, Try.ntmps11
    go_wp2
    go_ret
    exact ⟨rfl, hB⟩
end Go.Proofs.Ytgmfpdnjeengoaa
