/- The law of BestSwap: its walk. -/
import Derived.Test.YtmnmnkenboejpaaBest
namespace Go.Proofs.Ytmnmnkenboejpaa
open Go.RowKit
set_option linter.unusedSimpArgs false
set_option linter.unusedVariables false
set_option maxHeartbeats 4000000
set_option maxRecDepth 100000 in
theorem walkBest (A : Option Addr) (c : Nat) (L : List (List Int)) (B : Option Addr) (n d : Nat) (v : Nat → Int) (w : World) (hmL : L.length ≤ maxLen) (hrL : ∀ r ∈ L, r.length ≤ maxLen) (m0 : Fm w A L) (hm : n ≤ maxLen) (f1 : Fl w B n 1 v) :
    Calls Try.prog 6 #[.slice A L.length c, .slice B n d] w fun e w' => e = .returned (.bool true) ∧ Below w.heap.size w w' := by
  have hB := Below.refl w.heap.size w
  have hsz0 := fun w m0 => szIntSS_any A c L w hmL hrL m0
  obtain ⟨S, hS⟩ : ∃ S, S = (if L.length ≤ 1048576 then szM L (1048576 - L.length) else -1) := ⟨_, rfl⟩
  have hsz : ∀ w, Fm w A L → Calls Try.prog 10 #[.slice A L.length c, .int .i64 1048576] w fun e w' => e = .returned (.int .i64 S) ∧ w = w' := by rw [hS]; exact hsz0
  clear hsz0
  unfold maxLen at hm
  by_cases hn : n ≤ 1048576
  · by_cases hs : S < 0
    · clear hS
      go_enter Try.func6, Try.ntmps6
      (go_wp2_with fail); (with_reducible refine (hsz _ m0).mono ?_); rintro _ _ ⟨rfl, rfl⟩
      go_wp2_with fail
      go_ret
      exact ⟨rfl, hB⟩
    · have hn1 : L.length ≤ 1048576 := by
        by_cases h : L.length ≤ 1048576
        · exact h
        · rw [if_neg h] at hS; omega
      have hr1 : ∀ r ∈ L, r.length ≤ 1048576 := fun r hr => by
        rw [if_pos hn1] at hS
        have := szM_ok L (1048576 - (L.length : Int)) (by omega) (by omega) r hr
        omega
      clear hS
      go_enter Try.func6, Try.ntmps6
      (go_wp2_with fail); (with_reducible refine (hsz _ m0).mono ?_); rintro _ _ ⟨rfl, rfl⟩
      (go_wp2_with fail); (with_reducible refine (toIntSS_any A c L _ hn1 hr1 m0).mono ?_); rintro _ w1 ⟨g1, rfl, hg1, p1, hb⟩; replace m0 := Fm.below m0 hb; replace f1 := Fl.below f1 hb; replace hB := below_step hB hb; clear hb
      (go_wp2_with fail); (with_reducible refine (toIntS_any B n d v _ hn f1).mono ?_); rintro _ w1 ⟨g2, rfl, hg2, o2, hb⟩; replace m0 := Fm.below m0 hb; replace f1 := Fl.below f1 hb; replace p1 := PM.below p1 hb; replace hB := below_step hB hb; clear hb
      (go_wp2_with fail); (with_reducible refine (spec_Best _ _ _ _ n L v _ hn1 hr1 hn (p1.fm (Nat.le_refl _)) (o2.fl (Nat.le_refl _))).mono ?_); rintro _ w1 ⟨rfl, hb⟩; replace m0 := Fm.below m0 hb; replace f1 := Fl.below f1 hb; replace hB := below_step hB hb; clear hb
      clear p1 o2
      (go_wp2_with fail); (with_reducible refine (toIntSS_any A c L _ hn1 hr1 m0).mono ?_); rintro _ w1 ⟨g3, rfl, hg3, p3, hb⟩; replace m0 := Fm.below m0 hb; replace f1 := Fl.below f1 hb; replace hB := below_step hB hb; clear hb
      (go_wp2_with fail); (with_reducible refine (toIntS_any B n d v _ hn f1).mono ?_); rintro _ w1 ⟨g4, rfl, hg4, o4, hb⟩; replace m0 := Fm.below m0 hb; replace f1 := Fl.below f1 hb; replace p3 := PM.below p3 hb; replace hB := below_step hB hb; clear hb
      (go_wp2_with fail); (with_reducible refine (impl_Best _ _ _ _ n L v _ hn1 hr1 hn (p3.fm (Nat.le_refl _)) (o4.fl (Nat.le_refl _))).mono ?_); rintro _ w1 ⟨rfl, hb⟩; replace m0 := Fm.below m0 hb; replace f1 := Fl.below f1 hb; replace p3 := PM.below p3 hb; replace o4 := Own.below o4 hb; replace hB := below_step hB hb; clear hb
      (go_wp2_with fail); (with_reducible refine (toIntSS_any A c L _ hn1 hr1 m0).mono ?_); rintro _ w1 ⟨g5, rfl, hg5, p5, hb⟩; replace m0 := Fm.below m0 hb; replace f1 := Fl.below f1 hb; replace p3 := PM.below p3 hb; replace o4 := Own.below o4 hb; replace hB := below_step hB hb; clear hb
      (go_wp2_with fail); (with_reducible refine (eqIntSS_true _ _ _ _ L _ hn1 hr1 (p3.fm (Nat.le_refl _)) (p5.fm (Nat.le_refl _))).mono ?_); rintro _ w1 ⟨rfl, hb⟩; replace m0 := Fm.below m0 hb; replace f1 := Fl.below f1 hb; replace o4 := Own.below o4 hb; replace hB := below_step hB hb; clear hb
      (go_wp2_with fail); (with_reducible refine (toIntS_any B n d v _ hn f1).mono ?_); rintro _ w1 ⟨g6, rfl, hg6, o6, hb⟩; replace m0 := Fm.below m0 hb; replace f1 := Fl.below f1 hb; replace o4 := Own.below o4 hb; replace hB := below_step hB hb; clear hb
      (go_wp2_with fail); (with_reducible refine (eqIntS_true _ _ n _ _ v _ hn (o4.fl (Nat.le_refl _)) (o6.fl (Nat.le_refl _))).mono ?_); rintro _ w1 ⟨rfl, hb⟩; replace hB := below_step hB hb; clear hb
      go_wp2_with fail
      go_ret
      exact ⟨rfl, hB⟩
  · go_enter Try.func6, Try.ntmps6
    go_wp2_with fail
    go_ret
    exact ⟨rfl, hB⟩

end Go.Proofs.Ytmnmnkenboejpaa
