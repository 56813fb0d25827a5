/- The walk of the law FnSamples: it returns true. No conditions. -/
import Derived.Test.YtoalpihlflifmaaFnSample
namespace Go.Proofs.Ytoalpihlflifmaa
open Go.RowKit
set_option linter.unusedSimpArgs false
set_option linter.unusedVariables false
set_option maxHeartbeats 4000000
set_option maxRecDepth 100000 in
theorem walkSamples (A : Option Addr) (n k : Nat) (v : Nat → Int) (w : World) (hm : n ≤ maxLen) (hF : Fb w A n v) : Calls Try.prog 10 #[.slice A n k] w fun e w' => e = .returned (.bool true) ∧ Below w.heap.size w w' := by
  have hB := Below.refl w.heap.size w
  have hs : ∀ w, _ := fun w => laws_big A n k w hm
  by_cases hn : n ≤ 1048576
  · rw [show decide (1048576 < n) = false by simp; omega] at hs
    have hat : ∀ w, Fb w A n v → _ := fun w f => laws_at A n k v 0 (by decide) w hn f
    have hat0 := atV_bd hF 0
    revert hat hat0
    generalize atV n v 0 = x0
    intro hat hat0
    have HAT := Lib.hid hat; clear hat
    have HF := Lib.hid hF; clear hF
    go_enter Try.func10, Try.ntmps10
    ((go_wp2_with fail); (with_reducible refine (hs _).mono ?_); rintro _ _ ⟨rfl, rfl⟩)
    go_wp2_with fail
    with_reducible refine (spec_DrawPlan A n k v _ hn HF.out).mono ?_
    rintro _ w1 ⟨L, S, P, rfl, ⟨hL, hS, hP⟩, hb⟩
    replace hB := below_step hB hb
    clear hb
    have hchk := sample_all hL hS hP
    have HK := Lib.hid hchk; clear hchk
    have hg := sample_g HK.out
    have hb := below_alloc (Below.refl w1.heap.size w1) (.cells #[.int .i64 L, .int .i64 S, .int .i64 P] 28)
    have c0 : (w1.alloc (.cells #[.int .i64 L, .int .i64 S, .int .i64 P] 28)).cell? ⟨w1.heap.size, 0, none⟩ = some (.int .i64 L) := by simp [go_sem]
    have c1 : (w1.alloc (.cells #[.int .i64 L, .int .i64 S, .int .i64 P] 28)).cell? ⟨w1.heap.size, 1, none⟩ = some (.int .i64 S) := by simp [go_sem]
    have c2 : (w1.alloc (.cells #[.int .i64 L, .int .i64 S, .int .i64 P] 28)).cell? ⟨w1.heap.size, 2, none⟩ = some (.int .i64 P) := by simp [go_sem]
    (skip; replace hB := below_step hB hb; clear hb)
    have hAll := fun w => impl_ChooseOf L S w
    have hGr := fun w => impl_GreatestBad L S P w
    ((go_wp2_with fail); (with_reducible refine (hAll _).mono ?_); rintro _ w1 ⟨rfl, hb⟩; replace c0 := below_cell hb c0; replace c1 := below_cell hb c1; replace c2 := below_cell hb c2; replace hB := below_step hB hb; clear hb)
    ((go_wp2_with fail); (with_reducible refine (hGr _).mono ?_); rintro _ w1 ⟨rfl, hb⟩; replace c0 := below_cell hb c0; replace c1 := below_cell hb c1; replace c2 := below_cell hb c2; replace hB := below_step hB hb; clear hb)
    clear hAll hGr
    have hallb := chooseB_bd L S
    obtain ⟨all, hall⟩ : ∃ all, chooseB L S = all := ⟨_, rfl⟩
    obtain ⟨q, hq⟩ : ∃ q, greatB L S P = q := ⟨_, rfl⟩
    rw [hall] at hallb
    rw [hq] at hg
    simp only [hall, hq]
    have HALL := Lib.hid hall; clear hall
    have HQ := Lib.hid hq; clear hq
    go_wp2_with fail
    obtain ⟨W, hW⟩ : ∃ W, W = w1 := ⟨_, rfl⟩
    rw [← hW] at c0 c1 c2 hB
    rw [← hW]
    clear hW
    have HB := Lib.hid hB; clear hB
    go_loopw [6, 7] (fun i _ wr => ∃ j : Nat, j ≤ L + 1 ∧ i = .int .i64 j ∧ Below W.heap.size W wr) (fun i _ _ => L + 1 - (intOf i).toNat)
    case atStart => exact ⟨0, by omega, rfl, Below.refl _ _⟩
    case round =>
      obtain ⟨j, hj, rfl, hB⟩ := hrel
      replace c0 := below_cell hB c0
      replace c1 := below_cell hB c1
      replace c2 := below_cell hB c2
      by_cases hjL : j ≤ L
      · have hb := sample_b (b := j) HK.out hjL
        rw [HALL.out, HQ.out] at hb
        have hC := fun w => impl_CountAccepting L S P j w
        have hD := fun w => impl_CountAccepting L S P ((j : Int) - 1) w
        revert hb hC hD
        generalize countB L S P j = N
        generalize countB L S P ((j : Int) - 1) = M
        intro hb hC hD
        obtain ⟨b1, b2, b3, ⟨b4, b5⟩ | ⟨b4, b5⟩⟩ := hb
        · subst b5
          rcases (by omega : j ≤ 0 ∨ 0 < j ∧ N ≤ M) with hj0 | ⟨hj0, hM⟩
          all_goals
            clear b3
            go_wp2_with (first | (go_at_call 41; (with_reducible refine (hC _).mono ?_); rintro _ w1 ⟨rfl, hb⟩; replace c0 := below_cell hb c0; replace c1 := below_cell hb c1; replace c2 := below_cell hb c2; replace hB := below_step hB hb; clear hb) | (go_at_call 41; (with_reducible refine (hD _).mono ?_); rintro _ w1 ⟨rfl, hb⟩; replace c0 := below_cell hb c0; replace c1 := below_cell hb c1; replace c2 := below_cell hb c2; replace hB := below_step hB hb; clear hb))
            all_goals
              go_roundw
              case rel => exact ⟨j + 1, by omega, by go_num, hB⟩
              case measure => simp [intOf]; omega
        · have n1 : (N == all) = false := by simp; omega
          obtain ⟨hj0, hM⟩ : 0 < j ∧ N ≤ M := by omega
          all_goals
            clear b3
            go_wp2_with (first | (go_at_call 41; (with_reducible refine (hC _).mono ?_); rintro _ w1 ⟨rfl, hb⟩; replace c0 := below_cell hb c0; replace c1 := below_cell hb c1; replace c2 := below_cell hb c2; replace hB := below_step hB hb; clear hb) | (go_at_call 41; (with_reducible refine (hD _).mono ?_); rintro _ w1 ⟨rfl, hb⟩; replace c0 := below_cell hb c0; replace c1 := below_cell hb c1; replace c2 := below_cell hb c2; replace hB := below_step hB hb; clear hb))
            all_goals
              go_roundw
              case rel => exact ⟨j + 1, by omega, by go_num, hB⟩
              case measure => simp [intOf]; omega
      · obtain rfl : j = L + 1 := by omega
        replace HF := HF.out.below (below_step HB.out hB)
        have EF := fun e => Fb.below HF (ext_below wr e)
        go_wp2_with fail
        (have Ec0 := ext_cell c0; have Ec1 := ext_cell c1; have Ec2 := ext_cell c2; refine calm_lit (by kernel_rfl) (by kernel_rfl) ?_; (repeat (first | go_big_quiet_step (((go_at_call 42; exact calm_of (HAT.out _ (EF _))))) | simp only [TF])); refine wpQuiet_nil ?_; intro w1 hb; clear Ec0 Ec1 Ec2; replace c0 := below_cell hb c0; replace c1 := below_cell hb c1; replace c2 := below_cell hb c2; replace hB := below_step hB hb; clear hb)
        obtain ⟨b, hb1, hb2, hbe⟩ : ∃ b : Nat, 1 ≤ b ∧ b ≤ L ∧ wrap64 (1 + x0 % L) = b := by
          have h1 := Int.emod_nonneg x0 (b := (L : Int)) (by omega)
          have h2 := Int.emod_lt_of_pos x0 (b := (L : Int)) (by omega)
          refine ⟨(1 + x0 % L).toNat, by omega, by omega, ?_⟩
          unfold wrap64
          omega
        rw [hbe]
        clear hbe EF
        obtain ⟨g1, g2, X, Y, hacc, g3⟩ := sample_e HK.out ⟨hb1, hb2⟩
        rw [HALL.out] at g3
        have hLs := fun w => impl_Least L b (by omega) (by omega) w
        have hE1 := fun w => impl_CountAccepting L ((L : Int) - b + 1) 0 b w
        have hE2 := fun w => impl_CountAccepting L ((L : Int) - b + 1 - 1) 0 b w
        have hE4 := fun w => impl_CountAccepting L ((L : Int) - b) 0 b w
        rw [show countB L ((L : Int) - b) 0 b = countB L ((L : Int) - b + 1 - 1) 0 b by rw [show (L : Int) - b + 1 - 1 = (L : Int) - b by omega]] at hE4
        have hE3 := fun w => impl_CountAccepting L S P b w
        have hAc := fun w => impl_Accept L S P b w
        have hPl := fun w => impl_PlanOk L S P w
        rw [show planB L S P = true by simp only [planB, Bool.and_eq_true, inB_iff]; omega] at hPl
        simp only [g1] at hE1
        simp only [hacc] at hAc
        clear hacc g1
        revert g2 g3 hE2 hE4 hE3
        generalize countB L ((L : Int) - b + 1 - 1) 0 b = M2
        generalize countB L S P b = N
        intro g2 g3 hE2 hE4 hE3
        have TW : (wrap64 (X * all) == wrap64 (N * Y)) = true := by rw [g3]; simp
        have HTW := Lib.hid TW; clear TW
        clear g3
        ((go_wp2_with fail); (with_reducible refine (hLs _).mono ?_); rintro _ w1 ⟨rfl, hb⟩; replace c0 := below_cell hb c0; replace c1 := below_cell hb c1; replace c2 := below_cell hb c2; replace hB := below_step hB hb; clear hb)
        ((go_wp2_with fail); (with_reducible refine (hAc _).mono ?_); rintro _ w1 ⟨rfl, hb⟩; replace c0 := below_cell hb c0; replace c1 := below_cell hb c1; replace c2 := below_cell hb c2; replace hB := below_step hB hb; clear hb)
        have hb := below_alloc (Below.refl w1.heap.size w1) (.cells #[.int .i64 X, .int .i64 Y] 25)
        have c3 : (w1.alloc (.cells #[.int .i64 X, .int .i64 Y] 25)).cell? ⟨w1.heap.size, 0, none⟩ = some (.int .i64 X) := by simp [go_sem]
        have c4 : (w1.alloc (.cells #[.int .i64 X, .int .i64 Y] 25)).cell? ⟨w1.heap.size, 1, none⟩ = some (.int .i64 Y) := by simp [go_sem]
        (skip; replace c0 := below_cell hb c0; replace c1 := below_cell hb c1; replace c2 := below_cell hb c2; replace hB := below_step hB hb; clear hb)
        have hor : ((L : Int) - b + 1 == 1) = true ∨ (((L : Int) - b + 1 == 1) = false ∧ 0 < M2) := by
          rcases (by omega : (L : Int) ≤ b ∨ ((b : Int) < L ∧ 0 < M2)) with g4 | ⟨g4, g5⟩
          · left; simp; omega
          · right; exact ⟨by simp; omega, g5⟩
        rcases hor with g4 | ⟨g4, g5⟩
        all_goals
          clear g2
          have TF := And.intro HTW.out g4
          go_wp2_with fail
          (have Ec0 := ext_cell c0; have Ec1 := ext_cell c1; have Ec2 := ext_cell c2; have Ec3 := ext_cell c3; have Ec4 := ext_cell c4; refine calm_lit (by kernel_rfl) (by kernel_rfl) ?_; (repeat (first | go_big_quiet_step ((first | (go_at_call 41; with_reducible exact calm_of (hE1 _)) | (go_at_call 41; with_reducible exact calm_of (hE2 _)) | (go_at_call 41; with_reducible exact calm_of (hE3 _)) | (go_at_call 41; with_reducible exact calm_of (hE4 _)) | (go_at_call 44; with_reducible exact calm_of (hPl _)))) | simp only [TF])); refine wpQuiet_nil ?_; intro w1 hb; clear Ec0 Ec1 Ec2 Ec3 Ec4; replace c0 := below_cell hb c0; replace c1 := below_cell hb c1; replace c2 := below_cell hb c2; replace c3 := below_cell hb c3; replace c4 := below_cell hb c4; replace hB := below_step hB hb; clear hb)
          go_wp2_with fail
          go_ret
          exact ⟨by simp, below_step HB.out hB⟩
  · rw [show decide (1048576 < n) = true by simp; omega] at hs
    go_enter Try.func10, Try.ntmps10
    ((go_wp2_with fail); (with_reducible refine (hs _).mono ?_); rintro _ _ ⟨rfl, rfl⟩)
    go_wp2_with fail
    go_ret
    exact ⟨rfl, hB⟩
end Go.Proofs.Ytoalpihlflifmaa
