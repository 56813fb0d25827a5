/- The walk of the law FnUnits: it returns true. No conditions. -/
import Derived.Test.YtfgkglbhbdfpfaaUniR
import Derived.Test.YtfgkglbhbdfpfaaDrawW
import Derived.Test.YtfgkglbhbdfpfaaConv
namespace Go.Proofs.Ytfgkglbhbdfpfaa
open Go.RowKit
set_option linter.unusedSimpArgs false
set_option linter.unusedVariables false
set_option maxHeartbeats 4000000
set_option maxRecDepth 100000 in
theorem walkUnits (A0 : Option Addr) (n0 k0 : Nat) (v0 : Nat → Int) (w : World) (hm : n0 ≤ maxLen) (hF : Fb w A0 n0 v0) : Calls Try.prog 8 #[.slice A0 n0 k0] w fun e w' => e = .returned (.bool true) ∧ Below w.heap.size w w' := by
  have hs : ∀ w, _ := fun w => laws_big A0 n0 k0 w hm
  by_cases hn : n0 ≤ 1048576
  · rw [show decide (1048576 < n0) = false by simp; omega] at hs
    have HF := Lib.hid hF
    have hat0 := fun w hF => laws_at A0 n0 k0 v0 0 (by decide) w hn hF
    have hat1 := fun w hF => laws_at A0 n0 k0 v0 1 (by decide) w hn hF
    have hat2 := fun w hF => laws_at A0 n0 k0 v0 2 (by decide) w hn hF
    simp only [show ((0 : Nat) : Int) = 0 from rfl] at hat0
    simp only [show ((1 : Nat) : Int) = 1 from rfl] at hat1
    simp only [show ((2 : Nat) : Int) = 2 from rfl] at hat2
    have ha0 := (atV_bd hF 0).1
    have hb0 := (atV_bd hF 1).1
    have hc0 := (atV_bd hF 2).1
    generalize atV n0 v0 0 = a at *
    generalize atV n0 v0 1 = b at *
    generalize atV n0 v0 2 = c at *
    clear hF
    go_enter Try.func8, Try.ntmps8
    ((go_wp2_with fail); (with_reducible refine (hs _).mono ?_); rintro _ _ ⟨rfl, rfl⟩)
    go_wp2_with fail
    with_reducible refine (spec_DrawRatios A0 n0 k0 v0 _ hn HF.out).mono ?_
    rintro _ w1 ⟨A, n, k, v, wr, rfl, ⟨f0, hnk, hn8, H⟩, hB⟩
    have ua : U9 (a % 7) := by unfold U9; omega
    have ub : U9 (b % 7) := by unfold U9; omega
    have uc : U9 (c % 7) := by unfold U9; omega
    obtain ⟨X1, Y1, X2, Y2, X3, Y3, X4, Y4, O1, O2, O3, ⟨e1, e2, e3, e4⟩, e5, htr, hsh, hpo, hcv, hbk, hon⟩ := uni_facts H ua ub uc
    have hFa := fun w f => impl_FactorA A n k v (a % 7) (b % 7) w (by omega) f
    have hFb := fun w f => impl_FactorA A n k v (b % 7) (c % 7) w (by omega) f
    have hFc := fun w f => impl_FactorA A n k v (a % 7) (c % 7) w (by omega) f
    have hFd := fun w f => impl_FactorA A n k v (b % 7) (a % 7) w (by omega) f
    have hCv := fun w f => impl_Convert A n k v 1 1 (a % 7) (b % 7) w (by omega) f X1 Y1 O1 e1
    have hUn := fun w f => impl_AreUnited A n k v (a % 7) (b % 7) w (by omega) f
    have hCo := fun w f => impl_Cons A n k v w (by omega) hnk f
    have hRo := fun w f => impl_RatiosOk A n k v w (by omega) f
    have hT1 := fun w => impl_Times X1 Y1 X4 Y4 w
    have hT2 := fun w => impl_Times X1 Y1 X2 Y2 w
    rw [e1] at hFa; rw [e2] at hFb; rw [e3] at hFc; rw [e4] at hFd; rw [hcv] at hCv; rw [e5] at hUn; rw [H.rat] at hRo
    generalize hG : conB n v = G at *
    have HF1 := Lib.hid (HF.out.below hB)
    clear e1 e2 e3 e4 e5 hcv H hs hG hm ua ub uc
    go_wp2_with fail
    with_reducible refine (hat0 _ HF1.out).mono ?_
    rintro _ w20 ⟨rfl, hb⟩
    have HF2 := Lib.hid (HF1.out.below hb)
    replace f0 := f0.below hb
    replace hB := below_step hB hb
    clear hb hat0
    go_wp2_with fail
    with_reducible refine (hat1 _ HF2.out).mono ?_
    rintro _ w21 ⟨rfl, hb⟩
    have HF3 := Lib.hid (HF2.out.below hb)
    replace f0 := f0.below hb
    replace hB := below_step hB hb
    clear hb hat1
    go_wp2_with fail
    with_reducible refine (hat2 _ HF3.out).mono ?_
    rintro _ w22 ⟨rfl, hb⟩
    replace f0 := f0.below hb
    replace hB := below_step hB hb
    clear hb hat2 HF1 HF2 HF3
    go_wp2_with fail
    with_reducible refine (hFa _ f0).mono ?_
    rintro _ w2 ⟨rfl, hb⟩
    have hba := below_alloc hb (.cells #[.int .i64 X1, .int .i64 Y1] 32)
    have c0 : (w2.alloc (.cells #[.int .i64 X1, .int .i64 Y1] 32)).cell? ⟨w2.heap.size, 0, none⟩ = some (.int .i64 X1) := by simp [go_sem]
    have c1 : (w2.alloc (.cells #[.int .i64 X1, .int .i64 Y1] 32)).cell? ⟨w2.heap.size, 1, none⟩ = some (.int .i64 Y1) := by simp [go_sem]
    replace f0 := f0.below hba
    replace hB := below_step hB hba
    clear hb hba
    go_wp2_with fail
    with_reducible refine (hFb _ f0).mono ?_
    rintro _ w3 ⟨rfl, hb⟩
    have hba := below_alloc hb (.cells #[.int .i64 X2, .int .i64 Y2] 32)
    have c2 : (w3.alloc (.cells #[.int .i64 X2, .int .i64 Y2] 32)).cell? ⟨w3.heap.size, 0, none⟩ = some (.int .i64 X2) := by simp [go_sem]
    have c3 : (w3.alloc (.cells #[.int .i64 X2, .int .i64 Y2] 32)).cell? ⟨w3.heap.size, 1, none⟩ = some (.int .i64 Y2) := by simp [go_sem]
    replace c0 := below_cell hba c0
    replace c1 := below_cell hba c1
    replace f0 := f0.below hba
    replace hB := below_step hB hba
    clear hb hba
    go_wp2_with fail
    with_reducible refine (hFc _ f0).mono ?_
    rintro _ w4 ⟨rfl, hb⟩
    have hba := below_alloc hb (.cells #[.int .i64 X3, .int .i64 Y3] 32)
    have c4 : (w4.alloc (.cells #[.int .i64 X3, .int .i64 Y3] 32)).cell? ⟨w4.heap.size, 0, none⟩ = some (.int .i64 X3) := by simp [go_sem]
    have c5 : (w4.alloc (.cells #[.int .i64 X3, .int .i64 Y3] 32)).cell? ⟨w4.heap.size, 1, none⟩ = some (.int .i64 Y3) := by simp [go_sem]
    replace c0 := below_cell hba c0
    replace c1 := below_cell hba c1
    replace c2 := below_cell hba c2
    replace c3 := below_cell hba c3
    replace f0 := f0.below hba
    replace hB := below_step hB hba
    clear hb hba
    go_wp2_with fail
    with_reducible refine (hFd _ f0).mono ?_
    rintro _ w5 ⟨rfl, hb⟩
    have hba := below_alloc hb (.cells #[.int .i64 X4, .int .i64 Y4] 32)
    have c6 : (w5.alloc (.cells #[.int .i64 X4, .int .i64 Y4] 32)).cell? ⟨w5.heap.size, 0, none⟩ = some (.int .i64 X4) := by simp [go_sem]
    have c7 : (w5.alloc (.cells #[.int .i64 X4, .int .i64 Y4] 32)).cell? ⟨w5.heap.size, 1, none⟩ = some (.int .i64 Y4) := by simp [go_sem]
    replace c0 := below_cell hba c0
    replace c1 := below_cell hba c1
    replace c2 := below_cell hba c2
    replace c3 := below_cell hba c3
    replace c4 := below_cell hba c4
    replace c5 := below_cell hba c5
    replace f0 := f0.below hba
    replace hB := below_step hB hba
    clear hb hba
    go_wp2_with fail
    with_reducible refine (hCo _ f0).mono ?_
    rintro _ w6 ⟨rfl, hb⟩
    replace c0 := below_cell hb c0
    replace c1 := below_cell hb c1
    replace c2 := below_cell hb c2
    replace c3 := below_cell hb c3
    replace c4 := below_cell hb c4
    replace c5 := below_cell hb c5
    replace c6 := below_cell hb c6
    replace c7 := below_cell hb c7
    replace f0 := f0.below hb
    replace hB := below_step hB hb
    clear hb
    go_wp2_with fail
    with_reducible refine (hUn _ f0).mono ?_
    rintro _ w7 ⟨rfl, hb⟩
    replace c0 := below_cell hb c0
    replace c1 := below_cell hb c1
    replace c2 := below_cell hb c2
    replace c3 := below_cell hb c3
    replace c4 := below_cell hb c4
    replace c5 := below_cell hb c5
    replace c6 := below_cell hb c6
    replace c7 := below_cell hb c7
    replace f0 := f0.below hb
    replace hB := below_step hB hb
    clear hb
    have hoo : (O1 != O1) = false := by simp
    go_wp2_with fail
    with_reducible refine (hRo _ f0).mono ?_
    rintro _ w8 ⟨rfl, hb⟩
    replace c0 := below_cell hb c0
    replace c1 := below_cell hb c1
    replace c2 := below_cell hb c2
    replace c3 := below_cell hb c3
    replace c4 := below_cell hb c4
    replace c5 := below_cell hb c5
    replace c6 := below_cell hb c6
    replace c7 := below_cell hb c7
    replace f0 := f0.below hb
    replace hB := below_step hB hb
    clear hb
    clear hoo hFa hFb hFc hFd hCo hUn hRo
    cases O1
    · -- not united
      cases G
      · have h2 := hsh rfl
        have h2i : ¬ (n : Int) < 2 := by omega
        go_wp2_with fail
        with_reducible refine (hCv _ f0).mono ?_
        rintro _ w12 ⟨rfl, hb⟩
        have hba := below_alloc hb (.cells #[.int .i64 X1, .int .i64 Y1] 32)
        have c8 : (w12.alloc (.cells #[.int .i64 X1, .int .i64 Y1] 32)).cell? ⟨w12.heap.size, 0, none⟩ = some (.int .i64 X1) := by simp [go_sem]
        have c9 : (w12.alloc (.cells #[.int .i64 X1, .int .i64 Y1] 32)).cell? ⟨w12.heap.size, 1, none⟩ = some (.int .i64 Y1) := by simp [go_sem]
        replace c0 := below_cell hba c0
        replace c1 := below_cell hba c1
        replace c2 := below_cell hba c2
        replace c3 := below_cell hba c3
        replace c4 := below_cell hba c4
        replace c5 := below_cell hba c5
        replace c6 := below_cell hba c6
        replace c7 := below_cell hba c7
        replace f0 := f0.below hba
        replace hB := below_step hB hba
        clear hb hba
        clear hCv f0
        go_wp2_with fail
        go_ret
        exact ⟨rfl, hB⟩
      · skip
        go_wp2_with fail
        with_reducible refine (hCv _ f0).mono ?_
        rintro _ w12 ⟨rfl, hb⟩
        have hba := below_alloc hb (.cells #[.int .i64 X1, .int .i64 Y1] 32)
        have c8 : (w12.alloc (.cells #[.int .i64 X1, .int .i64 Y1] 32)).cell? ⟨w12.heap.size, 0, none⟩ = some (.int .i64 X1) := by simp [go_sem]
        have c9 : (w12.alloc (.cells #[.int .i64 X1, .int .i64 Y1] 32)).cell? ⟨w12.heap.size, 1, none⟩ = some (.int .i64 Y1) := by simp [go_sem]
        replace c0 := below_cell hba c0
        replace c1 := below_cell hba c1
        replace c2 := below_cell hba c2
        replace c3 := below_cell hba c3
        replace c4 := below_cell hba c4
        replace c5 := below_cell hba c5
        replace c6 := below_cell hba c6
        replace c7 := below_cell hba c7
        replace f0 := f0.below hba
        replace hB := below_step hB hba
        clear hb hba
        clear hCv f0
        go_wp2_with fail
        go_ret
        exact ⟨rfl, hB⟩
    · have hp1 := hpo rfl
      cases G
      · have h2 := hsh rfl
        have h2i : ¬ (n : Int) < 2 := by omega
        cases O2
        · skip
          go_wp2_with fail
          with_reducible refine (hCv _ f0).mono ?_
          rintro _ w12 ⟨rfl, hb⟩
          have hba := below_alloc hb (.cells #[.int .i64 X1, .int .i64 Y1] 32)
          have c8 : (w12.alloc (.cells #[.int .i64 X1, .int .i64 Y1] 32)).cell? ⟨w12.heap.size, 0, none⟩ = some (.int .i64 X1) := by simp [go_sem]
          have c9 : (w12.alloc (.cells #[.int .i64 X1, .int .i64 Y1] 32)).cell? ⟨w12.heap.size, 1, none⟩ = some (.int .i64 Y1) := by simp [go_sem]
          replace c0 := below_cell hba c0
          replace c1 := below_cell hba c1
          replace c2 := below_cell hba c2
          replace c3 := below_cell hba c3
          replace c4 := below_cell hba c4
          replace c5 := below_cell hba c5
          replace c6 := below_cell hba c6
          replace c7 := below_cell hba c7
          replace f0 := f0.below hba
          replace hB := below_step hB hba
          clear hb hba
          clear hCv f0
          go_wp2_with fail
          go_ret
          exact ⟨rfl, hB⟩
        · have h3 := htr rfl rfl
          subst h3
          go_wp2_with fail
          with_reducible refine (hCv _ f0).mono ?_
          rintro _ w12 ⟨rfl, hb⟩
          have hba := below_alloc hb (.cells #[.int .i64 X1, .int .i64 Y1] 32)
          have c8 : (w12.alloc (.cells #[.int .i64 X1, .int .i64 Y1] 32)).cell? ⟨w12.heap.size, 0, none⟩ = some (.int .i64 X1) := by simp [go_sem]
          have c9 : (w12.alloc (.cells #[.int .i64 X1, .int .i64 Y1] 32)).cell? ⟨w12.heap.size, 1, none⟩ = some (.int .i64 Y1) := by simp [go_sem]
          replace c0 := below_cell hba c0
          replace c1 := below_cell hba c1
          replace c2 := below_cell hba c2
          replace c3 := below_cell hba c3
          replace c4 := below_cell hba c4
          replace c5 := below_cell hba c5
          replace c6 := below_cell hba c6
          replace c7 := below_cell hba c7
          replace f0 := f0.below hba
          replace hB := below_step hB hba
          clear hb hba
          clear hCv f0
          go_wp2_with fail
          go_ret
          exact ⟨rfl, hB⟩
      · have ht1 := hbk rfl rfl
        rw [ht1] at hT1
        clear ht1 hbk
        cases O2
        · skip
          go_wp2_with fail
          with_reducible refine (hT1 _).mono ?_
          rintro _ w10 ⟨rfl, hb⟩
          have hba := below_alloc hb (.cells #[.int .i64 1, .int .i64 1] 32)
          have c10 : (w10.alloc (.cells #[.int .i64 1, .int .i64 1] 32)).cell? ⟨w10.heap.size, 0, none⟩ = some (.int .i64 1) := by simp [go_sem]
          have c11 : (w10.alloc (.cells #[.int .i64 1, .int .i64 1] 32)).cell? ⟨w10.heap.size, 1, none⟩ = some (.int .i64 1) := by simp [go_sem]
          replace c0 := below_cell hba c0
          replace c1 := below_cell hba c1
          replace c2 := below_cell hba c2
          replace c3 := below_cell hba c3
          replace c4 := below_cell hba c4
          replace c5 := below_cell hba c5
          replace c6 := below_cell hba c6
          replace c7 := below_cell hba c7
          replace f0 := f0.below hba
          replace hB := below_step hB hba
          clear hb hba
          clear hT1
          go_wp2_with fail
          with_reducible refine (hCv _ f0).mono ?_
          rintro _ w12 ⟨rfl, hb⟩
          have hba := below_alloc hb (.cells #[.int .i64 X1, .int .i64 Y1] 32)
          have c8 : (w12.alloc (.cells #[.int .i64 X1, .int .i64 Y1] 32)).cell? ⟨w12.heap.size, 0, none⟩ = some (.int .i64 X1) := by simp [go_sem]
          have c9 : (w12.alloc (.cells #[.int .i64 X1, .int .i64 Y1] 32)).cell? ⟨w12.heap.size, 1, none⟩ = some (.int .i64 Y1) := by simp [go_sem]
          replace c0 := below_cell hba c0
          replace c1 := below_cell hba c1
          replace c2 := below_cell hba c2
          replace c3 := below_cell hba c3
          replace c4 := below_cell hba c4
          replace c5 := below_cell hba c5
          replace c6 := below_cell hba c6
          replace c7 := below_cell hba c7
          replace f0 := f0.below hba
          replace hB := below_step hB hba
          clear hb hba
          clear hCv f0
          go_wp2_with fail
          go_ret
          exact ⟨rfl, hB⟩
        · have h3 := htr rfl rfl
          subst h3
          have ht2 := hon rfl rfl rfl
          rw [ht2] at hT2
          clear ht2 hon
          go_wp2_with fail
          with_reducible refine (hT1 _).mono ?_
          rintro _ w10 ⟨rfl, hb⟩
          have hba := below_alloc hb (.cells #[.int .i64 1, .int .i64 1] 32)
          have c10 : (w10.alloc (.cells #[.int .i64 1, .int .i64 1] 32)).cell? ⟨w10.heap.size, 0, none⟩ = some (.int .i64 1) := by simp [go_sem]
          have c11 : (w10.alloc (.cells #[.int .i64 1, .int .i64 1] 32)).cell? ⟨w10.heap.size, 1, none⟩ = some (.int .i64 1) := by simp [go_sem]
          replace c0 := below_cell hba c0
          replace c1 := below_cell hba c1
          replace c2 := below_cell hba c2
          replace c3 := below_cell hba c3
          replace c4 := below_cell hba c4
          replace c5 := below_cell hba c5
          replace c6 := below_cell hba c6
          replace c7 := below_cell hba c7
          replace f0 := f0.below hba
          replace hB := below_step hB hba
          clear hb hba
          clear hT1
          go_wp2_with fail
          with_reducible refine (hT2 _).mono ?_
          rintro _ w11 ⟨rfl, hb⟩
          have hba := below_alloc hb (.cells #[.int .i64 X3, .int .i64 Y3] 32)
          have c12 : (w11.alloc (.cells #[.int .i64 X3, .int .i64 Y3] 32)).cell? ⟨w11.heap.size, 0, none⟩ = some (.int .i64 X3) := by simp [go_sem]
          have c13 : (w11.alloc (.cells #[.int .i64 X3, .int .i64 Y3] 32)).cell? ⟨w11.heap.size, 1, none⟩ = some (.int .i64 Y3) := by simp [go_sem]
          replace c0 := below_cell hba c0
          replace c1 := below_cell hba c1
          replace c2 := below_cell hba c2
          replace c3 := below_cell hba c3
          replace c4 := below_cell hba c4
          replace c5 := below_cell hba c5
          replace c6 := below_cell hba c6
          replace c7 := below_cell hba c7
          replace f0 := f0.below hba
          replace hB := below_step hB hba
          clear hb hba
          clear hT2
          go_wp2_with fail
          with_reducible refine (hCv _ f0).mono ?_
          rintro _ w12 ⟨rfl, hb⟩
          have hba := below_alloc hb (.cells #[.int .i64 X1, .int .i64 Y1] 32)
          have c8 : (w12.alloc (.cells #[.int .i64 X1, .int .i64 Y1] 32)).cell? ⟨w12.heap.size, 0, none⟩ = some (.int .i64 X1) := by simp [go_sem]
          have c9 : (w12.alloc (.cells #[.int .i64 X1, .int .i64 Y1] 32)).cell? ⟨w12.heap.size, 1, none⟩ = some (.int .i64 Y1) := by simp [go_sem]
          replace c0 := below_cell hba c0
          replace c1 := below_cell hba c1
          replace c2 := below_cell hba c2
          replace c3 := below_cell hba c3
          replace c4 := below_cell hba c4
          replace c5 := below_cell hba c5
          replace c6 := below_cell hba c6
          replace c7 := below_cell hba c7
          replace f0 := f0.below hba
          replace hB := below_step hB hba
          clear hb hba
          clear hCv f0
          go_wp2_with fail
          go_ret
          exact ⟨rfl, hB⟩
  · rw [show decide (1048576 < n0) = true by simp; omega] at hs
    go_enter Try.func8, Try.ntmps8
    ((go_wp2_with fail); (with_reducible refine (hs _).mono ?_); rintro _ _ ⟨rfl, rfl⟩)
    go_wp2_with fail
    go_ret
    exact ⟨rfl, Below.refl _ _⟩
end Go.Proofs.Ytfgkglbhbdfpfaa
