/- The contracts of the functions on findings: for every finding, class and world, the program's function and the reference's return the same value of the plain functions findB, tolB, verdB, bestB, narrowOk, and leave old memory alone. No conditions. -/
import Derived.Test.YtoalpihlflifmaaIn
namespace Go.Proofs.Ytoalpihlflifmaa
open Go.RowKit
set_option linter.unusedSimpArgs false
set_option linter.unusedVariables false
def findB (a b c : Int) : Bool := inB a 1 100000 && inB b (-100000) 100000 && inB c b 100000

theorem impl_FindingOk (a b c : Int) (w : World) : Calls Try.prog 37 #[.agg #[.int .i64 a, .int .i64 b, .int .i64 c]] w fun e w' => e = .returned (.bool (findB a b c)) ∧ Below w.heap.size w w' := by
  go_enter Try.func37, Try.ntmps37
  go_wp2_with (go_at_call 63; (with_reducible refine (in_any _ _ _ _).mono ?_); rintro _ _ ⟨rfl, rfl⟩)
  all_goals go_ret
  all_goals refine ⟨ret_bool ?_, (Below.refl _ _).alloc (Nat.le_refl _) _⟩
  all_goals (simp only [findB, inB_iff, inB_not, Bool.not_eq_true] at *)
  all_goals (rw [Bool.eq_iff_iff]; simp [inB]; omega)

def mulB (k : Int) : Int := if k = 1 then 1 else if k = 2 then 3 else 10
def tolB (n k : Int) : Int := if inB n 1 100000 && inB k 1 3 then max (n / 1000) 1 * mulB k else 0

theorem spec_ToleranceOf (n k : Int) (w : World) : Calls Try.prog 71 #[.int .i64 n, .int .i64 k] w fun e w' => e = .returned (.int .i64 (tolB n k)) ∧ Below w.heap.size w w' := by
  by_cases h1 : inB n 1 100000 = true
  · by_cases h2 : inB k 1 3 = true
    · obtain ⟨b3, b4⟩ := inB_iff.1 h1
      obtain ⟨b5, b6⟩ := inB_iff.1 h2
      have hk : k = 1 ∨ k = 2 ∨ k = 3 := by omega
      rcases hk with rfl | rfl | rfl
      all_goals
        go_enter Try.func71, Try.ntmps71
        go_wp2_with (go_at_call 66; (with_reducible refine (l01In_any _ _ _ _).mono ?_); rintro _ _ ⟨rfl, rfl⟩)
        all_goals go_ret
        all_goals exact ⟨ret_int (by simp [tolB, mulB, h1, h2]; omega), (Below.refl _ _).alloc (Nat.le_refl _) _⟩
    · go_enter Try.func71, Try.ntmps71
      go_wp2_with (go_at_call 66; (with_reducible refine (l01In_any _ _ _ _).mono ?_); rintro _ _ ⟨rfl, rfl⟩)
      go_ret
      exact ⟨ret_int (by simp [tolB, *]), Below.refl _ _⟩
  · go_enter Try.func71, Try.ntmps71
    go_wp2_with (go_at_call 66; (with_reducible refine (l01In_any _ _ _ _).mono ?_); rintro _ _ ⟨rfl, rfl⟩)
    go_ret
    exact ⟨ret_int (by simp [tolB, *]), Below.refl _ _⟩

theorem impl_ToleranceOf (n k : Int) (w : World) : Calls Try.prog 36 #[.int .i64 n, .int .i64 k] w fun e w' => e = .returned (.int .i64 (tolB n k)) ∧ Below w.heap.size w w' := by
  by_cases h1 : inB n 1 100000 = true
  · by_cases h2 : inB k 1 3 = true
    · obtain ⟨b3, b4⟩ := inB_iff.1 h1
      obtain ⟨b5, b6⟩ := inB_iff.1 h2
      have hk : k = 1 ∨ k = 2 ∨ k = 3 := by omega
      rcases hk with rfl | rfl | rfl
      all_goals
        go_enter Try.func36, Try.ntmps36
        go_wp2_with (go_at_call 63; (with_reducible refine (in_any _ _ _ _).mono ?_); rintro _ _ ⟨rfl, rfl⟩)
        all_goals go_ret
        all_goals exact ⟨ret_int (by simp [tolB, mulB, h1, h2]; omega), (Below.refl _ _).alloc (Nat.le_refl _) _⟩
    · go_enter Try.func36, Try.ntmps36
      go_wp2_with (go_at_call 63; (with_reducible refine (in_any _ _ _ _).mono ?_); rintro _ _ ⟨rfl, rfl⟩)
      go_ret
      exact ⟨ret_int (by simp [tolB, *]), Below.refl _ _⟩
  · go_enter Try.func36, Try.ntmps36
    go_wp2_with (go_at_call 63; (with_reducible refine (in_any _ _ _ _).mono ?_); rintro _ _ ⟨rfl, rfl⟩)
    go_ret
    exact ⟨ret_int (by simp [tolB, *]), Below.refl _ _⟩

theorem tolB_pos {n k : Int} (h1 : inB n 1 100000 = true) (h2 : inB k 1 3 = true) : 1 ≤ tolB n k ∧ tolB n k ≤ 1000 := by
  obtain ⟨b3, b4⟩ := inB_iff.1 h1
  obtain ⟨b5, b6⟩ := inB_iff.1 h2
  have hk : k = 1 ∨ k = 2 ∨ k = 3 := by omega
  rcases hk with rfl | rfl | rfl <;> simp [tolB, mulB, h1, h2] <;> omega
theorem tolB_bd (n k : Int) : 0 ≤ tolB n k ∧ tolB n k ≤ 1000 := by
  by_cases h1 : inB n 1 100000 = true
  · by_cases h2 : inB k 1 3 = true
    · have := tolB_pos h1 h2; omega
    · simp [tolB, h1, h2]
  · simp [tolB, h1]

def verdB (a b c k : Int) : Int :=
  if findB a b c = true ∧ inB k 1 3 = true then
    if -(tolB a k) ≤ b ∧ c ≤ tolB a k then 1 else if c < -(tolB a k) ∨ tolB a k < b then 0 else 2
  else 0
theorem findB_inv {a b c : Int} (h : findB a b c = true) : inB a 1 100000 = true ∧ -100000 ≤ b ∧ b ≤ c ∧ c ≤ 100000 := by
  simp only [findB, Bool.and_eq_true, inB_iff] at h
  obtain ⟨⟨h1, h2⟩, h3⟩ := h
  exact ⟨inB_iff.2 h1, by omega, by omega, by omega⟩

theorem verdB_in {a b c k : Int} (h1 : findB a b c = true) (h2 : inB k 1 3 = true) : verdB a b c k = if -(tolB a k) ≤ b ∧ c ≤ tolB a k then 1 else if c < -(tolB a k) ∨ tolB a k < b then 0 else 2 := by unfold verdB; rw [if_pos ⟨h1, h2⟩]
theorem verdB_out {a b c k : Int} (h : ¬ findB a b c = true ∨ ¬ inB k 1 3 = true) : verdB a b c k = 0 := by
  unfold verdB; rw [if_neg]; rintro ⟨h1, h2⟩; rcases h with h | h <;> contradiction
theorem tolB_out {n k : Int} (h : ¬ inB k 1 3 = true) : tolB n k = 0 := by simp [tolB, h]
theorem box3 (w : World) (a b c : Int) (t : TypeId) : (w.alloc (.cells #[.int .i64 a, .int .i64 b, .int .i64 c] t)).cell? ⟨w.heap.size, 0, none⟩ = some (.int .i64 a) ∧
    (w.alloc (.cells #[.int .i64 a, .int .i64 b, .int .i64 c] t)).cell? ⟨w.heap.size, 1, none⟩ = some (.int .i64 b) ∧ (w.alloc (.cells #[.int .i64 a, .int .i64 b, .int .i64 c] t)).cell? ⟨w.heap.size, 2, none⟩ = some (.int .i64 c) ∧
    Below w.heap.size w (w.alloc (.cells #[.int .i64 a, .int .i64 b, .int .i64 c] t)) := ⟨by simp [World.cell?_alloc_new], by simp [World.cell?_alloc_new], by simp [World.cell?_alloc_new], (Below.refl _ _).alloc (Nat.le_refl _) _⟩

theorem impl_VerdictOf (a b c k : Int) (w : World) : Calls Try.prog 35 #[.agg #[.int .i64 a, .int .i64 b, .int .i64 c], .int .i64 k] w fun e w' => e = .returned (.int .i64 (verdB a b c k)) ∧ Below w.heap.size w w' := by
  obtain ⟨t0, t1⟩ := tolB_bd a k
  obtain ⟨c0, c1, c2, hB⟩ := box3 w a b c 54
  go_enter Try.func35, Try.ntmps35
  go_wp2_with (first | (go_at_call 37; (with_reducible refine (impl_FindingOk _ _ _ _).mono ?_); rintro _ w1 ⟨rfl, hb⟩; replace c0 := below_cell hb c0; replace c1 := below_cell hb c1; replace c2 := below_cell hb c2; replace hB := below_step hB hb; clear hb) | (go_at_call 36; (with_reducible refine (impl_ToleranceOf _ _ _).mono ?_); rintro _ w1 ⟨rfl, hb⟩; replace c0 := below_cell hb c0; replace c1 := below_cell hb c1; replace c2 := below_cell hb c2; replace hB := below_step hB hb; clear hb))
  all_goals go_ret
  all_goals refine ⟨ret_int ?_, hB⟩
  all_goals
    by_cases hf : findB a b c = true
    · obtain ⟨g1, g2, g3, g4⟩ := findB_inv hf
      by_cases hk : inB k 1 3 = true
      · have hp := tolB_pos g1 hk
        rw [verdB_in hf hk]
        first
          | (exfalso; simp_all; done)
          | ((try simp only [beq_iff_eq, beq_eq_false_iff_ne, ne_eq] at *); (repeat' split) <;> first | rfl | (exfalso; simp_all; done) | (exfalso; omega) | (exfalso; simp_all; omega))
      · rw [verdB_out (Or.inr hk)] <;> first | rfl | (exfalso; simp_all; done) | (exfalso; have hz := tolB_out (n := a) hk; simp_all; done) | (exfalso; have hz := tolB_out (n := a) hk; simp_all; omega)
    · rw [verdB_out (Or.inl hf)] <;> first | rfl | (exfalso; simp_all; done)

theorem verdB_bd (a b c k : Int) : verdB a b c k = 0 ∨ verdB a b c k = 1 ∨ verdB a b c k = 2 := by
  unfold verdB; repeat' split
  all_goals simp

def bestB (a b c : Int) : Int := if verdB a b c 1 = 1 then 1 else if verdB a b c 2 = 1 then 2 else if verdB a b c 3 = 1 then 3 else 0

theorem impl_BestClass (a b c : Int) (w : World) : Calls Try.prog 33 #[.agg #[.int .i64 a, .int .i64 b, .int .i64 c]] w fun e w' => e = .returned (.int .i64 (bestB a b c)) ∧ Below w.heap.size w w' := by
  obtain ⟨c0, c1, c2, hB⟩ := box3 w a b c 54
  go_enter Try.func33, Try.ntmps33
  go_wp2_with fail
  refine wp_loop_rounds 4 ?_
  repeat any_goals (rw [rounds_succ]; go_wp2_with (go_at_call 35; (with_reducible refine (impl_VerdictOf _ _ _ _ _).mono ?_); rintro _ w1 ⟨rfl, hb⟩; replace c0 := below_cell hb c0; replace c1 := below_cell hb c1; replace c2 := below_cell hb c2; replace hB := below_step hB hb; clear hb))
  all_goals go_ret
  all_goals refine ⟨ret_int ?_, hB⟩
  all_goals simp_all [bestB]
end Go.Proofs.Ytoalpihlflifmaa
