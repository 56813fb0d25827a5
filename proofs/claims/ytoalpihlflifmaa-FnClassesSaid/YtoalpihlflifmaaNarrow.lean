/- The contracts of NarrowFinding: for every two findings and every world, the program's function and the reference's return the same finding and bool (narV), and leave old memory alone. No conditions. -/
import Derived.Test.YtoalpihlflifmaaClass
namespace Go.Proofs.Ytoalpihlflifmaa
open Go.RowKit
set_option linter.unusedSimpArgs false
set_option linter.unusedVariables false
set_option maxHeartbeats 4000000
def narB (a b c d e f : Int) : Bool := findB a b c && findB d e f && decide (a = d) && decide (max b e ≤ min c f)
def narV (a b c d e f : Int) : Value := if narB a b c d e f = true then .tuple #[.agg #[.int .i64 a, .int .i64 (max b e), .int .i64 (min c f)], .bool true] else .tuple #[.agg #[.int .i64 0, .int .i64 0, .int .i64 0], .bool false]
theorem narV_cases {a b c d e f : Int} (P : Value → Prop) (hy : findB a b c = true → findB d e f = true → a = d → b ≤ c → b ≤ f → e ≤ c → e ≤ f → P (.tuple #[.agg #[.int .i64 a, .int .i64 (max b e), .int .i64 (min c f)], .bool true]))
    (hn : (findB a b c = true → findB d e f = true → a = d → (c < b ∨ f < b ∨ c < e ∨ f < e)) → P (.tuple #[.agg #[.int .i64 0, .int .i64 0, .int .i64 0], .bool false])) : P (narV a b c d e f) := by
  unfold narV
  by_cases h : narB a b c d e f = true
  · rw [if_pos h]
    simp only [narB, Bool.and_eq_true, decide_eq_true_eq] at h
    obtain ⟨⟨⟨h1, h2⟩, h3⟩, h4⟩ := h
    exact hy h1 h2 h3 (by omega) (by omega) (by omega) (by omega)
  · rw [if_neg h]
    apply hn
    intro h1 h2 h3
    simp only [narB, Bool.and_eq_true, decide_eq_true_eq] at h
    have h4 : ¬ max b e ≤ min c f := fun h4 => h ⟨⟨⟨h1, h2⟩, h3⟩, h4⟩
    omega
theorem nar_end {a b c x y z : Int} {o : Bool} (h1 : a = x) (h2 : b = y) (h3 : c = z) : Ending.returned (.tuple #[.agg #[.int .i64 a, .int .i64 b, .int .i64 c], .bool o]) = .returned (.tuple #[.agg #[.int .i64 x, .int .i64 y, .int .i64 z], .bool o]) := by rw [h1, h2, h3]

theorem impl_Narrow (a b c d e f : Int) (w : World) : Calls Try.prog 34 #[.agg #[.int .i64 a, .int .i64 b, .int .i64 c], .agg #[.int .i64 d, .int .i64 e, .int .i64 f]] w fun x w' => x = .returned (narV a b c d e f) ∧ Below w.heap.size w w' := by
  by_cases hbe : b < e
  · by_cases hfc : f < c
    · obtain ⟨W, hW⟩ : ∃ W, W = ((((w.alloc (.cells #[.int .i64 a, .int .i64 b, .int .i64 c] 54)).alloc (.cells #[.int .i64 d, .int .i64 e, .int .i64 f] 54)).alloc (.cells #[.int .i64 0, .int .i64 0, .int .i64 0] 54)).alloc (.cells #[.int .i64 a, .int .i64 e, .int .i64 f] 54)) := ⟨_, rfl⟩
      have c0 : W.cell? ⟨w.heap.size, 0, none⟩ = some (.int .i64 a) := by rw [hW]; simp [go_sem]
      have c1 : W.cell? ⟨w.heap.size, 1, none⟩ = some (.int .i64 b) := by rw [hW]; simp [go_sem]
      have c2 : W.cell? ⟨w.heap.size, 2, none⟩ = some (.int .i64 c) := by rw [hW]; simp [go_sem]
      have c3 : W.cell? ⟨w.heap.size + 1, 0, none⟩ = some (.int .i64 d) := by rw [hW]; simp [go_sem]
      have c4 : W.cell? ⟨w.heap.size + 1, 1, none⟩ = some (.int .i64 e) := by rw [hW]; simp [go_sem]
      have c5 : W.cell? ⟨w.heap.size + 1, 2, none⟩ = some (.int .i64 f) := by rw [hW]; simp [go_sem]
      have c6 : W.cell? ⟨w.heap.size + 2, 0, none⟩ = some (.int .i64 0) := by rw [hW]; simp [go_sem]
      have z6 : W.frozen? ⟨w.heap.size + 2, 0, none⟩ = false := by rw [hW]; simp [go_sem]
      have c7 : W.cell? ⟨w.heap.size + 2, 1, none⟩ = some (.int .i64 0) := by rw [hW]; simp [go_sem]
      have z7 : W.frozen? ⟨w.heap.size + 2, 1, none⟩ = false := by rw [hW]; simp [go_sem]
      have c8 : W.cell? ⟨w.heap.size + 2, 2, none⟩ = some (.int .i64 0) := by rw [hW]; simp [go_sem]
      have z8 : W.frozen? ⟨w.heap.size + 2, 2, none⟩ = false := by rw [hW]; simp [go_sem]
      have c9 : W.cell? ⟨w.heap.size + 3, 0, none⟩ = some (.int .i64 a) := by rw [hW]; simp [go_sem]
      have c10 : W.cell? ⟨w.heap.size + 3, 1, none⟩ = some (.int .i64 e) := by rw [hW]; simp [go_sem]
      have c11 : W.cell? ⟨w.heap.size + 3, 2, none⟩ = some (.int .i64 f) := by rw [hW]; simp [go_sem]
      have hB : Below w.heap.size w W := by rw [hW]; exact (((((Below.refl _ _).alloc (by simp <;> omega) _).alloc (by simp <;> omega) _).alloc (by simp <;> omega) _).alloc (by simp <;> omega) _)
      subst hW
      go_enter Try.func34, Try.ntmps34
      go_wp2_with (first | (go_at_call 37; (with_reducible refine (impl_FindingOk _ _ _ _).mono ?_); rintro _ w1 ⟨rfl, hb⟩; replace z6 := below_frozen hb (lt_of_cell c6) z6; replace z7 := below_frozen hb (lt_of_cell c7) z7; replace z8 := below_frozen hb (lt_of_cell c8) z8; replace c0 := below_cell hb c0; replace c1 := below_cell hb c1; replace c2 := below_cell hb c2; replace c3 := below_cell hb c3; replace c4 := below_cell hb c4; replace c5 := below_cell hb c5; replace c6 := below_cell hb c6; replace c7 := below_cell hb c7; replace c8 := below_cell hb c8; replace c9 := below_cell hb c9; replace c10 := below_cell hb c10; replace c11 := below_cell hb c11; replace hB := below_step hB hb; clear hb))
      all_goals refine bodyPost_ret (by simp [results, Try.results34, go_sem, *]; rfl) rfl ⟨?_, by (repeat (first | exact Below.refl _ _ | assumption | (refine Below.drew ?_) | (refine below_alloc ?_ _) | (refine Below.setCell ?_ (by first | (simp; done) | (simp; omega) | omega | (have hq := hB.size; (try simp at hq ⊢); omega)) _) | (refine Below.alloc ?_ (by first | (simp; done) | (simp; omega) | omega | (have hq := hB.size; (try simp at hq ⊢); omega)) _) | (refine below_step ?_ (by assumption))))⟩
      all_goals refine narV_cases (P := fun v => Ending.returned _ = Ending.returned v) (fun g1 g2 g3 g4 g5 g6 g7 => ?_) (fun g1 => ?_)
      all_goals first | (refine nar_end ?_ ?_ ?_ <;> omega) | (exfalso; simp_all; done) | (exfalso; simp_all; omega)
    · obtain ⟨W, hW⟩ : ∃ W, W = ((((w.alloc (.cells #[.int .i64 a, .int .i64 b, .int .i64 c] 54)).alloc (.cells #[.int .i64 d, .int .i64 e, .int .i64 f] 54)).alloc (.cells #[.int .i64 0, .int .i64 0, .int .i64 0] 54)).alloc (.cells #[.int .i64 a, .int .i64 e, .int .i64 c] 54)) := ⟨_, rfl⟩
      have c0 : W.cell? ⟨w.heap.size, 0, none⟩ = some (.int .i64 a) := by rw [hW]; simp [go_sem]
      have c1 : W.cell? ⟨w.heap.size, 1, none⟩ = some (.int .i64 b) := by rw [hW]; simp [go_sem]
      have c2 : W.cell? ⟨w.heap.size, 2, none⟩ = some (.int .i64 c) := by rw [hW]; simp [go_sem]
      have c3 : W.cell? ⟨w.heap.size + 1, 0, none⟩ = some (.int .i64 d) := by rw [hW]; simp [go_sem]
      have c4 : W.cell? ⟨w.heap.size + 1, 1, none⟩ = some (.int .i64 e) := by rw [hW]; simp [go_sem]
      have c5 : W.cell? ⟨w.heap.size + 1, 2, none⟩ = some (.int .i64 f) := by rw [hW]; simp [go_sem]
      have c6 : W.cell? ⟨w.heap.size + 2, 0, none⟩ = some (.int .i64 0) := by rw [hW]; simp [go_sem]
      have z6 : W.frozen? ⟨w.heap.size + 2, 0, none⟩ = false := by rw [hW]; simp [go_sem]
      have c7 : W.cell? ⟨w.heap.size + 2, 1, none⟩ = some (.int .i64 0) := by rw [hW]; simp [go_sem]
      have z7 : W.frozen? ⟨w.heap.size + 2, 1, none⟩ = false := by rw [hW]; simp [go_sem]
      have c8 : W.cell? ⟨w.heap.size + 2, 2, none⟩ = some (.int .i64 0) := by rw [hW]; simp [go_sem]
      have z8 : W.frozen? ⟨w.heap.size + 2, 2, none⟩ = false := by rw [hW]; simp [go_sem]
      have c9 : W.cell? ⟨w.heap.size + 3, 0, none⟩ = some (.int .i64 a) := by rw [hW]; simp [go_sem]
      have c10 : W.cell? ⟨w.heap.size + 3, 1, none⟩ = some (.int .i64 e) := by rw [hW]; simp [go_sem]
      have c11 : W.cell? ⟨w.heap.size + 3, 2, none⟩ = some (.int .i64 c) := by rw [hW]; simp [go_sem]
      have hB : Below w.heap.size w W := by rw [hW]; exact (((((Below.refl _ _).alloc (by simp <;> omega) _).alloc (by simp <;> omega) _).alloc (by simp <;> omega) _).alloc (by simp <;> omega) _)
      subst hW
      go_enter Try.func34, Try.ntmps34
      go_wp2_with (first | (go_at_call 37; (with_reducible refine (impl_FindingOk _ _ _ _).mono ?_); rintro _ w1 ⟨rfl, hb⟩; replace z6 := below_frozen hb (lt_of_cell c6) z6; replace z7 := below_frozen hb (lt_of_cell c7) z7; replace z8 := below_frozen hb (lt_of_cell c8) z8; replace c0 := below_cell hb c0; replace c1 := below_cell hb c1; replace c2 := below_cell hb c2; replace c3 := below_cell hb c3; replace c4 := below_cell hb c4; replace c5 := below_cell hb c5; replace c6 := below_cell hb c6; replace c7 := below_cell hb c7; replace c8 := below_cell hb c8; replace c9 := below_cell hb c9; replace c10 := below_cell hb c10; replace c11 := below_cell hb c11; replace hB := below_step hB hb; clear hb))
      all_goals refine bodyPost_ret (by simp [results, Try.results34, go_sem, *]; rfl) rfl ⟨?_, by (repeat (first | exact Below.refl _ _ | assumption | (refine Below.drew ?_) | (refine below_alloc ?_ _) | (refine Below.setCell ?_ (by first | (simp; done) | (simp; omega) | omega | (have hq := hB.size; (try simp at hq ⊢); omega)) _) | (refine Below.alloc ?_ (by first | (simp; done) | (simp; omega) | omega | (have hq := hB.size; (try simp at hq ⊢); omega)) _) | (refine below_step ?_ (by assumption))))⟩
      all_goals refine narV_cases (P := fun v => Ending.returned _ = Ending.returned v) (fun g1 g2 g3 g4 g5 g6 g7 => ?_) (fun g1 => ?_)
      all_goals first | (refine nar_end ?_ ?_ ?_ <;> omega) | (exfalso; simp_all; done) | (exfalso; simp_all; omega)
  · by_cases hfc : f < c
    · obtain ⟨W, hW⟩ : ∃ W, W = ((((w.alloc (.cells #[.int .i64 a, .int .i64 b, .int .i64 c] 54)).alloc (.cells #[.int .i64 d, .int .i64 e, .int .i64 f] 54)).alloc (.cells #[.int .i64 0, .int .i64 0, .int .i64 0] 54)).alloc (.cells #[.int .i64 a, .int .i64 b, .int .i64 f] 54)) := ⟨_, rfl⟩
      have c0 : W.cell? ⟨w.heap.size, 0, none⟩ = some (.int .i64 a) := by rw [hW]; simp [go_sem]
      have c1 : W.cell? ⟨w.heap.size, 1, none⟩ = some (.int .i64 b) := by rw [hW]; simp [go_sem]
      have c2 : W.cell? ⟨w.heap.size, 2, none⟩ = some (.int .i64 c) := by rw [hW]; simp [go_sem]
      have c3 : W.cell? ⟨w.heap.size + 1, 0, none⟩ = some (.int .i64 d) := by rw [hW]; simp [go_sem]
      have c4 : W.cell? ⟨w.heap.size + 1, 1, none⟩ = some (.int .i64 e) := by rw [hW]; simp [go_sem]
      have c5 : W.cell? ⟨w.heap.size + 1, 2, none⟩ = some (.int .i64 f) := by rw [hW]; simp [go_sem]
      have c6 : W.cell? ⟨w.heap.size + 2, 0, none⟩ = some (.int .i64 0) := by rw [hW]; simp [go_sem]
      have z6 : W.frozen? ⟨w.heap.size + 2, 0, none⟩ = false := by rw [hW]; simp [go_sem]
      have c7 : W.cell? ⟨w.heap.size + 2, 1, none⟩ = some (.int .i64 0) := by rw [hW]; simp [go_sem]
      have z7 : W.frozen? ⟨w.heap.size + 2, 1, none⟩ = false := by rw [hW]; simp [go_sem]
      have c8 : W.cell? ⟨w.heap.size + 2, 2, none⟩ = some (.int .i64 0) := by rw [hW]; simp [go_sem]
      have z8 : W.frozen? ⟨w.heap.size + 2, 2, none⟩ = false := by rw [hW]; simp [go_sem]
      have c9 : W.cell? ⟨w.heap.size + 3, 0, none⟩ = some (.int .i64 a) := by rw [hW]; simp [go_sem]
      have c10 : W.cell? ⟨w.heap.size + 3, 1, none⟩ = some (.int .i64 b) := by rw [hW]; simp [go_sem]
      have c11 : W.cell? ⟨w.heap.size + 3, 2, none⟩ = some (.int .i64 f) := by rw [hW]; simp [go_sem]
      have hB : Below w.heap.size w W := by rw [hW]; exact (((((Below.refl _ _).alloc (by simp <;> omega) _).alloc (by simp <;> omega) _).alloc (by simp <;> omega) _).alloc (by simp <;> omega) _)
      subst hW
      go_enter Try.func34, Try.ntmps34
      go_wp2_with (first | (go_at_call 37; (with_reducible refine (impl_FindingOk _ _ _ _).mono ?_); rintro _ w1 ⟨rfl, hb⟩; replace z6 := below_frozen hb (lt_of_cell c6) z6; replace z7 := below_frozen hb (lt_of_cell c7) z7; replace z8 := below_frozen hb (lt_of_cell c8) z8; replace c0 := below_cell hb c0; replace c1 := below_cell hb c1; replace c2 := below_cell hb c2; replace c3 := below_cell hb c3; replace c4 := below_cell hb c4; replace c5 := below_cell hb c5; replace c6 := below_cell hb c6; replace c7 := below_cell hb c7; replace c8 := below_cell hb c8; replace c9 := below_cell hb c9; replace c10 := below_cell hb c10; replace c11 := below_cell hb c11; replace hB := below_step hB hb; clear hb))
      all_goals refine bodyPost_ret (by simp [results, Try.results34, go_sem, *]; rfl) rfl ⟨?_, by (repeat (first | exact Below.refl _ _ | assumption | (refine Below.drew ?_) | (refine below_alloc ?_ _) | (refine Below.setCell ?_ (by first | (simp; done) | (simp; omega) | omega | (have hq := hB.size; (try simp at hq ⊢); omega)) _) | (refine Below.alloc ?_ (by first | (simp; done) | (simp; omega) | omega | (have hq := hB.size; (try simp at hq ⊢); omega)) _) | (refine below_step ?_ (by assumption))))⟩
      all_goals refine narV_cases (P := fun v => Ending.returned _ = Ending.returned v) (fun g1 g2 g3 g4 g5 g6 g7 => ?_) (fun g1 => ?_)
      all_goals first | (refine nar_end ?_ ?_ ?_ <;> omega) | (exfalso; simp_all; done) | (exfalso; simp_all; omega)
    · obtain ⟨W, hW⟩ : ∃ W, W = ((((w.alloc (.cells #[.int .i64 a, .int .i64 b, .int .i64 c] 54)).alloc (.cells #[.int .i64 d, .int .i64 e, .int .i64 f] 54)).alloc (.cells #[.int .i64 0, .int .i64 0, .int .i64 0] 54)).alloc (.cells #[.int .i64 a, .int .i64 b, .int .i64 c] 54)) := ⟨_, rfl⟩
      have c0 : W.cell? ⟨w.heap.size, 0, none⟩ = some (.int .i64 a) := by rw [hW]; simp [go_sem]
      have c1 : W.cell? ⟨w.heap.size, 1, none⟩ = some (.int .i64 b) := by rw [hW]; simp [go_sem]
      have c2 : W.cell? ⟨w.heap.size, 2, none⟩ = some (.int .i64 c) := by rw [hW]; simp [go_sem]
      have c3 : W.cell? ⟨w.heap.size + 1, 0, none⟩ = some (.int .i64 d) := by rw [hW]; simp [go_sem]
      have c4 : W.cell? ⟨w.heap.size + 1, 1, none⟩ = some (.int .i64 e) := by rw [hW]; simp [go_sem]
      have c5 : W.cell? ⟨w.heap.size + 1, 2, none⟩ = some (.int .i64 f) := by rw [hW]; simp [go_sem]
      have c6 : W.cell? ⟨w.heap.size + 2, 0, none⟩ = some (.int .i64 0) := by rw [hW]; simp [go_sem]
      have z6 : W.frozen? ⟨w.heap.size + 2, 0, none⟩ = false := by rw [hW]; simp [go_sem]
      have c7 : W.cell? ⟨w.heap.size + 2, 1, none⟩ = some (.int .i64 0) := by rw [hW]; simp [go_sem]
      have z7 : W.frozen? ⟨w.heap.size + 2, 1, none⟩ = false := by rw [hW]; simp [go_sem]
      have c8 : W.cell? ⟨w.heap.size + 2, 2, none⟩ = some (.int .i64 0) := by rw [hW]; simp [go_sem]
      have z8 : W.frozen? ⟨w.heap.size + 2, 2, none⟩ = false := by rw [hW]; simp [go_sem]
      have c9 : W.cell? ⟨w.heap.size + 3, 0, none⟩ = some (.int .i64 a) := by rw [hW]; simp [go_sem]
      have c10 : W.cell? ⟨w.heap.size + 3, 1, none⟩ = some (.int .i64 b) := by rw [hW]; simp [go_sem]
      have c11 : W.cell? ⟨w.heap.size + 3, 2, none⟩ = some (.int .i64 c) := by rw [hW]; simp [go_sem]
      have hB : Below w.heap.size w W := by rw [hW]; exact (((((Below.refl _ _).alloc (by simp <;> omega) _).alloc (by simp <;> omega) _).alloc (by simp <;> omega) _).alloc (by simp <;> omega) _)
      subst hW
      go_enter Try.func34, Try.ntmps34
      go_wp2_with (first | (go_at_call 37; (with_reducible refine (impl_FindingOk _ _ _ _).mono ?_); rintro _ w1 ⟨rfl, hb⟩; replace z6 := below_frozen hb (lt_of_cell c6) z6; replace z7 := below_frozen hb (lt_of_cell c7) z7; replace z8 := below_frozen hb (lt_of_cell c8) z8; replace c0 := below_cell hb c0; replace c1 := below_cell hb c1; replace c2 := below_cell hb c2; replace c3 := below_cell hb c3; replace c4 := below_cell hb c4; replace c5 := below_cell hb c5; replace c6 := below_cell hb c6; replace c7 := below_cell hb c7; replace c8 := below_cell hb c8; replace c9 := below_cell hb c9; replace c10 := below_cell hb c10; replace c11 := below_cell hb c11; replace hB := below_step hB hb; clear hb))
      all_goals refine bodyPost_ret (by simp [results, Try.results34, go_sem, *]; rfl) rfl ⟨?_, by (repeat (first | exact Below.refl _ _ | assumption | (refine Below.drew ?_) | (refine below_alloc ?_ _) | (refine Below.setCell ?_ (by first | (simp; done) | (simp; omega) | omega | (have hq := hB.size; (try simp at hq ⊢); omega)) _) | (refine Below.alloc ?_ (by first | (simp; done) | (simp; omega) | omega | (have hq := hB.size; (try simp at hq ⊢); omega)) _) | (refine below_step ?_ (by assumption))))⟩
      all_goals refine narV_cases (P := fun v => Ending.returned _ = Ending.returned v) (fun g1 g2 g3 g4 g5 g6 g7 => ?_) (fun g1 => ?_)
      all_goals first | (refine nar_end ?_ ?_ ?_ <;> omega) | (exfalso; simp_all; done) | (exfalso; simp_all; omega)
end Go.Proofs.Ytoalpihlflifmaa
