/- The contracts of AcceptChance and the walk of its law. No conditions. -/
import Derived.Test.YtoalpihlflifmaaFracS
import Derived.Test.YtoalpihlflifmaaSample
import Derived.Test.YtoalpihlflifmaaFractionS
namespace Go.Proofs.Ytoalpihlflifmaa
open Go.RowKit
set_option linter.unusedSimpArgs false
set_option linter.unusedVariables false
set_option maxHeartbeats 1000000
theorem countB_bd (a b c bad : Int) : -1 ≤ countB a b c bad := by
  unfold countB; split
  · have := (countN_bd a b bad (c.toNat + 1)).1; omega
  · omega
theorem mkV_form (t b : Int) : ∃ (X Y : Int) (O : Bool), mkV t b = .tuple #[.agg #[.int .i64 X, .int .i64 Y], .bool O] := by
  unfold mkV; split
  · exact ⟨0, 0, false, rfl⟩
  · exact redV_form t b
def accV (a b c bad : Int) : Value := if countB a b c bad = -1 then frZ else mkV (countB a b c bad) (chooseB a b)
theorem accV_form (a b c bad : Int) : ∃ (X Y : Int) (O : Bool), accV a b c bad = .tuple #[.agg #[.int .i64 X, .int .i64 Y], .bool O] := by
  unfold accV; split
  · exact ⟨0, 0, false, rfl⟩
  · exact mkV_form _ _
theorem impl_Accept (a b c bad : Int) (w : World) : Calls Try.prog 13 #[.agg #[.int .i64 a, .int .i64 b, .int .i64 c], .int .i64 bad] w fun e w' => e = .returned (accV a b c bad) ∧ Below w.heap.size w w' := by
  have hC := fun w => impl_CountAccepting a b c bad w
  have hK := fun w => impl_ChooseOf a b w
  by_cases h : countB a b c bad = -1
  · have e0 : accV a b c bad = frZ := if_pos h
    rw [e0]
    rw [h] at hC
    clear h e0
    obtain ⟨W, hW⟩ : ∃ W, W = ((w.alloc (.cells #[.int .i64 a, .int .i64 b, .int .i64 c] 28)).alloc (.cells #[.int .i64 0, .int .i64 0] 25)) := ⟨_, rfl⟩
    have c0 : W.cell? ⟨w.heap.size, 0, none⟩ = some (.int .i64 a) := by rw [hW]; simp [go_sem]
    have c1 : W.cell? ⟨w.heap.size, 1, none⟩ = some (.int .i64 b) := by rw [hW]; simp [go_sem]
    have c2 : W.cell? ⟨w.heap.size, 2, none⟩ = some (.int .i64 c) := by rw [hW]; simp [go_sem]
    have c3 : W.cell? ⟨w.heap.size + 1, 0, none⟩ = some (.int .i64 0) := by rw [hW]; simp [go_sem]
    have z3 : W.frozen? ⟨w.heap.size + 1, 0, none⟩ = false := by rw [hW]; simp [go_sem]
    have c4 : W.cell? ⟨w.heap.size + 1, 1, none⟩ = some (.int .i64 0) := by rw [hW]; simp [go_sem]
    have z4 : W.frozen? ⟨w.heap.size + 1, 1, none⟩ = false := by rw [hW]; simp [go_sem]
    have hB : Below w.heap.size w W := by rw [hW]; exact (((Below.refl _ _).alloc (by simp <;> omega) _).alloc (by simp <;> omega) _)
    subst hW
    go_enter Try.func13, Try.ntmps13
    ((go_wp2_with fail); (with_reducible refine (hC _).mono ?_); rintro _ w1 ⟨rfl, hb⟩; replace z3 := below_frozen hb (lt_of_cell c3) z3; replace z4 := below_frozen hb (lt_of_cell c4) z4; replace c0 := below_cell hb c0; replace c1 := below_cell hb c1; replace c2 := below_cell hb c2; replace c3 := below_cell hb c3; replace c4 := below_cell hb c4; replace hB := below_step hB hb; clear hb)
    go_wp2_with fail
    refine bodyPost_ret (by first | (simp [results, Try.results13, go_sem, *]; done) | (simp [results, Try.results13, go_sem, *]; rfl)) rfl ⟨rfl, by (repeat (first | exact Below.refl _ _ | assumption | (refine Below.drew ?_) | (refine below_alloc ?_ _) | (refine Below.setCell ?_ (by first | (simp; done) | (simp; omega) | omega | (have hq := hB.size; (try simp at hq ⊢); omega)) _) | (refine Below.alloc ?_ (by first | (simp; done) | (simp; omega) | omega | (have hq := hB.size; (try simp at hq ⊢); omega)) _) | (refine below_step ?_ (by assumption))))⟩
  · have e0 : accV a b c bad = mkV (countB a b c bad) (chooseB a b) := if_neg h
    have hM := fun w => impl_Make (countB a b c bad) (chooseB a b) w
    rw [e0]
    clear e0
    obtain ⟨X, Y, O, hv⟩ := mkV_form (countB a b c bad) (chooseB a b)
    simp only [hv] at hM ⊢
    clear hv
    have hne : (countB a b c bad == -1) = false := by simp [h]
    clear h
    revert hM hC hK hne
    generalize countB a b c bad = n
    generalize chooseB a b = m
    intro hC hK hM hne
    obtain ⟨W, hW⟩ : ∃ W, W = ((w.alloc (.cells #[.int .i64 a, .int .i64 b, .int .i64 c] 28)).alloc (.cells #[.int .i64 0, .int .i64 0] 25)) := ⟨_, rfl⟩
    have c0 : W.cell? ⟨w.heap.size, 0, none⟩ = some (.int .i64 a) := by rw [hW]; simp [go_sem]
    have c1 : W.cell? ⟨w.heap.size, 1, none⟩ = some (.int .i64 b) := by rw [hW]; simp [go_sem]
    have c2 : W.cell? ⟨w.heap.size, 2, none⟩ = some (.int .i64 c) := by rw [hW]; simp [go_sem]
    have c3 : W.cell? ⟨w.heap.size + 1, 0, none⟩ = some (.int .i64 0) := by rw [hW]; simp [go_sem]
    have z3 : W.frozen? ⟨w.heap.size + 1, 0, none⟩ = false := by rw [hW]; simp [go_sem]
    have c4 : W.cell? ⟨w.heap.size + 1, 1, none⟩ = some (.int .i64 0) := by rw [hW]; simp [go_sem]
    have z4 : W.frozen? ⟨w.heap.size + 1, 1, none⟩ = false := by rw [hW]; simp [go_sem]
    have hB : Below w.heap.size w W := by rw [hW]; exact (((Below.refl _ _).alloc (by simp <;> omega) _).alloc (by simp <;> omega) _)
    subst hW
    go_enter Try.func13, Try.ntmps13
    ((go_wp2_with fail); (with_reducible refine (hC _).mono ?_); rintro _ w1 ⟨rfl, hb⟩; replace z3 := below_frozen hb (lt_of_cell c3) z3; replace z4 := below_frozen hb (lt_of_cell c4) z4; replace c0 := below_cell hb c0; replace c1 := below_cell hb c1; replace c2 := below_cell hb c2; replace c3 := below_cell hb c3; replace c4 := below_cell hb c4; replace hB := below_step hB hb; clear hb)
    ((go_wp2_with fail); (with_reducible refine (hK _).mono ?_); rintro _ w1 ⟨rfl, hb⟩; replace z3 := below_frozen hb (lt_of_cell c3) z3; replace z4 := below_frozen hb (lt_of_cell c4) z4; replace c0 := below_cell hb c0; replace c1 := below_cell hb c1; replace c2 := below_cell hb c2; replace c3 := below_cell hb c3; replace c4 := below_cell hb c4; replace hB := below_step hB hb; clear hb)
    ((go_wp2_with fail); (with_reducible refine (hM _).mono ?_); rintro _ w1 ⟨rfl, hb⟩; replace z3 := below_frozen hb (lt_of_cell c3) z3; replace z4 := below_frozen hb (lt_of_cell c4) z4; replace c0 := below_cell hb c0; replace c1 := below_cell hb c1; replace c2 := below_cell hb c2; replace c3 := below_cell hb c3; replace c4 := below_cell hb c4; replace hB := below_step hB hb; clear hb)
    go_wp2_with fail
    refine bodyPost_ret (by first | (simp [results, Try.results13, go_sem, *]; done) | (simp [results, Try.results13, go_sem, *]; rfl)) rfl ⟨rfl, by (repeat (first | exact Below.refl _ _ | assumption | (refine Below.drew ?_) | (refine below_alloc ?_ _) | (refine Below.setCell ?_ (by first | (simp; done) | (simp; omega) | omega | (have hq := hB.size; (try simp at hq ⊢); omega)) _) | (refine Below.alloc ?_ (by first | (simp; done) | (simp; omega) | omega | (have hq := hB.size; (try simp at hq ⊢); omega)) _) | (refine below_step ?_ (by assumption))))⟩
theorem spec_Accept (a b c bad : Int) (w : World) : Calls Try.prog 11 #[.agg #[.int .i64 a, .int .i64 b, .int .i64 c], .int .i64 bad] w fun e w' => e = .returned (accV a b c bad) ∧ Below w.heap.size w w' := by
  have hC := fun w => spec_CountAccepting a b c bad w
  have hK := fun w => spec_ChooseOf a b w
  by_cases h : countB a b c bad = -1
  · have e0 : accV a b c bad = frZ := if_pos h
    rw [e0]
    rw [h] at hC
    clear h e0
    obtain ⟨W, hW⟩ : ∃ W, W = ((w.alloc (.cells #[.int .i64 a, .int .i64 b, .int .i64 c] 28)).alloc (.cells #[.int .i64 0, .int .i64 0] 25)) := ⟨_, rfl⟩
    have c0 : W.cell? ⟨w.heap.size, 0, none⟩ = some (.int .i64 a) := by rw [hW]; simp [go_sem]
    have c1 : W.cell? ⟨w.heap.size, 1, none⟩ = some (.int .i64 b) := by rw [hW]; simp [go_sem]
    have c2 : W.cell? ⟨w.heap.size, 2, none⟩ = some (.int .i64 c) := by rw [hW]; simp [go_sem]
    have c3 : W.cell? ⟨w.heap.size + 1, 0, none⟩ = some (.int .i64 0) := by rw [hW]; simp [go_sem]
    have z3 : W.frozen? ⟨w.heap.size + 1, 0, none⟩ = false := by rw [hW]; simp [go_sem]
    have c4 : W.cell? ⟨w.heap.size + 1, 1, none⟩ = some (.int .i64 0) := by rw [hW]; simp [go_sem]
    have z4 : W.frozen? ⟨w.heap.size + 1, 1, none⟩ = false := by rw [hW]; simp [go_sem]
    have hB : Below w.heap.size w W := by rw [hW]; exact (((Below.refl _ _).alloc (by simp <;> omega) _).alloc (by simp <;> omega) _)
    subst hW
    go_enter Try.func11, Try.ntmps11
    ((go_wp2_with fail); (with_reducible refine (hC _).mono ?_); rintro _ w1 ⟨rfl, hb⟩; replace z3 := below_frozen hb (lt_of_cell c3) z3; replace z4 := below_frozen hb (lt_of_cell c4) z4; replace c0 := below_cell hb c0; replace c1 := below_cell hb c1; replace c2 := below_cell hb c2; replace c3 := below_cell hb c3; replace c4 := below_cell hb c4; replace hB := below_step hB hb; clear hb)
    go_wp2_with fail
    refine bodyPost_ret (by first | (simp [results, Try.results11, go_sem, *]; done) | (simp [results, Try.results11, go_sem, *]; rfl)) rfl ⟨rfl, by (repeat (first | exact Below.refl _ _ | assumption | (refine Below.drew ?_) | (refine below_alloc ?_ _) | (refine Below.setCell ?_ (by first | (simp; done) | (simp; omega) | omega | (have hq := hB.size; (try simp at hq ⊢); omega)) _) | (refine Below.alloc ?_ (by first | (simp; done) | (simp; omega) | omega | (have hq := hB.size; (try simp at hq ⊢); omega)) _) | (refine below_step ?_ (by assumption))))⟩
  · have e0 : accV a b c bad = mkV (countB a b c bad) (chooseB a b) := if_neg h
    have hM := fun w => spec_Make (countB a b c bad) (chooseB a b) w
    have hnn := countB_bd a b c bad
    rw [e0]
    clear e0
    obtain ⟨X, Y, O, hv⟩ := mkV_form (countB a b c bad) (chooseB a b)
    simp only [hv] at hM ⊢
    clear hv
    have hne : ¬ countB a b c bad < 0 := by omega
    clear h hnn
    revert hM hC hK hne
    generalize countB a b c bad = n
    generalize chooseB a b = m
    intro hC hK hM hne
    obtain ⟨W, hW⟩ : ∃ W, W = ((w.alloc (.cells #[.int .i64 a, .int .i64 b, .int .i64 c] 28)).alloc (.cells #[.int .i64 0, .int .i64 0] 25)) := ⟨_, rfl⟩
    have c0 : W.cell? ⟨w.heap.size, 0, none⟩ = some (.int .i64 a) := by rw [hW]; simp [go_sem]
    have c1 : W.cell? ⟨w.heap.size, 1, none⟩ = some (.int .i64 b) := by rw [hW]; simp [go_sem]
    have c2 : W.cell? ⟨w.heap.size, 2, none⟩ = some (.int .i64 c) := by rw [hW]; simp [go_sem]
    have c3 : W.cell? ⟨w.heap.size + 1, 0, none⟩ = some (.int .i64 0) := by rw [hW]; simp [go_sem]
    have z3 : W.frozen? ⟨w.heap.size + 1, 0, none⟩ = false := by rw [hW]; simp [go_sem]
    have c4 : W.cell? ⟨w.heap.size + 1, 1, none⟩ = some (.int .i64 0) := by rw [hW]; simp [go_sem]
    have z4 : W.frozen? ⟨w.heap.size + 1, 1, none⟩ = false := by rw [hW]; simp [go_sem]
    have hB : Below w.heap.size w W := by rw [hW]; exact (((Below.refl _ _).alloc (by simp <;> omega) _).alloc (by simp <;> omega) _)
    subst hW
    go_enter Try.func11, Try.ntmps11
    ((go_wp2_with fail); (with_reducible refine (hC _).mono ?_); rintro _ w1 ⟨rfl, hb⟩; replace z3 := below_frozen hb (lt_of_cell c3) z3; replace z4 := below_frozen hb (lt_of_cell c4) z4; replace c0 := below_cell hb c0; replace c1 := below_cell hb c1; replace c2 := below_cell hb c2; replace c3 := below_cell hb c3; replace c4 := below_cell hb c4; replace hB := below_step hB hb; clear hb)
    ((go_wp2_with fail); (with_reducible refine (hK _).mono ?_); rintro _ w1 ⟨rfl, hb⟩; replace z3 := below_frozen hb (lt_of_cell c3) z3; replace z4 := below_frozen hb (lt_of_cell c4) z4; replace c0 := below_cell hb c0; replace c1 := below_cell hb c1; replace c2 := below_cell hb c2; replace c3 := below_cell hb c3; replace c4 := below_cell hb c4; replace hB := below_step hB hb; clear hb)
    ((go_wp2_with fail); (with_reducible refine (hM _).mono ?_); rintro _ w1 ⟨rfl, hb⟩; replace z3 := below_frozen hb (lt_of_cell c3) z3; replace z4 := below_frozen hb (lt_of_cell c4) z4; replace c0 := below_cell hb c0; replace c1 := below_cell hb c1; replace c2 := below_cell hb c2; replace c3 := below_cell hb c3; replace c4 := below_cell hb c4; replace hB := below_step hB hb; clear hb)
    go_wp2_with fail
    refine bodyPost_ret (by first | (simp [results, Try.results11, go_sem, *]; done) | (simp [results, Try.results11, go_sem, *]; rfl)) rfl ⟨rfl, by (repeat (first | exact Below.refl _ _ | assumption | (refine Below.drew ?_) | (refine below_alloc ?_ _) | (refine Below.setCell ?_ (by first | (simp; done) | (simp; omega) | omega | (have hq := hB.size; (try simp at hq ⊢); omega)) _) | (refine Below.alloc ?_ (by first | (simp; done) | (simp; omega) | omega | (have hq := hB.size; (try simp at hq ⊢); omega)) _) | (refine below_step ?_ (by assumption))))⟩
theorem toPlan_any (a b c : Int) (w : World) : Calls Try.prog 12 #[.agg #[.int .i64 a, .int .i64 b, .int .i64 c]] w fun e w' => e = .returned (.agg #[.int .i64 a, .int .i64 b, .int .i64 c]) ∧ Below w.heap.size w w' := by
  go_enter Try.func12, Try.ntmps12
  go_wp2
  exact bodyPost_ret (v := .agg #[.int .i64 a, .int .i64 b, .int .i64 c]) (by simp [results, Try.results12, go_sem]) rfl ⟨rfl, by (repeat (first | exact Below.refl _ _ | assumption | (refine Below.drew ?_) | (refine below_alloc ?_ _) | (refine Below.setCell ?_ (by first | (simp; done) | (simp; omega) | omega | (have hq := hB.size; (try simp at hq ⊢); omega)) _) | (refine Below.alloc ?_ (by first | (simp; done) | (simp; omega) | omega | (have hq := hB.size; (try simp at hq ⊢); omega)) _) | (refine below_step ?_ (by assumption))))⟩
theorem walkAccept (a b c bad : Int) (w : World) : Calls Try.prog 3 #[.agg #[.int .i64 a, .int .i64 b, .int .i64 c], .int .i64 bad] w fun x w' => x = .returned (.bool true) ∧ Below w.heap.size w w' := by
  have hS := fun w => spec_Accept a b c bad w
  have hI := fun w => impl_Accept a b c bad w
  obtain ⟨X, Y, O, hv⟩ := accV_form a b c bad
  simp only [hv] at hS hI
  clear hv
  have ob : (O != O) = false := by simp
  obtain ⟨W, hW⟩ : ∃ W, W = (w.alloc (.cells #[.int .i64 a, .int .i64 b, .int .i64 c] 23)) := ⟨_, rfl⟩
  have c0 : W.cell? ⟨w.heap.size, 0, none⟩ = some (.int .i64 a) := by rw [hW]; simp [go_sem]
  have c1 : W.cell? ⟨w.heap.size, 1, none⟩ = some (.int .i64 b) := by rw [hW]; simp [go_sem]
  have c2 : W.cell? ⟨w.heap.size, 2, none⟩ = some (.int .i64 c) := by rw [hW]; simp [go_sem]
  have hB : Below w.heap.size w W := by rw [hW]; exact ((Below.refl _ _).alloc (by simp <;> omega) _)
  subst hW
  go_enter Try.func3, Try.ntmps3
  ((go_wp2_with fail); (with_reducible refine (toPlan_any _ _ _ _).mono ?_); rintro _ w1 ⟨rfl, hb⟩; replace c0 := below_cell hb c0; replace c1 := below_cell hb c1; replace c2 := below_cell hb c2; replace hB := below_step hB hb; clear hb)
  ((go_wp2_with fail); (with_reducible refine (hS _).mono ?_); rintro _ w1 ⟨rfl, hb⟩; replace c0 := below_cell hb c0; replace c1 := below_cell hb c1; replace c2 := below_cell hb c2; replace hB := below_step hB hb; clear hb)
  have hb := below_alloc (Below.refl w1.heap.size w1) (.cells #[.int .i64 X, .int .i64 Y] 25)
  have c3 : (w1.alloc (.cells #[.int .i64 X, .int .i64 Y] 25)).cell? ⟨w1.heap.size, 0, none⟩ = some (.int .i64 X) := by simp [go_sem]
  have c4 : (w1.alloc (.cells #[.int .i64 X, .int .i64 Y] 25)).cell? ⟨w1.heap.size, 1, none⟩ = some (.int .i64 Y) := by simp [go_sem]
  (skip; replace c0 := below_cell hb c0; replace c1 := below_cell hb c1; replace c2 := below_cell hb c2; replace hB := below_step hB hb; clear hb)
  ((go_wp2_with fail); (with_reducible refine (toPlan_any _ _ _ _).mono ?_); rintro _ w1 ⟨rfl, hb⟩; replace c0 := below_cell hb c0; replace c1 := below_cell hb c1; replace c2 := below_cell hb c2; replace c3 := below_cell hb c3; replace c4 := below_cell hb c4; replace hB := below_step hB hb; clear hb)
  ((go_wp2_with fail); (with_reducible refine (hI _).mono ?_); rintro _ w1 ⟨rfl, hb⟩; replace c0 := below_cell hb c0; replace c1 := below_cell hb c1; replace c2 := below_cell hb c2; replace c3 := below_cell hb c3; replace c4 := below_cell hb c4; replace hB := below_step hB hb; clear hb)
  have hb := below_alloc (Below.refl w1.heap.size w1) (.cells #[.int .i64 X, .int .i64 Y] 25)
  have c5 : (w1.alloc (.cells #[.int .i64 X, .int .i64 Y] 25)).cell? ⟨w1.heap.size, 0, none⟩ = some (.int .i64 X) := by simp [go_sem]
  have c6 : (w1.alloc (.cells #[.int .i64 X, .int .i64 Y] 25)).cell? ⟨w1.heap.size, 1, none⟩ = some (.int .i64 Y) := by simp [go_sem]
  (skip; replace c3 := below_cell hb c3; replace c4 := below_cell hb c4; replace hB := below_step hB hb; clear hb)
  ((go_wp2_with fail); (with_reducible refine (eqFraction_true _ _ _).mono ?_); rintro _ w1 ⟨rfl, hb⟩; replace hB := below_step hB hb; clear hb)
  go_wp2_with fail
  go_ret
  exact ⟨rfl, hB⟩
end Go.Proofs.Ytoalpihlflifmaa
