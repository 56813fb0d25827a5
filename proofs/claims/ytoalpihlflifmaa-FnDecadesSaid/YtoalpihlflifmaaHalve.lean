/- The contracts of HalveOnce and what it calls: for every two fractions and every world, the program's function and the reference's return the same (hvV), and leave old memory alone. No conditions. -/
import Derived.Test.YtoalpihlflifmaaSumF
import Derived.RegionTactic
import Derived.BigRegion
namespace Go.Proofs.Ytoalpihlflifmaa
open Go.RowKit
set_option linter.unusedSimpArgs false
set_option linter.unusedVariables false
set_option maxHeartbeats 2000000

def tO (a b c d : Int) : Bool := frB a b && frB c d && redO (a * c) (b * d)
def tT (a b c d : Int) : Int := if tO a b c d = true then rT (a * c) (b * d) else 0
def tB (a b c d : Int) : Int := if tO a b c d = true then rB (a * c) (b * d) else 0
theorem timV_eq (a b c d : Int) : timV a b c d = .tuple #[.agg #[.int .i64 (tT a b c d), .int .i64 (tB a b c d)], .bool (tO a b c d)] := by
  by_cases h : frB a b = true ∧ frB c d = true
  · rw [timV_yes h.1 h.2]
    by_cases h2 : redO (a * c) (b * d) = true
    · have e : tO a b c d = true := by simp [tO, h.1, h.2, h2]
      rw [redV_yes h2, tT, tB, if_pos e, if_pos e, e]
    · have e : tO a b c d = false := by simp [tO, h2]
      rw [redV_no h2, tT, tB, e]; rfl
  · have e : tO a b c d = false := by
      cases h1 : frB a b <;> cases h2 : frB c d <;> simp_all [tO]
    rw [timV_no h, tT, tB, e]; rfl
/-- The negative top, as the machine has it. -/
def ng (c : Int) : Int := wrap64 (-c)
theorem impl_minus (a b c d : Int) (w : World) : Calls Try.prog 53 #[.agg #[.int .i64 a, .int .i64 b], .agg #[.int .i64 c, .int .i64 d]] w fun e w' => e = .returned (.tuple #[.agg #[.int .i64 (aT a b (ng c) d), .int .i64 (aB a b (ng c) d)], .bool (aO a b (ng c) d)]) ∧ Below w.heap.size w w' := by
  have hA := fun w => impl_Add a b (ng c) d w
  simp only [addV_eq] at hA
  revert hA
  generalize aT a b (ng c) d = X
  generalize aB a b (ng c) d = Y
  generalize aO a b (ng c) d = O
  intro hA
  have e1 : wrap64 (-c) = ng c := rfl
  obtain ⟨W, hW⟩ : ∃ W, W = (((w.alloc (.cells #[.int .i64 a, .int .i64 b] 25)).alloc (.cells #[.int .i64 c, .int .i64 d] 25)).alloc (.cells #[.int .i64 0, .int .i64 0] 25)) := ⟨_, rfl⟩
  have c0 : W.cell? ⟨w.heap.size, 0, none⟩ = some (.int .i64 a) := by rw [hW]; simp [go_sem]
  have c1 : W.cell? ⟨w.heap.size, 1, none⟩ = some (.int .i64 b) := by rw [hW]; simp [go_sem]
  have c2 : W.cell? ⟨w.heap.size + 1, 0, none⟩ = some (.int .i64 c) := by rw [hW]; simp [go_sem]
  have c3 : W.cell? ⟨w.heap.size + 1, 1, none⟩ = some (.int .i64 d) := by rw [hW]; simp [go_sem]
  have c4 : W.cell? ⟨w.heap.size + 2, 0, none⟩ = some (.int .i64 0) := by rw [hW]; simp [go_sem]
  have z4 : W.frozen? ⟨w.heap.size + 2, 0, none⟩ = false := by rw [hW]; simp [go_sem]
  have c5 : W.cell? ⟨w.heap.size + 2, 1, none⟩ = some (.int .i64 0) := by rw [hW]; simp [go_sem]
  have z5 : W.frozen? ⟨w.heap.size + 2, 1, none⟩ = false := by rw [hW]; simp [go_sem]
  have hB : Below w.heap.size w W := by rw [hW]; exact ((((Below.refl _ _).alloc (by simp <;> omega) _).alloc (by simp <;> omega) _).alloc (by simp <;> omega) _)
  subst hW
  go_enter Try.func53, Try.ntmps53
  ((go_wp2_with fail); (with_reducible refine (hA _).mono ?_); rintro _ w1 ⟨rfl, hb⟩; replace z4 := below_frozen hb (lt_of_cell c4) z4; replace z5 := below_frozen hb (lt_of_cell c5) z5; replace c0 := below_cell hb c0; replace c1 := below_cell hb c1; replace c2 := below_cell hb c2; replace c3 := below_cell hb c3; replace c4 := below_cell hb c4; replace c5 := below_cell hb c5; replace hB := below_step hB hb; clear hb)
  go_wp2_with fail
  refine bodyPost_ret (by first | (simp [results, Try.results53, go_sem, *]; done) | (simp [results, Try.results53, go_sem, *]; rfl)) rfl ⟨rfl, by (repeat (first | exact Below.refl _ _ | assumption | (refine Below.drew ?_) | (refine below_alloc ?_ _) | (refine Below.setCell ?_ (by first | (simp; done) | (simp; omega) | omega | (have hq := hB.size; (try simp at hq ⊢); omega)) _) | (refine Below.alloc ?_ (by first | (simp; done) | (simp; omega) | omega | (have hq := hB.size; (try simp at hq ⊢); omega)) _) | (refine below_step ?_ (by assumption))))⟩
theorem impl_timesPart (a b n : Int) (w : World) : Calls Try.prog 54 #[.agg #[.int .i64 a, .int .i64 b], .int .i64 n] w fun e w' => e = .returned (.tuple #[.agg #[.int .i64 (tT a b 1 n), .int .i64 (tB a b 1 n)], .bool (tO a b 1 n)]) ∧ Below w.heap.size w w' := by
  have hA := fun w => impl_Times a b 1 n w
  simp only [timV_eq] at hA
  revert hA
  generalize tT a b 1 n = X
  generalize tB a b 1 n = Y
  generalize tO a b 1 n = O
  intro hA
  obtain ⟨W, hW⟩ : ∃ W, W = ((w.alloc (.cells #[.int .i64 a, .int .i64 b] 25)).alloc (.cells #[.int .i64 0, .int .i64 0] 25)) := ⟨_, rfl⟩
  have c0 : W.cell? ⟨w.heap.size, 0, none⟩ = some (.int .i64 a) := by rw [hW]; simp [go_sem]
  have c1 : W.cell? ⟨w.heap.size, 1, none⟩ = some (.int .i64 b) := by rw [hW]; simp [go_sem]
  have c2 : W.cell? ⟨w.heap.size + 1, 0, none⟩ = some (.int .i64 0) := by rw [hW]; simp [go_sem]
  have z2 : W.frozen? ⟨w.heap.size + 1, 0, none⟩ = false := by rw [hW]; simp [go_sem]
  have c3 : W.cell? ⟨w.heap.size + 1, 1, none⟩ = some (.int .i64 0) := by rw [hW]; simp [go_sem]
  have z3 : W.frozen? ⟨w.heap.size + 1, 1, none⟩ = false := by rw [hW]; simp [go_sem]
  have hB : Below w.heap.size w W := by rw [hW]; exact (((Below.refl _ _).alloc (by simp <;> omega) _).alloc (by simp <;> omega) _)
  subst hW
  go_enter Try.func54, Try.ntmps54
  ((go_wp2_with fail); (with_reducible refine (hA _).mono ?_); rintro _ w1 ⟨rfl, hb⟩; replace z2 := below_frozen hb (lt_of_cell c2) z2; replace z3 := below_frozen hb (lt_of_cell c3) z3; replace c0 := below_cell hb c0; replace c1 := below_cell hb c1; replace c2 := below_cell hb c2; replace c3 := below_cell hb c3; replace hB := below_step hB hb; clear hb)
  go_wp2_with fail
  refine bodyPost_ret (by first | (simp [results, Try.results54, go_sem, *]; done) | (simp [results, Try.results54, go_sem, *]; rfl)) rfl ⟨rfl, by (repeat (first | exact Below.refl _ _ | assumption | (refine Below.drew ?_) | (refine below_alloc ?_ _) | (refine Below.setCell ?_ (by first | (simp; done) | (simp; omega) | omega | (have hq := hB.size; (try simp at hq ⊢); omega)) _) | (refine Below.alloc ?_ (by first | (simp; done) | (simp; omega) | omega | (have hq := hB.size; (try simp at hq ⊢); omega)) _) | (refine below_step ?_ (by assumption))))⟩
theorem spec_minus (c d : Int) (w : World) : Calls Try.prog 52 #[.agg #[.int .i64 c, .int .i64 d]] w fun e w' => e = .returned (.agg #[.int .i64 (ng c), .int .i64 d]) ∧ Below w.heap.size w w' := by
  obtain ⟨W, hW⟩ : ∃ W, W = ((w.alloc (.cells #[.int .i64 c, .int .i64 d] 25)).alloc (.cells #[.int .i64 0, .int .i64 0] 25)) := ⟨_, rfl⟩
  have c0 : W.cell? ⟨w.heap.size, 0, none⟩ = some (.int .i64 c) := by rw [hW]; simp [go_sem]
  have c1 : W.cell? ⟨w.heap.size, 1, none⟩ = some (.int .i64 d) := by rw [hW]; simp [go_sem]
  have c2 : W.cell? ⟨w.heap.size + 1, 0, none⟩ = some (.int .i64 0) := by rw [hW]; simp [go_sem]
  have z2 : W.frozen? ⟨w.heap.size + 1, 0, none⟩ = false := by rw [hW]; simp [go_sem]
  have c3 : W.cell? ⟨w.heap.size + 1, 1, none⟩ = some (.int .i64 0) := by rw [hW]; simp [go_sem]
  have z3 : W.frozen? ⟨w.heap.size + 1, 1, none⟩ = false := by rw [hW]; simp [go_sem]
  have hB : Below w.heap.size w W := by rw [hW]; exact (((Below.refl _ _).alloc (by simp <;> omega) _).alloc (by simp <;> omega) _)
  subst hW
  go_enter Try.func52, Try.ntmps52
  go_wp2_with fail
  refine bodyPost_ret (v := .agg #[.int .i64 (ng c), .int .i64 d]) (by first | (simp [results, Try.results52, go_sem, ng, *]; done) | (simp [results, Try.results52, go_sem, ng, *]; rfl)) rfl ⟨rfl, by (repeat (first | exact Below.refl _ _ | assumption | (refine Below.drew ?_) | (refine below_alloc ?_ _) | (refine Below.setCell ?_ (by first | (simp; done) | (simp; omega) | omega | (have hq := hB.size; (try simp at hq ⊢); omega)) _) | (refine Below.alloc ?_ (by first | (simp; done) | (simp; omega) | omega | (have hq := hB.size; (try simp at hq ⊢); omega)) _) | (refine below_step ?_ (by assumption))))⟩
/-- A half's parts. -/
def hO (a b c d : Int) : Bool := tO (aT a b c d) (aB a b c d) 1 2
def hT (a b c d : Int) : Int := tT (aT a b c d) (aB a b c d) 1 2
def hB' (a b c d : Int) : Int := tB (aT a b c d) (aB a b c d) 1 2
theorem hO_add {a b c d : Int} (h : aO a b c d = false) : hO a b c d = false := by
  have h1 : aT a b c d = 0 := by simp [aT, h]
  have h2 : aB a b c d = 0 := by simp [aB, h]
  rw [hO, h1, h2]
  decide +kernel
theorem hT_no {a b c d : Int} (h : hO a b c d = false) : hT a b c d = 0 ∧ hB' a b c d = 0 := by
  unfold hO at h
  simp [hT, hB', tT, tB, h]
theorem spec_half (a b c d : Int) (w : World) : Calls Try.prog 51 #[.agg #[.int .i64 a, .int .i64 b], .agg #[.int .i64 c, .int .i64 d]] w fun e w' => e = .returned (.tuple #[.agg #[.int .i64 (hT a b c d), .int .i64 (hB' a b c d)], .bool (hO a b c d)]) ∧ Below w.heap.size w w' := by
  have hA := fun w => spec_Add a b c d w
  simp only [addV_eq] at hA
  cases hs : aO a b c d
  · have e1 := hO_add hs
    obtain ⟨e2, e3⟩ := hT_no e1
    rw [e1, e2, e3]
    simp only [hs] at hA
    clear e1 e2 e3 hs
    revert hA
    generalize aT a b c d = X
    generalize aB a b c d = Y
    intro hA
    obtain ⟨W, hW⟩ : ∃ W, W = (((w.alloc (.cells #[.int .i64 a, .int .i64 b] 25)).alloc (.cells #[.int .i64 c, .int .i64 d] 25)).alloc (.cells #[.int .i64 0, .int .i64 0] 25)) := ⟨_, rfl⟩
    have c0 : W.cell? ⟨w.heap.size, 0, none⟩ = some (.int .i64 a) := by rw [hW]; simp [go_sem]
    have c1 : W.cell? ⟨w.heap.size, 1, none⟩ = some (.int .i64 b) := by rw [hW]; simp [go_sem]
    have c2 : W.cell? ⟨w.heap.size + 1, 0, none⟩ = some (.int .i64 c) := by rw [hW]; simp [go_sem]
    have c3 : W.cell? ⟨w.heap.size + 1, 1, none⟩ = some (.int .i64 d) := by rw [hW]; simp [go_sem]
    have c4 : W.cell? ⟨w.heap.size + 2, 0, none⟩ = some (.int .i64 0) := by rw [hW]; simp [go_sem]
    have z4 : W.frozen? ⟨w.heap.size + 2, 0, none⟩ = false := by rw [hW]; simp [go_sem]
    have c5 : W.cell? ⟨w.heap.size + 2, 1, none⟩ = some (.int .i64 0) := by rw [hW]; simp [go_sem]
    have z5 : W.frozen? ⟨w.heap.size + 2, 1, none⟩ = false := by rw [hW]; simp [go_sem]
    have hB : Below w.heap.size w W := by rw [hW]; exact ((((Below.refl _ _).alloc (by simp <;> omega) _).alloc (by simp <;> omega) _).alloc (by simp <;> omega) _)
    subst hW
    go_enter Try.func51, Try.ntmps51
    ((go_wp2_with fail); (with_reducible refine (hA _).mono ?_); rintro _ w1 ⟨rfl, hb⟩; replace z4 := below_frozen hb (lt_of_cell c4) z4; replace z5 := below_frozen hb (lt_of_cell c5) z5; replace c0 := below_cell hb c0; replace c1 := below_cell hb c1; replace c2 := below_cell hb c2; replace c3 := below_cell hb c3; replace c4 := below_cell hb c4; replace c5 := below_cell hb c5; replace hB := below_step hB hb; clear hb)
    have l4 : w.heap.size + 2 < w1.heap.size := lt_of_cell c4
    go_wp2_with fail
    refine bodyPost_ret (by first | (simp [results, Try.results51, go_sem, *]; done) | (simp [results, Try.results51, go_sem, *]; rfl)) rfl ⟨rfl, by (repeat (first | exact Below.refl _ _ | assumption | (refine Below.drew ?_) | (refine below_alloc ?_ _) | (refine Below.setCell ?_ (by first | (simp; done) | (simp; omega) | omega | (have hq := hB.size; (try simp at hq ⊢); omega)) _) | (refine Below.alloc ?_ (by first | (simp; done) | (simp; omega) | omega | (have hq := hB.size; (try simp at hq ⊢); omega)) _) | (refine below_step ?_ (by assumption))))⟩
  · have hM := fun w => spec_Times (aT a b c d) (aB a b c d) 1 2 w
    simp only [timV_eq] at hM
    rw [show tT (aT a b c d) (aB a b c d) 1 2 = hT a b c d from rfl, show tB (aT a b c d) (aB a b c d) 1 2 = hB' a b c d from rfl, show tO (aT a b c d) (aB a b c d) 1 2 = hO a b c d from rfl] at hM
    simp only [hs] at hA
    clear hs
    revert hA hM
    generalize aT a b c d = X
    generalize aB a b c d = Y
    generalize hT a b c d = T
    generalize hB' a b c d = B
    generalize hO a b c d = O
    intro hM hA
    obtain ⟨W, hW⟩ : ∃ W, W = (((w.alloc (.cells #[.int .i64 a, .int .i64 b] 25)).alloc (.cells #[.int .i64 c, .int .i64 d] 25)).alloc (.cells #[.int .i64 0, .int .i64 0] 25)) := ⟨_, rfl⟩
    have c0 : W.cell? ⟨w.heap.size, 0, none⟩ = some (.int .i64 a) := by rw [hW]; simp [go_sem]
    have c1 : W.cell? ⟨w.heap.size, 1, none⟩ = some (.int .i64 b) := by rw [hW]; simp [go_sem]
    have c2 : W.cell? ⟨w.heap.size + 1, 0, none⟩ = some (.int .i64 c) := by rw [hW]; simp [go_sem]
    have c3 : W.cell? ⟨w.heap.size + 1, 1, none⟩ = some (.int .i64 d) := by rw [hW]; simp [go_sem]
    have c4 : W.cell? ⟨w.heap.size + 2, 0, none⟩ = some (.int .i64 0) := by rw [hW]; simp [go_sem]
    have z4 : W.frozen? ⟨w.heap.size + 2, 0, none⟩ = false := by rw [hW]; simp [go_sem]
    have c5 : W.cell? ⟨w.heap.size + 2, 1, none⟩ = some (.int .i64 0) := by rw [hW]; simp [go_sem]
    have z5 : W.frozen? ⟨w.heap.size + 2, 1, none⟩ = false := by rw [hW]; simp [go_sem]
    have hB : Below w.heap.size w W := by rw [hW]; exact ((((Below.refl _ _).alloc (by simp <;> omega) _).alloc (by simp <;> omega) _).alloc (by simp <;> omega) _)
    subst hW
    go_enter Try.func51, Try.ntmps51
    ((go_wp2_with fail); (with_reducible refine (hA _).mono ?_); rintro _ w1 ⟨rfl, hb⟩; replace z4 := below_frozen hb (lt_of_cell c4) z4; replace z5 := below_frozen hb (lt_of_cell c5) z5; replace c0 := below_cell hb c0; replace c1 := below_cell hb c1; replace c2 := below_cell hb c2; replace c3 := below_cell hb c3; replace c4 := below_cell hb c4; replace c5 := below_cell hb c5; replace hB := below_step hB hb; clear hb)
    have hb := below_alloc (Below.refl w1.heap.size w1) (.cells #[.int .i64 X, .int .i64 Y] 25)
    have c6 : (w1.alloc (.cells #[.int .i64 X, .int .i64 Y] 25)).cell? ⟨w1.heap.size, 0, none⟩ = some (.int .i64 X) := by simp [go_sem]
    have c7 : (w1.alloc (.cells #[.int .i64 X, .int .i64 Y] 25)).cell? ⟨w1.heap.size, 1, none⟩ = some (.int .i64 Y) := by simp [go_sem]
    (skip; replace z4 := below_frozen hb (lt_of_cell c4) z4; replace z5 := below_frozen hb (lt_of_cell c5) z5; replace c0 := below_cell hb c0; replace c1 := below_cell hb c1; replace c2 := below_cell hb c2; replace c3 := below_cell hb c3; replace c4 := below_cell hb c4; replace c5 := below_cell hb c5; replace hB := below_step hB hb; clear hb)
    ((go_wp2_with fail); (with_reducible refine (hM _).mono ?_); rintro _ w1 ⟨rfl, hb⟩; replace z4 := below_frozen hb (lt_of_cell c4) z4; replace z5 := below_frozen hb (lt_of_cell c5) z5; replace c0 := below_cell hb c0; replace c1 := below_cell hb c1; replace c2 := below_cell hb c2; replace c3 := below_cell hb c3; replace c4 := below_cell hb c4; replace c5 := below_cell hb c5; replace hB := below_step hB hb; clear hb)
    go_wp2_with fail
    refine bodyPost_ret (by first | (simp [results, Try.results51, go_sem, *]; done) | (simp [results, Try.results51, go_sem, *]; rfl)) rfl ⟨rfl, by (repeat (first | exact Below.refl _ _ | assumption | (refine Below.drew ?_) | (refine below_alloc ?_ _) | (refine Below.setCell ?_ (by first | (simp; done) | (simp; omega) | omega | (have hq := hB.size; (try simp at hq ⊢); omega)) _) | (refine Below.alloc ?_ (by first | (simp; done) | (simp; omega) | omega | (have hq := hB.size; (try simp at hq ⊢); omega)) _) | (refine below_step ?_ (by assumption))))⟩

def hvO (a b c d : Int) : Bool := hO a b c d && hO a b (ng c) d
def hvV (a b c d : Int) : Value := if hvO a b c d = true then .tuple #[.agg #[.int .i64 (hT a b c d), .int .i64 (hB' a b c d)], .agg #[.int .i64 (hT a b (ng c) d), .int .i64 (hB' a b (ng c) d)], .bool true] else .tuple #[.agg #[.int .i64 0, .int .i64 0], .agg #[.int .i64 0, .int .i64 0], .bool false]
set_option maxHeartbeats 16000000 in
theorem impl_Halve (a b c d : Int) (w : World) : Calls Try.prog 22 #[.agg #[.int .i64 a, .int .i64 b], .agg #[.int .i64 c, .int .i64 d]] w fun e w' => e = .returned (hvV a b c d) ∧ Below w.heap.size w w' := by
  have hA := fun w => impl_Add a b c d w
  simp only [addV_eq] at hA
  have hM := fun w => impl_minus a b c d w
  have hP := fun w => impl_timesPart (aT a b c d) (aB a b c d) 2 w
  have hQ := fun w => impl_timesPart (aT a b (ng c) d) (aB a b (ng c) d) 2 w
  rw [show tT (aT a b c d) (aB a b c d) 1 2 = hT a b c d from rfl, show tB (aT a b c d) (aB a b c d) 1 2 = hB' a b c d from rfl, show tO (aT a b c d) (aB a b c d) 1 2 = hO a b c d from rfl] at hP
  rw [show tT (aT a b (ng c) d) (aB a b (ng c) d) 1 2 = hT a b (ng c) d from rfl, show tB (aT a b (ng c) d) (aB a b (ng c) d) 1 2 = hB' a b (ng c) d from rfl, show tO (aT a b (ng c) d) (aB a b (ng c) d) 1 2 = hO a b (ng c) d from rfl] at hQ
  have i1 : aO a b c d = false → hO a b c d = false := hO_add
  have i2 : aO a b (ng c) d = false → hO a b (ng c) d = false := hO_add
  unfold hvV hvO
  revert hA hM hP hQ i1 i2
  generalize aT a b (ng c) d = X2
  generalize aB a b (ng c) d = Y2
  generalize aO a b (ng c) d = O2
  generalize hT a b (ng c) d = P2
  generalize hB' a b (ng c) d = Q2
  generalize hO a b (ng c) d = R2
  generalize aT a b c d = X1
  generalize aB a b c d = Y1
  generalize aO a b c d = O1
  generalize hT a b c d = P1
  generalize hB' a b c d = Q1
  generalize hO a b c d = R1
  intro hA hM hP hQ i1 i2
  by_cases hall : (R1 && R2) = true
  · rw [if_pos hall]
    obtain ⟨rfl, rfl⟩ : R1 = true ∧ R2 = true := by simpa using hall
    obtain rfl : O1 = true := by
      cases h2 : O1 with
      | true => rfl
      | false => have := i1 h2; cases this
    obtain rfl : O2 = true := by
      cases h2 : O2 with
      | true => rfl
      | false => have := i2 h2; cases this
    clear hall i1 i2
    obtain ⟨W, hW⟩ : ∃ W, W = ((((w.alloc (.cells #[.int .i64 a, .int .i64 b] 25)).alloc (.cells #[.int .i64 c, .int .i64 d] 25)).alloc (.cells #[.int .i64 0, .int .i64 0] 25)).alloc (.cells #[.int .i64 0, .int .i64 0] 25)) := ⟨_, rfl⟩
    have c0 : W.cell? ⟨w.heap.size, 0, none⟩ = some (.int .i64 a) := by rw [hW]; simp [go_sem]
    have c1 : W.cell? ⟨w.heap.size, 1, none⟩ = some (.int .i64 b) := by rw [hW]; simp [go_sem]
    have c2 : W.cell? ⟨w.heap.size + 1, 0, none⟩ = some (.int .i64 c) := by rw [hW]; simp [go_sem]
    have c3 : W.cell? ⟨w.heap.size + 1, 1, none⟩ = some (.int .i64 d) := by rw [hW]; simp [go_sem]
    have c4 : W.cell? ⟨w.heap.size + 2, 0, none⟩ = some (.int .i64 0) := by rw [hW]; simp [go_sem]
    have z4 : W.frozen? ⟨w.heap.size + 2, 0, none⟩ = false := by rw [hW]; simp [go_sem]
    have c5 : W.cell? ⟨w.heap.size + 2, 1, none⟩ = some (.int .i64 0) := by rw [hW]; simp [go_sem]
    have z5 : W.frozen? ⟨w.heap.size + 2, 1, none⟩ = false := by rw [hW]; simp [go_sem]
    have c6 : W.cell? ⟨w.heap.size + 3, 0, none⟩ = some (.int .i64 0) := by rw [hW]; simp [go_sem]
    have z6 : W.frozen? ⟨w.heap.size + 3, 0, none⟩ = false := by rw [hW]; simp [go_sem]
    have c7 : W.cell? ⟨w.heap.size + 3, 1, none⟩ = some (.int .i64 0) := by rw [hW]; simp [go_sem]
    have z7 : W.frozen? ⟨w.heap.size + 3, 1, none⟩ = false := by rw [hW]; simp [go_sem]
    have hB : Below w.heap.size w W := by rw [hW]; exact (((((Below.refl _ _).alloc (by simp <;> omega) _).alloc (by simp <;> omega) _).alloc (by simp <;> omega) _).alloc (by simp <;> omega) _)
    subst hW
    go_enter Try.func22, Try.ntmps22
    ((go_wp2_with fail); (with_reducible refine (hA _).mono ?_); rintro _ w1 ⟨rfl, hb⟩; replace z4 := below_frozen hb (lt_of_cell c4) z4; replace z5 := below_frozen hb (lt_of_cell c5) z5; replace z6 := below_frozen hb (lt_of_cell c6) z6; replace z7 := below_frozen hb (lt_of_cell c7) z7; replace c0 := below_cell hb c0; replace c1 := below_cell hb c1; replace c2 := below_cell hb c2; replace c3 := below_cell hb c3; replace c4 := below_cell hb c4; replace c5 := below_cell hb c5; replace c6 := below_cell hb c6; replace c7 := below_cell hb c7; replace hB := below_step hB hb; clear hb)
    have hb := below_alloc (Below.refl w1.heap.size w1) (.cells #[.int .i64 X1, .int .i64 Y1] 25)
    have c8 : (w1.alloc (.cells #[.int .i64 X1, .int .i64 Y1] 25)).cell? ⟨w1.heap.size, 0, none⟩ = some (.int .i64 X1) := by simp [go_sem]
    have c9 : (w1.alloc (.cells #[.int .i64 X1, .int .i64 Y1] 25)).cell? ⟨w1.heap.size, 1, none⟩ = some (.int .i64 Y1) := by simp [go_sem]
    (skip; replace z4 := below_frozen hb (lt_of_cell c4) z4; replace z5 := below_frozen hb (lt_of_cell c5) z5; replace z6 := below_frozen hb (lt_of_cell c6) z6; replace z7 := below_frozen hb (lt_of_cell c7) z7; replace c0 := below_cell hb c0; replace c1 := below_cell hb c1; replace c2 := below_cell hb c2; replace c3 := below_cell hb c3; replace c4 := below_cell hb c4; replace c5 := below_cell hb c5; replace c6 := below_cell hb c6; replace c7 := below_cell hb c7; replace hB := below_step hB hb; clear hb)
    ((go_wp2_with fail); (with_reducible refine (hM _).mono ?_); rintro _ w1 ⟨rfl, hb⟩; replace z4 := below_frozen hb (lt_of_cell c4) z4; replace z5 := below_frozen hb (lt_of_cell c5) z5; replace z6 := below_frozen hb (lt_of_cell c6) z6; replace z7 := below_frozen hb (lt_of_cell c7) z7; replace c0 := below_cell hb c0; replace c1 := below_cell hb c1; replace c2 := below_cell hb c2; replace c3 := below_cell hb c3; replace c4 := below_cell hb c4; replace c5 := below_cell hb c5; replace c6 := below_cell hb c6; replace c7 := below_cell hb c7; replace c8 := below_cell hb c8; replace c9 := below_cell hb c9; replace hB := below_step hB hb; clear hb)
    have hb := below_alloc (Below.refl w1.heap.size w1) (.cells #[.int .i64 X2, .int .i64 Y2] 25)
    have c10 : (w1.alloc (.cells #[.int .i64 X2, .int .i64 Y2] 25)).cell? ⟨w1.heap.size, 0, none⟩ = some (.int .i64 X2) := by simp [go_sem]
    have c11 : (w1.alloc (.cells #[.int .i64 X2, .int .i64 Y2] 25)).cell? ⟨w1.heap.size, 1, none⟩ = some (.int .i64 Y2) := by simp [go_sem]
    (skip; replace z4 := below_frozen hb (lt_of_cell c4) z4; replace z5 := below_frozen hb (lt_of_cell c5) z5; replace z6 := below_frozen hb (lt_of_cell c6) z6; replace z7 := below_frozen hb (lt_of_cell c7) z7; replace c0 := below_cell hb c0; replace c1 := below_cell hb c1; replace c2 := below_cell hb c2; replace c3 := below_cell hb c3; replace c4 := below_cell hb c4; replace c5 := below_cell hb c5; replace c6 := below_cell hb c6; replace c7 := below_cell hb c7; replace c8 := below_cell hb c8; replace c9 := below_cell hb c9; replace hB := below_step hB hb; clear hb)
    ((go_wp2_with fail); (with_reducible refine (hP _).mono ?_); rintro _ w1 ⟨rfl, hb⟩; replace z4 := below_frozen hb (lt_of_cell c4) z4; replace z5 := below_frozen hb (lt_of_cell c5) z5; replace z6 := below_frozen hb (lt_of_cell c6) z6; replace z7 := below_frozen hb (lt_of_cell c7) z7; replace c0 := below_cell hb c0; replace c1 := below_cell hb c1; replace c2 := below_cell hb c2; replace c3 := below_cell hb c3; replace c4 := below_cell hb c4; replace c5 := below_cell hb c5; replace c6 := below_cell hb c6; replace c7 := below_cell hb c7; replace c8 := below_cell hb c8; replace c9 := below_cell hb c9; replace c10 := below_cell hb c10; replace c11 := below_cell hb c11; replace hB := below_step hB hb; clear hb)
    have hb := below_alloc (Below.refl w1.heap.size w1) (.cells #[.int .i64 P1, .int .i64 Q1] 25)
    have c12 : (w1.alloc (.cells #[.int .i64 P1, .int .i64 Q1] 25)).cell? ⟨w1.heap.size, 0, none⟩ = some (.int .i64 P1) := by simp [go_sem]
    have c13 : (w1.alloc (.cells #[.int .i64 P1, .int .i64 Q1] 25)).cell? ⟨w1.heap.size, 1, none⟩ = some (.int .i64 Q1) := by simp [go_sem]
    (skip; replace z4 := below_frozen hb (lt_of_cell c4) z4; replace z5 := below_frozen hb (lt_of_cell c5) z5; replace z6 := below_frozen hb (lt_of_cell c6) z6; replace z7 := below_frozen hb (lt_of_cell c7) z7; replace c0 := below_cell hb c0; replace c1 := below_cell hb c1; replace c2 := below_cell hb c2; replace c3 := below_cell hb c3; replace c4 := below_cell hb c4; replace c5 := below_cell hb c5; replace c6 := below_cell hb c6; replace c7 := below_cell hb c7; replace c10 := below_cell hb c10; replace c11 := below_cell hb c11; replace hB := below_step hB hb; clear hb)
    ((go_wp2_with fail); (with_reducible refine (hQ _).mono ?_); rintro _ w1 ⟨rfl, hb⟩; replace z4 := below_frozen hb (lt_of_cell c4) z4; replace z5 := below_frozen hb (lt_of_cell c5) z5; replace z6 := below_frozen hb (lt_of_cell c6) z6; replace z7 := below_frozen hb (lt_of_cell c7) z7; replace c0 := below_cell hb c0; replace c1 := below_cell hb c1; replace c2 := below_cell hb c2; replace c3 := below_cell hb c3; replace c4 := below_cell hb c4; replace c5 := below_cell hb c5; replace c6 := below_cell hb c6; replace c7 := below_cell hb c7; replace c12 := below_cell hb c12; replace c13 := below_cell hb c13; replace hB := below_step hB hb; clear hb)
    have l4 : w.heap.size + 2 < w1.heap.size := lt_of_cell c4
    have l6 : w.heap.size + 3 < w1.heap.size := lt_of_cell c6
    have hb := below_alloc (Below.refl w1.heap.size w1) (.cells #[.int .i64 P2, .int .i64 Q2] 25)
    have c14 : (w1.alloc (.cells #[.int .i64 P2, .int .i64 Q2] 25)).cell? ⟨w1.heap.size, 0, none⟩ = some (.int .i64 P2) := by simp [go_sem]
    have c15 : (w1.alloc (.cells #[.int .i64 P2, .int .i64 Q2] 25)).cell? ⟨w1.heap.size, 1, none⟩ = some (.int .i64 Q2) := by simp [go_sem]
    have l7 := lt_of_cell c12
    simp only at l7
    clear hb
    go_wp2_with fail
    go_region
    go_wp2
    refine bodyPost_ret (by first | (simp [results, Try.results22, go_sem, *]; done) | (simp [results, Try.results22, go_sem, *]; rfl)) rfl ⟨rfl, by (repeat (first | exact Below.refl _ _ | assumption | (refine Below.drew ?_) | (refine below_alloc ?_ _) | (refine Below.setCell ?_ (by first | (simp; done) | (simp; omega) | omega | (have hq := hB.size; (try simp at hq ⊢); omega)) _) | (refine Below.alloc ?_ (by first | (simp; done) | (simp; omega) | omega | (have hq := hB.size; (try simp at hq ⊢); omega)) _) | (refine below_step ?_ (by assumption))))⟩
  · rw [if_neg hall]
    clear i1 i2
    obtain ⟨W, hW⟩ : ∃ W, W = ((((w.alloc (.cells #[.int .i64 a, .int .i64 b] 25)).alloc (.cells #[.int .i64 c, .int .i64 d] 25)).alloc (.cells #[.int .i64 0, .int .i64 0] 25)).alloc (.cells #[.int .i64 0, .int .i64 0] 25)) := ⟨_, rfl⟩
    have c0 : W.cell? ⟨w.heap.size, 0, none⟩ = some (.int .i64 a) := by rw [hW]; simp [go_sem]
    have c1 : W.cell? ⟨w.heap.size, 1, none⟩ = some (.int .i64 b) := by rw [hW]; simp [go_sem]
    have c2 : W.cell? ⟨w.heap.size + 1, 0, none⟩ = some (.int .i64 c) := by rw [hW]; simp [go_sem]
    have c3 : W.cell? ⟨w.heap.size + 1, 1, none⟩ = some (.int .i64 d) := by rw [hW]; simp [go_sem]
    have c4 : W.cell? ⟨w.heap.size + 2, 0, none⟩ = some (.int .i64 0) := by rw [hW]; simp [go_sem]
    have z4 : W.frozen? ⟨w.heap.size + 2, 0, none⟩ = false := by rw [hW]; simp [go_sem]
    have c5 : W.cell? ⟨w.heap.size + 2, 1, none⟩ = some (.int .i64 0) := by rw [hW]; simp [go_sem]
    have z5 : W.frozen? ⟨w.heap.size + 2, 1, none⟩ = false := by rw [hW]; simp [go_sem]
    have c6 : W.cell? ⟨w.heap.size + 3, 0, none⟩ = some (.int .i64 0) := by rw [hW]; simp [go_sem]
    have z6 : W.frozen? ⟨w.heap.size + 3, 0, none⟩ = false := by rw [hW]; simp [go_sem]
    have c7 : W.cell? ⟨w.heap.size + 3, 1, none⟩ = some (.int .i64 0) := by rw [hW]; simp [go_sem]
    have z7 : W.frozen? ⟨w.heap.size + 3, 1, none⟩ = false := by rw [hW]; simp [go_sem]
    have hB : Below w.heap.size w W := by rw [hW]; exact (((((Below.refl _ _).alloc (by simp <;> omega) _).alloc (by simp <;> omega) _).alloc (by simp <;> omega) _).alloc (by simp <;> omega) _)
    subst hW
    go_enter Try.func22, Try.ntmps22
    ((go_wp2_with fail); (with_reducible refine (hA _).mono ?_); rintro _ w1 ⟨rfl, hb⟩; replace z4 := below_frozen hb (lt_of_cell c4) z4; replace z5 := below_frozen hb (lt_of_cell c5) z5; replace z6 := below_frozen hb (lt_of_cell c6) z6; replace z7 := below_frozen hb (lt_of_cell c7) z7; replace c0 := below_cell hb c0; replace c1 := below_cell hb c1; replace c2 := below_cell hb c2; replace c3 := below_cell hb c3; replace c4 := below_cell hb c4; replace c5 := below_cell hb c5; replace c6 := below_cell hb c6; replace c7 := below_cell hb c7; replace hB := below_step hB hb; clear hb)
    have hb := below_alloc (Below.refl w1.heap.size w1) (.cells #[.int .i64 X1, .int .i64 Y1] 25)
    have c8 : (w1.alloc (.cells #[.int .i64 X1, .int .i64 Y1] 25)).cell? ⟨w1.heap.size, 0, none⟩ = some (.int .i64 X1) := by simp [go_sem]
    have c9 : (w1.alloc (.cells #[.int .i64 X1, .int .i64 Y1] 25)).cell? ⟨w1.heap.size, 1, none⟩ = some (.int .i64 Y1) := by simp [go_sem]
    (skip; replace z4 := below_frozen hb (lt_of_cell c4) z4; replace z5 := below_frozen hb (lt_of_cell c5) z5; replace z6 := below_frozen hb (lt_of_cell c6) z6; replace z7 := below_frozen hb (lt_of_cell c7) z7; replace c0 := below_cell hb c0; replace c1 := below_cell hb c1; replace c2 := below_cell hb c2; replace c3 := below_cell hb c3; replace c4 := below_cell hb c4; replace c5 := below_cell hb c5; replace c6 := below_cell hb c6; replace c7 := below_cell hb c7; replace hB := below_step hB hb; clear hb)
    ((go_wp2_with fail); (with_reducible refine (hM _).mono ?_); rintro _ w1 ⟨rfl, hb⟩; replace z4 := below_frozen hb (lt_of_cell c4) z4; replace z5 := below_frozen hb (lt_of_cell c5) z5; replace z6 := below_frozen hb (lt_of_cell c6) z6; replace z7 := below_frozen hb (lt_of_cell c7) z7; replace c0 := below_cell hb c0; replace c1 := below_cell hb c1; replace c2 := below_cell hb c2; replace c3 := below_cell hb c3; replace c4 := below_cell hb c4; replace c5 := below_cell hb c5; replace c6 := below_cell hb c6; replace c7 := below_cell hb c7; replace c8 := below_cell hb c8; replace c9 := below_cell hb c9; replace hB := below_step hB hb; clear hb)
    have hb := below_alloc (Below.refl w1.heap.size w1) (.cells #[.int .i64 X2, .int .i64 Y2] 25)
    have c10 : (w1.alloc (.cells #[.int .i64 X2, .int .i64 Y2] 25)).cell? ⟨w1.heap.size, 0, none⟩ = some (.int .i64 X2) := by simp [go_sem]
    have c11 : (w1.alloc (.cells #[.int .i64 X2, .int .i64 Y2] 25)).cell? ⟨w1.heap.size, 1, none⟩ = some (.int .i64 Y2) := by simp [go_sem]
    (skip; replace z4 := below_frozen hb (lt_of_cell c4) z4; replace z5 := below_frozen hb (lt_of_cell c5) z5; replace z6 := below_frozen hb (lt_of_cell c6) z6; replace z7 := below_frozen hb (lt_of_cell c7) z7; replace c0 := below_cell hb c0; replace c1 := below_cell hb c1; replace c2 := below_cell hb c2; replace c3 := below_cell hb c3; replace c4 := below_cell hb c4; replace c5 := below_cell hb c5; replace c6 := below_cell hb c6; replace c7 := below_cell hb c7; replace c8 := below_cell hb c8; replace c9 := below_cell hb c9; replace hB := below_step hB hb; clear hb)
    ((go_wp2_with fail); (with_reducible refine (hP _).mono ?_); rintro _ w1 ⟨rfl, hb⟩; replace z4 := below_frozen hb (lt_of_cell c4) z4; replace z5 := below_frozen hb (lt_of_cell c5) z5; replace z6 := below_frozen hb (lt_of_cell c6) z6; replace z7 := below_frozen hb (lt_of_cell c7) z7; replace c0 := below_cell hb c0; replace c1 := below_cell hb c1; replace c2 := below_cell hb c2; replace c3 := below_cell hb c3; replace c4 := below_cell hb c4; replace c5 := below_cell hb c5; replace c6 := below_cell hb c6; replace c7 := below_cell hb c7; replace c8 := below_cell hb c8; replace c9 := below_cell hb c9; replace c10 := below_cell hb c10; replace c11 := below_cell hb c11; replace hB := below_step hB hb; clear hb)
    have hb := below_alloc (Below.refl w1.heap.size w1) (.cells #[.int .i64 P1, .int .i64 Q1] 25)
    have c12 : (w1.alloc (.cells #[.int .i64 P1, .int .i64 Q1] 25)).cell? ⟨w1.heap.size, 0, none⟩ = some (.int .i64 P1) := by simp [go_sem]
    have c13 : (w1.alloc (.cells #[.int .i64 P1, .int .i64 Q1] 25)).cell? ⟨w1.heap.size, 1, none⟩ = some (.int .i64 Q1) := by simp [go_sem]
    (skip; replace z4 := below_frozen hb (lt_of_cell c4) z4; replace z5 := below_frozen hb (lt_of_cell c5) z5; replace z6 := below_frozen hb (lt_of_cell c6) z6; replace z7 := below_frozen hb (lt_of_cell c7) z7; replace c0 := below_cell hb c0; replace c1 := below_cell hb c1; replace c2 := below_cell hb c2; replace c3 := below_cell hb c3; replace c4 := below_cell hb c4; replace c5 := below_cell hb c5; replace c6 := below_cell hb c6; replace c7 := below_cell hb c7; replace c10 := below_cell hb c10; replace c11 := below_cell hb c11; replace hB := below_step hB hb; clear hb)
    ((go_wp2_with fail); (with_reducible refine (hQ _).mono ?_); rintro _ w1 ⟨rfl, hb⟩; replace z4 := below_frozen hb (lt_of_cell c4) z4; replace z5 := below_frozen hb (lt_of_cell c5) z5; replace z6 := below_frozen hb (lt_of_cell c6) z6; replace z7 := below_frozen hb (lt_of_cell c7) z7; replace c0 := below_cell hb c0; replace c1 := below_cell hb c1; replace c2 := below_cell hb c2; replace c3 := below_cell hb c3; replace c4 := below_cell hb c4; replace c5 := below_cell hb c5; replace c6 := below_cell hb c6; replace c7 := below_cell hb c7; replace c12 := below_cell hb c12; replace c13 := below_cell hb c13; replace hB := below_step hB hb; clear hb)
    have l4 : w.heap.size + 2 < w1.heap.size := lt_of_cell c4
    have l6 : w.heap.size + 3 < w1.heap.size := lt_of_cell c6
    have hb := below_alloc (Below.refl w1.heap.size w1) (.cells #[.int .i64 P2, .int .i64 Q2] 25)
    have c14 : (w1.alloc (.cells #[.int .i64 P2, .int .i64 Q2] 25)).cell? ⟨w1.heap.size, 0, none⟩ = some (.int .i64 P2) := by simp [go_sem]
    have c15 : (w1.alloc (.cells #[.int .i64 P2, .int .i64 Q2] 25)).cell? ⟨w1.heap.size, 1, none⟩ = some (.int .i64 Q2) := by simp [go_sem]
    have l7 := lt_of_cell c12
    simp only at l7
    clear hb
    cases O1
    · clear hall
      go_wp2
      refine bodyPost_ret (by first | (simp [results, Try.results22, go_sem, *]; done) | (simp [results, Try.results22, go_sem, *]; rfl)) rfl ⟨rfl, by (repeat (first | exact Below.refl _ _ | assumption | (refine Below.drew ?_) | (refine below_alloc ?_ _) | (refine Below.setCell ?_ (by first | (simp; done) | (simp; omega) | omega | (have hq := hB.size; (try simp at hq ⊢); omega)) _) | (refine Below.alloc ?_ (by first | (simp; done) | (simp; omega) | omega | (have hq := hB.size; (try simp at hq ⊢); omega)) _) | (refine below_step ?_ (by assumption))))⟩
    · cases O2
      · clear hall
        go_wp2
        refine bodyPost_ret (by first | (simp [results, Try.results22, go_sem, *]; done) | (simp [results, Try.results22, go_sem, *]; rfl)) rfl ⟨rfl, by (repeat (first | exact Below.refl _ _ | assumption | (refine Below.drew ?_) | (refine below_alloc ?_ _) | (refine Below.setCell ?_ (by first | (simp; done) | (simp; omega) | omega | (have hq := hB.size; (try simp at hq ⊢); omega)) _) | (refine Below.alloc ?_ (by first | (simp; done) | (simp; omega) | omega | (have hq := hB.size; (try simp at hq ⊢); omega)) _) | (refine below_step ?_ (by assumption))))⟩
      · cases R1
        · clear hall
          go_wp2
          refine bodyPost_ret (by first | (simp [results, Try.results22, go_sem, *]; done) | (simp [results, Try.results22, go_sem, *]; rfl)) rfl ⟨rfl, by (repeat (first | exact Below.refl _ _ | assumption | (refine Below.drew ?_) | (refine below_alloc ?_ _) | (refine Below.setCell ?_ (by first | (simp; done) | (simp; omega) | omega | (have hq := hB.size; (try simp at hq ⊢); omega)) _) | (refine Below.alloc ?_ (by first | (simp; done) | (simp; omega) | omega | (have hq := hB.size; (try simp at hq ⊢); omega)) _) | (refine below_step ?_ (by assumption))))⟩
        · cases R2
          · clear hall
            go_wp2
            refine bodyPost_ret (by first | (simp [results, Try.results22, go_sem, *]; done) | (simp [results, Try.results22, go_sem, *]; rfl)) rfl ⟨rfl, by (repeat (first | exact Below.refl _ _ | assumption | (refine Below.drew ?_) | (refine below_alloc ?_ _) | (refine Below.setCell ?_ (by first | (simp; done) | (simp; omega) | omega | (have hq := hB.size; (try simp at hq ⊢); omega)) _) | (refine Below.alloc ?_ (by first | (simp; done) | (simp; omega) | omega | (have hq := hB.size; (try simp at hq ⊢); omega)) _) | (refine below_step ?_ (by assumption))))⟩
          · simp at hall
end Go.Proofs.Ytoalpihlflifmaa
