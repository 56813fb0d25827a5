/- HalveOnce in the reference: the same value hvV. Then the law's walk. -/
import Derived.Test.YtoalpihlflifmaaHalve
import Derived.Test.YtoalpihlflifmaaFractionS
namespace Go.Proofs.Ytoalpihlflifmaa
open Go.RowKit
set_option linter.unusedSimpArgs false
set_option linter.unusedVariables false
set_option maxHeartbeats 4000000
theorem hO_left {a b c d : Int} (h : frB a b = false) : hO a b c d = false := hO_add (by simp [aO, h])
theorem hO_right {a b c d : Int} (h : frB c d = false) : hO a b c d = false := hO_add (by simp [aO, h])
theorem spec_Halve (a b c d : Int) (w : World) : Calls Try.prog 20 #[.agg #[.int .i64 a, .int .i64 b], .agg #[.int .i64 c, .int .i64 d]] w fun e w' => e = .returned (hvV a b c d) ∧ Below w.heap.size w w' := by
  have hF := fun w => spec_FracOk a b w
  have hG := fun w => spec_FracOk c d w
  cases h1 : frB a b
  · have e0 : hvO a b c d = false := by simp [hvO, hO_left h1]
    rw [show hvV a b c d = _ from if_neg (by simp [e0])]
    simp only [h1] at hF
    clear e0 h1
    obtain ⟨W, hW⟩ : ∃ W, W = ((((w.alloc (.cells #[.int .i64 a, .int .i64 b] 25)).alloc (.cells #[.int .i64 c, .int .i64 d] 25)).alloc (.cells #[.int .i64 0, .int .i64 0] 25)).alloc (.cells #[.int .i64 0, .int .i64 0] 25)) := ⟨_, rfl⟩
    have c0 : W.cell? ⟨w.heap.size, 0, none⟩ = some (.int .i64 a) := by rw [hW]; simp [go_sem]
    have c1 : W.cell? ⟨w.heap.size, 1, none⟩ = some (.int .i64 b) := by rw [hW]; simp [go_sem]
    have c2 : W.cell? ⟨w.heap.size + 1, 0, none⟩ = some (.int .i64 c) := by rw [hW]; simp [go_sem]
    have c3 : W.cell? ⟨w.heap.size + 1, 1, none⟩ = some (.int .i64 d) := by rw [hW]; simp [go_sem]
    have c4 : W.cell? ⟨w.heap.size + 2, 0, none⟩ = some (.int .i64 0) := by rw [hW]; simp [go_sem]
    have z4 : W.frozen? ⟨w.heap.size + 2, 0, none⟩ = false := by rw [hW]; simp [go_sem]
    have c5 : W.cell? ⟨w.heap.size + 2, 1, none⟩ = some (.int .i64 0) := by rw [hW]; simp [go_sem]
    have z5 : W.frozen? ⟨w.heap.size + 2, 1, none⟩ = false := by rw [hW]; simp [go_sem]
    have c6 : W.cell? ⟨w.heap.size + 3, 0, none⟩ = some (.int .i64 0) := by rw [hW]; simp [go_sem]
    have z6 : W.frozen? ⟨w.heap.size + 3, 0, none⟩ = false := by rw [hW]; simp [go_sem]
    have c7 : W.cell? ⟨w.heap.size + 3, 1, none⟩ = some (.int .i64 0) := by rw [hW]; simp [go_sem]
    have z7 : W.frozen? ⟨w.heap.size + 3, 1, none⟩ = false := by rw [hW]; simp [go_sem]
    have hB : Below w.heap.size w W := by rw [hW]; exact (((((Below.refl _ _).alloc (by simp <;> omega) _).alloc (by simp <;> omega) _).alloc (by simp <;> omega) _).alloc (by simp <;> omega) _)
    subst hW
    go_enter Try.func20, Try.ntmps20
    ((go_wp2_with fail); (with_reducible refine (hF _).mono ?_); rintro _ w1 ⟨rfl, hb⟩; replace z4 := below_frozen hb (lt_of_cell c4) z4; replace z5 := below_frozen hb (lt_of_cell c5) z5; replace z6 := below_frozen hb (lt_of_cell c6) z6; replace z7 := below_frozen hb (lt_of_cell c7) z7; replace c0 := below_cell hb c0; replace c1 := below_cell hb c1; replace c2 := below_cell hb c2; replace c3 := below_cell hb c3; replace c4 := below_cell hb c4; replace c5 := below_cell hb c5; replace c6 := below_cell hb c6; replace c7 := below_cell hb c7; replace hB := below_step hB hb; clear hb)
    have l4 : w.heap.size + 2 < w1.heap.size := lt_of_cell c4
    have l6 : w.heap.size + 3 < w1.heap.size := lt_of_cell c6
    go_wp2_with fail
    refine bodyPost_ret (by first | (simp [results, Try.results20, go_sem, *]; done) | (simp [results, Try.results20, go_sem, *]; rfl)) rfl ⟨rfl, by (repeat (first | exact Below.refl _ _ | assumption | (refine Below.drew ?_) | (refine below_alloc ?_ _) | (refine Below.setCell ?_ (by first | (simp; done) | (simp; omega) | omega | (have hq := hB.size; (try simp at hq ⊢); omega)) _) | (refine Below.alloc ?_ (by first | (simp; done) | (simp; omega) | omega | (have hq := hB.size; (try simp at hq ⊢); omega)) _) | (refine below_step ?_ (by assumption))))⟩
  cases h2 : frB c d
  · have e0 : hvO a b c d = false := by simp [hvO, hO_right h2]
    rw [show hvV a b c d = _ from if_neg (by simp [e0])]
    simp only [h1] at hF
    simp only [h2] at hG
    clear e0 h1 h2
    obtain ⟨W, hW⟩ : ∃ W, W = ((((w.alloc (.cells #[.int .i64 a, .int .i64 b] 25)).alloc (.cells #[.int .i64 c, .int .i64 d] 25)).alloc (.cells #[.int .i64 0, .int .i64 0] 25)).alloc (.cells #[.int .i64 0, .int .i64 0] 25)) := ⟨_, rfl⟩
    have c0 : W.cell? ⟨w.heap.size, 0, none⟩ = some (.int .i64 a) := by rw [hW]; simp [go_sem]
    have c1 : W.cell? ⟨w.heap.size, 1, none⟩ = some (.int .i64 b) := by rw [hW]; simp [go_sem]
    have c2 : W.cell? ⟨w.heap.size + 1, 0, none⟩ = some (.int .i64 c) := by rw [hW]; simp [go_sem]
    have c3 : W.cell? ⟨w.heap.size + 1, 1, none⟩ = some (.int .i64 d) := by rw [hW]; simp [go_sem]
    have c4 : W.cell? ⟨w.heap.size + 2, 0, none⟩ = some (.int .i64 0) := by rw [hW]; simp [go_sem]
    have z4 : W.frozen? ⟨w.heap.size + 2, 0, none⟩ = false := by rw [hW]; simp [go_sem]
    have c5 : W.cell? ⟨w.heap.size + 2, 1, none⟩ = some (.int .i64 0) := by rw [hW]; simp [go_sem]
    have z5 : W.frozen? ⟨w.heap.size + 2, 1, none⟩ = false := by rw [hW]; simp [go_sem]
    have c6 : W.cell? ⟨w.heap.size + 3, 0, none⟩ = some (.int .i64 0) := by rw [hW]; simp [go_sem]
    have z6 : W.frozen? ⟨w.heap.size + 3, 0, none⟩ = false := by rw [hW]; simp [go_sem]
    have c7 : W.cell? ⟨w.heap.size + 3, 1, none⟩ = some (.int .i64 0) := by rw [hW]; simp [go_sem]
    have z7 : W.frozen? ⟨w.heap.size + 3, 1, none⟩ = false := by rw [hW]; simp [go_sem]
    have hB : Below w.heap.size w W := by rw [hW]; exact (((((Below.refl _ _).alloc (by simp <;> omega) _).alloc (by simp <;> omega) _).alloc (by simp <;> omega) _).alloc (by simp <;> omega) _)
    subst hW
    go_enter Try.func20, Try.ntmps20
    ((go_wp2_with fail); (with_reducible refine (hF _).mono ?_); rintro _ w1 ⟨rfl, hb⟩; replace z4 := below_frozen hb (lt_of_cell c4) z4; replace z5 := below_frozen hb (lt_of_cell c5) z5; replace z6 := below_frozen hb (lt_of_cell c6) z6; replace z7 := below_frozen hb (lt_of_cell c7) z7; replace c0 := below_cell hb c0; replace c1 := below_cell hb c1; replace c2 := below_cell hb c2; replace c3 := below_cell hb c3; replace c4 := below_cell hb c4; replace c5 := below_cell hb c5; replace c6 := below_cell hb c6; replace c7 := below_cell hb c7; replace hB := below_step hB hb; clear hb)
    ((go_wp2_with fail); (with_reducible refine (hG _).mono ?_); rintro _ w1 ⟨rfl, hb⟩; replace z4 := below_frozen hb (lt_of_cell c4) z4; replace z5 := below_frozen hb (lt_of_cell c5) z5; replace z6 := below_frozen hb (lt_of_cell c6) z6; replace z7 := below_frozen hb (lt_of_cell c7) z7; replace c0 := below_cell hb c0; replace c1 := below_cell hb c1; replace c2 := below_cell hb c2; replace c3 := below_cell hb c3; replace c4 := below_cell hb c4; replace c5 := below_cell hb c5; replace c6 := below_cell hb c6; replace c7 := below_cell hb c7; replace hB := below_step hB hb; clear hb)
    have l4 : w.heap.size + 2 < w1.heap.size := lt_of_cell c4
    have l6 : w.heap.size + 3 < w1.heap.size := lt_of_cell c6
    go_wp2_with fail
    refine bodyPost_ret (by first | (simp [results, Try.results20, go_sem, *]; done) | (simp [results, Try.results20, go_sem, *]; rfl)) rfl ⟨rfl, by (repeat (first | exact Below.refl _ _ | assumption | (refine Below.drew ?_) | (refine below_alloc ?_ _) | (refine Below.setCell ?_ (by first | (simp; done) | (simp; omega) | omega | (have hq := hB.size; (try simp at hq ⊢); omega)) _) | (refine Below.alloc ?_ (by first | (simp; done) | (simp; omega) | omega | (have hq := hB.size; (try simp at hq ⊢); omega)) _) | (refine below_step ?_ (by assumption))))⟩
  simp only [h1] at hF
  simp only [h2] at hG
  clear h1 h2
  have hH := fun w => spec_half a b c d w
  have hK := fun w => spec_half a b (ng c) d w
  have hM := fun w => spec_minus c d w
  unfold hvV hvO
  revert hH hK hM
  generalize hT a b (ng c) d = P2
  generalize hB' a b (ng c) d = Q2
  generalize hO a b (ng c) d = R2
  generalize hT a b c d = P1
  generalize hB' a b c d = Q1
  generalize hO a b c d = R1
  generalize ng c = nc
  intro hH hK hM
  obtain ⟨W, hW⟩ : ∃ W, W = ((((w.alloc (.cells #[.int .i64 a, .int .i64 b] 25)).alloc (.cells #[.int .i64 c, .int .i64 d] 25)).alloc (.cells #[.int .i64 0, .int .i64 0] 25)).alloc (.cells #[.int .i64 0, .int .i64 0] 25)) := ⟨_, rfl⟩
  have c0 : W.cell? ⟨w.heap.size, 0, none⟩ = some (.int .i64 a) := by rw [hW]; simp [go_sem]
  have c1 : W.cell? ⟨w.heap.size, 1, none⟩ = some (.int .i64 b) := by rw [hW]; simp [go_sem]
  have c2 : W.cell? ⟨w.heap.size + 1, 0, none⟩ = some (.int .i64 c) := by rw [hW]; simp [go_sem]
  have c3 : W.cell? ⟨w.heap.size + 1, 1, none⟩ = some (.int .i64 d) := by rw [hW]; simp [go_sem]
  have c4 : W.cell? ⟨w.heap.size + 2, 0, none⟩ = some (.int .i64 0) := by rw [hW]; simp [go_sem]
  have z4 : W.frozen? ⟨w.heap.size + 2, 0, none⟩ = false := by rw [hW]; simp [go_sem]
  have c5 : W.cell? ⟨w.heap.size + 2, 1, none⟩ = some (.int .i64 0) := by rw [hW]; simp [go_sem]
  have z5 : W.frozen? ⟨w.heap.size + 2, 1, none⟩ = false := by rw [hW]; simp [go_sem]
  have c6 : W.cell? ⟨w.heap.size + 3, 0, none⟩ = some (.int .i64 0) := by rw [hW]; simp [go_sem]
  have z6 : W.frozen? ⟨w.heap.size + 3, 0, none⟩ = false := by rw [hW]; simp [go_sem]
  have c7 : W.cell? ⟨w.heap.size + 3, 1, none⟩ = some (.int .i64 0) := by rw [hW]; simp [go_sem]
  have z7 : W.frozen? ⟨w.heap.size + 3, 1, none⟩ = false := by rw [hW]; simp [go_sem]
  have hB : Below w.heap.size w W := by rw [hW]; exact (((((Below.refl _ _).alloc (by simp <;> omega) _).alloc (by simp <;> omega) _).alloc (by simp <;> omega) _).alloc (by simp <;> omega) _)
  subst hW
  go_enter Try.func20, Try.ntmps20
  ((go_wp2_with fail); (with_reducible refine (hF _).mono ?_); rintro _ w1 ⟨rfl, hb⟩; replace z4 := below_frozen hb (lt_of_cell c4) z4; replace z5 := below_frozen hb (lt_of_cell c5) z5; replace z6 := below_frozen hb (lt_of_cell c6) z6; replace z7 := below_frozen hb (lt_of_cell c7) z7; replace c0 := below_cell hb c0; replace c1 := below_cell hb c1; replace c2 := below_cell hb c2; replace c3 := below_cell hb c3; replace c4 := below_cell hb c4; replace c5 := below_cell hb c5; replace c6 := below_cell hb c6; replace c7 := below_cell hb c7; replace hB := below_step hB hb; clear hb)
  ((go_wp2_with fail); (with_reducible refine (hG _).mono ?_); rintro _ w1 ⟨rfl, hb⟩; replace z4 := below_frozen hb (lt_of_cell c4) z4; replace z5 := below_frozen hb (lt_of_cell c5) z5; replace z6 := below_frozen hb (lt_of_cell c6) z6; replace z7 := below_frozen hb (lt_of_cell c7) z7; replace c0 := below_cell hb c0; replace c1 := below_cell hb c1; replace c2 := below_cell hb c2; replace c3 := below_cell hb c3; replace c4 := below_cell hb c4; replace c5 := below_cell hb c5; replace c6 := below_cell hb c6; replace c7 := below_cell hb c7; replace hB := below_step hB hb; clear hb)
  ((go_wp2_with fail); (with_reducible refine (hH _).mono ?_); rintro _ w1 ⟨rfl, hb⟩; replace z4 := below_frozen hb (lt_of_cell c4) z4; replace z5 := below_frozen hb (lt_of_cell c5) z5; replace z6 := below_frozen hb (lt_of_cell c6) z6; replace z7 := below_frozen hb (lt_of_cell c7) z7; replace c0 := below_cell hb c0; replace c1 := below_cell hb c1; replace c2 := below_cell hb c2; replace c3 := below_cell hb c3; replace c4 := below_cell hb c4; replace c5 := below_cell hb c5; replace c6 := below_cell hb c6; replace c7 := below_cell hb c7; replace hB := below_step hB hb; clear hb)
  have l4 : w.heap.size + 2 < w1.heap.size := lt_of_cell c4
  have l6 : w.heap.size + 3 < w1.heap.size := lt_of_cell c6
  have hb := below_alloc (Below.refl w1.heap.size w1) (.cells #[.int .i64 P1, .int .i64 Q1] 25)
  have c8 : (w1.alloc (.cells #[.int .i64 P1, .int .i64 Q1] 25)).cell? ⟨w1.heap.size, 0, none⟩ = some (.int .i64 P1) := by simp [go_sem]
  have c9 : (w1.alloc (.cells #[.int .i64 P1, .int .i64 Q1] 25)).cell? ⟨w1.heap.size, 1, none⟩ = some (.int .i64 Q1) := by simp [go_sem]
  (skip; replace z4 := below_frozen hb (lt_of_cell c4) z4; replace z5 := below_frozen hb (lt_of_cell c5) z5; replace z6 := below_frozen hb (lt_of_cell c6) z6; replace z7 := below_frozen hb (lt_of_cell c7) z7; replace c0 := below_cell hb c0; replace c1 := below_cell hb c1; replace c2 := below_cell hb c2; replace c3 := below_cell hb c3; replace c4 := below_cell hb c4; replace c5 := below_cell hb c5; replace c6 := below_cell hb c6; replace c7 := below_cell hb c7; replace hB := below_step hB hb; clear hb)
  go_wp2_with fail
  apply region_made
  case hm => kernel_rfl
  case hok => kernel_rfl
  case hsz => rfl
  case hal => kernel_rfl
  case H =>
    intro u hu
    have Ec0 := ext_cell (below_cell hu c0)
    have Ec1 := ext_cell (below_cell hu c1)
    have Ec2 := ext_cell (below_cell hu c2)
    have Ec3 := ext_cell (below_cell hu c3)
    have Ec4 := ext_cell (below_cell hu c4)
    have Ec5 := ext_cell (below_cell hu c5)
    have Ec6 := ext_cell (below_cell hu c6)
    have Ec7 := ext_cell (below_cell hu c7)
    have Ec8 := ext_cell (below_cell hu c8)
    have Ec9 := ext_cell (below_cell hu c9)
    dsimp only [List.map, tame]
    (repeat (first | go_big_quiet_step ((first | (go_at_call 52; exact calm_of (hM _)) | (go_at_call 51; exact calm_of (hK _)))) | simp only [TF]))
    exact wpQuiet_nil rfl
  case hst => simp only [storesOk, true_and, and_true]; exact ⟨_, rfl, sizeFraction, by simp [Value.oneCell']⟩
  intro G w1 hb hf hd
  simp only [madeFacts, true_and, and_true] at hf
  obtain ⟨hg9, hh9⟩ := hf
  clear hd
  dsimp only [alSlots, List.filterMap, putAll]
  have c10 : w1.cell? ⟨G 9, 0, none⟩ = some (.int .i64 P2) := made_cell hh9 rfl
  have c11 : w1.cell? ⟨G 9, 1, none⟩ = some (.int .i64 Q2) := made_cell hh9 rfl
  clear hh9
  generalize G 9 = g9 at *
  simp only [Act.put, List.setIfInBounds_toArray, List.set_cons_succ, List.set_cons_zero]
  (replace z4 := below_frozen hb (lt_of_cell c4) z4; replace z5 := below_frozen hb (lt_of_cell c5) z5; replace z6 := below_frozen hb (lt_of_cell c6) z6; replace z7 := below_frozen hb (lt_of_cell c7) z7; replace c0 := below_cell hb c0; replace c1 := below_cell hb c1; replace c2 := below_cell hb c2; replace c3 := below_cell hb c3; replace c4 := below_cell hb c4; replace c5 := below_cell hb c5; replace c6 := below_cell hb c6; replace c7 := below_cell hb c7; replace c8 := below_cell hb c8; replace c9 := below_cell hb c9; replace hB := below_step hB hb; clear hb)
  have j4 : w.heap.size + 2 < g9 := by have h := hg9; simp only [World.size_alloc] at h; omega
  have j6 : w.heap.size + 3 < g9 := by have h := hg9; simp only [World.size_alloc] at h; omega
  have k4 : w.heap.size + 2 < w1.heap.size := lt_of_cell c4
  have k6 : w.heap.size + 3 < w1.heap.size := lt_of_cell c6
  cases R1
  · go_wp2
    refine bodyPost_ret (by first | (simp [results, Try.results20, go_sem, *]; done) | (simp [results, Try.results20, go_sem, *]; rfl)) rfl ⟨rfl, by (repeat (first | exact Below.refl _ _ | assumption | (refine Below.drew ?_) | (refine below_alloc ?_ _) | (refine Below.setCell ?_ (by first | (simp; done) | (simp; omega) | omega | (have hq := hB.size; (try simp at hq ⊢); omega)) _) | (refine Below.alloc ?_ (by first | (simp; done) | (simp; omega) | omega | (have hq := hB.size; (try simp at hq ⊢); omega)) _) | (refine below_step ?_ (by assumption))))⟩
  · cases R2
    · go_wp2
      refine bodyPost_ret (by first | (simp [results, Try.results20, go_sem, *]; done) | (simp [results, Try.results20, go_sem, *]; rfl)) rfl ⟨rfl, by (repeat (first | exact Below.refl _ _ | assumption | (refine Below.drew ?_) | (refine below_alloc ?_ _) | (refine Below.setCell ?_ (by first | (simp; done) | (simp; omega) | omega | (have hq := hB.size; (try simp at hq ⊢); omega)) _) | (refine Below.alloc ?_ (by first | (simp; done) | (simp; omega) | omega | (have hq := hB.size; (try simp at hq ⊢); omega)) _) | (refine below_step ?_ (by assumption))))⟩
    · go_wp2_with fail
      go_region
      go_wp2
      refine bodyPost_ret (by first | (simp [results, Try.results20, go_sem, *]; done) | (simp [results, Try.results20, go_sem, *]; rfl)) rfl ⟨rfl, by (repeat (first | exact Below.refl _ _ | assumption | (refine Below.drew ?_) | (refine below_alloc ?_ _) | (refine Below.setCell ?_ (by first | (simp; done) | (simp; omega) | omega | (have hq := hB.size; (try simp at hq ⊢); omega)) _) | (refine Below.alloc ?_ (by first | (simp; done) | (simp; omega) | omega | (have hq := hB.size; (try simp at hq ⊢); omega)) _) | (refine below_step ?_ (by assumption))))⟩
theorem hvV_form (a b c d : Int) : ∃ (X Y P Q : Int) (O : Bool), hvV a b c d = .tuple #[.agg #[.int .i64 X, .int .i64 Y], .agg #[.int .i64 P, .int .i64 Q], .bool O] := by
  unfold hvV; split
  · exact ⟨_, _, _, _, _, rfl⟩
  · exact ⟨0, 0, 0, 0, false, rfl⟩
theorem walkHalve (a b c d : Int) (w : World) : Calls Try.prog 5 #[.agg #[.int .i64 a, .int .i64 b], .agg #[.int .i64 c, .int .i64 d]] w fun x w' => x = .returned (.bool true) ∧ Below w.heap.size w w' := by
  have hS := fun w => spec_Halve a b c d w
  have hI := fun w => impl_Halve a b c d w
  obtain ⟨X, Y, P, Q, O, hv⟩ := hvV_form a b c d
  simp only [hv] at hS hI
  clear hv
  have ob : (O != O) = false := by simp
  obtain ⟨W, hW⟩ : ∃ W, W = ((w.alloc (.cells #[.int .i64 a, .int .i64 b] 39)).alloc (.cells #[.int .i64 c, .int .i64 d] 39)) := ⟨_, rfl⟩
  have c0 : W.cell? ⟨w.heap.size, 0, none⟩ = some (.int .i64 a) := by rw [hW]; simp [go_sem]
  have c1 : W.cell? ⟨w.heap.size, 1, none⟩ = some (.int .i64 b) := by rw [hW]; simp [go_sem]
  have c2 : W.cell? ⟨w.heap.size + 1, 0, none⟩ = some (.int .i64 c) := by rw [hW]; simp [go_sem]
  have c3 : W.cell? ⟨w.heap.size + 1, 1, none⟩ = some (.int .i64 d) := by rw [hW]; simp [go_sem]
  have hB : Below w.heap.size w W := by rw [hW]; exact (((Below.refl _ _).alloc (by simp <;> omega) _).alloc (by simp <;> omega) _)
  subst hW
  go_enter Try.func5, Try.ntmps5
  go_wp2_with fail
  apply region_made
  case hm => kernel_rfl
  case hok => kernel_rfl
  case hsz => rfl
  case hal => kernel_rfl
  case H =>
    intro u hu
    have Ec0 := ext_cell (below_cell hu c0)
    have Ec1 := ext_cell (below_cell hu c1)
    have Ec2 := ext_cell (below_cell hu c2)
    have Ec3 := ext_cell (below_cell hu c3)
    dsimp only [List.map, tame]
    (repeat (first | go_big_quiet_step ((first | (go_at_call 21; exact calm_of (toFraction_any _ _ _)) | (go_at_call 20; exact calm_of (hS _)))) | simp only [TF]))
    exact wpQuiet_nil rfl
  case hst => simp only [storesOk, true_and, and_true]; exact ⟨⟨_, rfl, sizeFraction, by simp [Value.oneCell']⟩, ⟨_, rfl, sizeFraction, by simp [Value.oneCell']⟩⟩
  intro G w1 hb hf hd
  simp only [madeFacts, true_and, and_true] at hf
  obtain ⟨⟨hg5, hh5⟩, ⟨hg6, hh6⟩⟩ := hf
  have hd5_6 := hd 5 (by decide) 6 (by decide) (by decide)
  clear hd
  dsimp only [alSlots, List.filterMap, putAll]
  have c4 : w1.cell? ⟨G 5, 0, none⟩ = some (.int .i64 X) := made_cell hh5 rfl
  have c5 : w1.cell? ⟨G 5, 1, none⟩ = some (.int .i64 Y) := made_cell hh5 rfl
  clear hh5
  have c6 : w1.cell? ⟨G 6, 0, none⟩ = some (.int .i64 P) := made_cell hh6 rfl
  have c7 : w1.cell? ⟨G 6, 1, none⟩ = some (.int .i64 Q) := made_cell hh6 rfl
  clear hh6
  generalize G 5 = g5 at *
  generalize G 6 = g6 at *
  simp only [Act.put, List.setIfInBounds_toArray, List.set_cons_succ, List.set_cons_zero]
  (replace c0 := below_cell hb c0; replace c1 := below_cell hb c1; replace c2 := below_cell hb c2; replace c3 := below_cell hb c3; replace hB := below_step hB hb; clear hb)
  go_wp2_with fail
  apply region_made
  case hm => kernel_rfl
  case hok => kernel_rfl
  case hsz => rfl
  case hal => kernel_rfl
  case H =>
    intro u hu
    have Ec0 := ext_cell (below_cell hu c0)
    have Ec1 := ext_cell (below_cell hu c1)
    have Ec2 := ext_cell (below_cell hu c2)
    have Ec3 := ext_cell (below_cell hu c3)
    have Ec4 := ext_cell (below_cell hu c4)
    have Ec5 := ext_cell (below_cell hu c5)
    have Ec6 := ext_cell (below_cell hu c6)
    have Ec7 := ext_cell (below_cell hu c7)
    dsimp only [List.map, tame]
    (repeat (first | go_big_quiet_step ((first | (go_at_call 21; exact calm_of (toFraction_any _ _ _)) | (go_at_call 22; exact calm_of (hI _)))) | simp only [TF]))
    exact wpQuiet_nil rfl
  case hst => simp only [storesOk, true_and, and_true]; exact ⟨⟨_, rfl, sizeFraction, by simp [Value.oneCell']⟩, ⟨_, rfl, sizeFraction, by simp [Value.oneCell']⟩⟩
  intro G w1 hb hf hd
  simp only [madeFacts, true_and, and_true] at hf
  obtain ⟨⟨hg8, hh8⟩, ⟨hg9, hh9⟩⟩ := hf
  have hd8_9 := hd 8 (by decide) 9 (by decide) (by decide)
  clear hd
  dsimp only [alSlots, List.filterMap, putAll]
  have c8 : w1.cell? ⟨G 8, 0, none⟩ = some (.int .i64 X) := made_cell hh8 rfl
  have c9 : w1.cell? ⟨G 8, 1, none⟩ = some (.int .i64 Y) := made_cell hh8 rfl
  clear hh8
  have c10 : w1.cell? ⟨G 9, 0, none⟩ = some (.int .i64 P) := made_cell hh9 rfl
  have c11 : w1.cell? ⟨G 9, 1, none⟩ = some (.int .i64 Q) := made_cell hh9 rfl
  clear hh9
  generalize G 8 = g8 at *
  generalize G 9 = g9 at *
  simp only [Act.put, List.setIfInBounds_toArray, List.set_cons_succ, List.set_cons_zero]
  (replace c0 := below_cell hb c0; replace c1 := below_cell hb c1; replace c2 := below_cell hb c2; replace c3 := below_cell hb c3; replace c4 := below_cell hb c4; replace c5 := below_cell hb c5; replace c6 := below_cell hb c6; replace c7 := below_cell hb c7; replace hB := below_step hB hb; clear hb)
  ((go_wp2_with fail); (with_reducible refine (eqFraction_true _ _ _).mono ?_); rintro _ w1 ⟨rfl, hb⟩; replace c6 := below_cell hb c6; replace c7 := below_cell hb c7; replace c10 := below_cell hb c10; replace c11 := below_cell hb c11; replace hB := below_step hB hb; clear hb)
  ((go_wp2_with fail); (with_reducible refine (eqFraction_true _ _ _).mono ?_); rintro _ w1 ⟨rfl, hb⟩; replace hB := below_step hB hb; clear hb)
  go_wp2_with fail
  go_ret
  exact ⟨rfl, hB⟩
end Go.Proofs.Ytoalpihlflifmaa
