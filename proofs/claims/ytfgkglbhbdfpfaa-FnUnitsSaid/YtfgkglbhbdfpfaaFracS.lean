/- The contracts of the reference's functions on fractions: making, adding and multiplying: each returns what the program's returns, and leaves old memory alone. -/
import Derived.Test.YtfgkglbhbdfpfaaFrac
namespace Go.Proofs.Ytfgkglbhbdfpfaa
open Go.RowKit
set_option linter.unusedSimpArgs false
set_option linter.unusedVariables false
set_option maxHeartbeats 1000000
theorem spec_Make (t b : Int) (w : World) : Calls Try.prog 43 #[.int .i64 t, .int .i64 b] w fun e w' => e = .returned (mkV t b) ∧ Below w.heap.size w w' := by
  by_cases h0 : b = 0
  · subst h0
    rw [mkV_no (Or.inl rfl)]
    obtain ⟨W, hW⟩ : ∃ W, W = (w.alloc (.cells #[.int .i64 0, .int .i64 0] 32)) := ⟨_, rfl⟩
    have c0 : W.cell? ⟨w.heap.size, 0, none⟩ = some (.int .i64 0) := by rw [hW]; simp [go_sem]
    have z0 : W.frozen? ⟨w.heap.size, 0, none⟩ = false := by rw [hW]; simp [go_sem]
    have c1 : W.cell? ⟨w.heap.size, 1, none⟩ = some (.int .i64 0) := by rw [hW]; simp [go_sem]
    have z1 : W.frozen? ⟨w.heap.size, 1, none⟩ = false := by rw [hW]; simp [go_sem]
    have hB : Below w.heap.size w W := by rw [hW]; exact ((Below.refl _ _).alloc (by simp <;> omega) _)
    subst hW
    go_enter Try.func43, Try.ntmps43
    go_wp2
    refine bodyPost_ret (by first | (simp [results, Try.results43, go_sem, *]; done) | (simp [results, Try.results43, go_sem, *]; rfl)) rfl ⟨rfl, by (repeat (first | exact Below.refl _ _ | assumption | (refine Below.drew ?_) | (refine below_alloc ?_ _) | (refine Below.setCell ?_ (by first | (simp; done) | (simp; omega) | omega | (have hq := hB.size; (try simp at hq ⊢); omega)) _) | (refine Below.alloc ?_ (by first | (simp; done) | (simp; omega) | omega | (have hq := hB.size; (try simp at hq ⊢); omega)) _) | (refine below_step ?_ (by assumption))))⟩
  · have hb : (b == 0) = false := by simp [h0]
    by_cases h1 : inB t (-1000000000000) 1000000000000 = true
    · by_cases h2 : inB b (-1000000000000) 1000000000000 = true
      · rw [mkV_yes h0 h1 h2]
        have i1 := inB_iff.1 h1
        have i2 := inB_iff.1 h2
        have hI1 := fun w => l01In_any t (-1000000000000) 1000000000000 w
        have hI2 := fun w => l01In_any b (-1000000000000) 1000000000000 w
        simp only [h1] at hI1
        simp only [h2] at hI2
        clear h1 h2
        have hg := fun w => spec_gcd t b (by omega) (by omega) w
        rw [show Nat.gcd t.natAbs b.natAbs = gN t b from rfl] at hg
        have g1 := gN_pos (t := t) h0
        have g2 := gN_le (t := t) h0
        have b1 := tdiv_bd t (gN t b)
        have b2 := tdiv_bd b (gN t b)
        have hO := fun w => spec_FracOk (rT t b) (rB t b) w
        rw [show frB (rT t b) (rB t b) = redO t b from rfl] at hO
        by_cases hn : b < 0
        · have eT : wrap64 (-(t.tdiv (gN t b))) = rT t b := by rw [IntWalk.wrap64_in _ (by omega), rT_neg hn]
          have eB : wrap64 (-(b.tdiv (gN t b))) = rB t b := by rw [IntWalk.wrap64_in _ (by omega), rB_neg hn]
          unfold redV
          revert hg eT eB hO g1 g2
          generalize gN t b = g
          generalize rT t b = T
          generalize rB t b = B
          generalize redO t b = O
          intro hg g1 g2 hO eT eB
          clear b1 b2
          have hz : ((g : Int) == 0) = false := by simp; omega
          have hz2 : ((g : Int) != 0) = true := by simp; omega
          have HT := Lib.hid eT; clear eT
          have HB := Lib.hid eB; clear eB
          cases O
          all_goals
            obtain ⟨W, hW⟩ : ∃ W, W = (w.alloc (.cells #[.int .i64 0, .int .i64 0] 32)) := ⟨_, rfl⟩
            have c0 : W.cell? ⟨w.heap.size, 0, none⟩ = some (.int .i64 0) := by rw [hW]; simp [go_sem]
            have z0 : W.frozen? ⟨w.heap.size, 0, none⟩ = false := by rw [hW]; simp [go_sem]
            have c1 : W.cell? ⟨w.heap.size, 1, none⟩ = some (.int .i64 0) := by rw [hW]; simp [go_sem]
            have z1 : W.frozen? ⟨w.heap.size, 1, none⟩ = false := by rw [hW]; simp [go_sem]
            have hB : Below w.heap.size w W := by rw [hW]; exact ((Below.refl _ _).alloc (by simp <;> omega) _)
            subst hW
            go_enter Try.func43, Try.ntmps43
            ((go_wp2_with fail); (with_reducible refine (hI1 _).mono ?_); rintro _ _ ⟨rfl, rfl⟩)
            ((go_wp2_with fail); (with_reducible refine (hI2 _).mono ?_); rintro _ _ ⟨rfl, rfl⟩)
            ((go_wp2_with fail); (with_reducible refine (hg _).mono ?_); rintro _ w1 ⟨rfl, hb⟩; replace z0 := below_frozen hb (lt_of_cell c0) z0; replace z1 := below_frozen hb (lt_of_cell c1) z1; replace c0 := below_cell hb c0; replace c1 := below_cell hb c1; replace hB := below_step hB hb; clear hb)
            go_wp2_with fail
            apply region_made
            case hm => kernel_rfl
            case hok => kernel_rfl
            case hsz => rfl
            case hal => kernel_rfl
            case H =>
              intro u hu
              have Ec0 := ext_cell (below_cell hu c0)
              have Ec1 := ext_cell (below_cell hu c1)
              dsimp only [List.map, tame]
              (repeat (first | go_big_quiet_step (fail) | simp only [TF]))
              exact wpQuiet_nil rfl
            case hst => simp only [storesOk, true_and, and_true]; exact ⟨_, rfl, sizeFraction, by simp [Value.oneCell']⟩
            intro G w1 hb hf hd
            simp only [madeFacts, true_and, and_true] at hf
            obtain ⟨hg8, hh8⟩ := hf
            clear hd
            dsimp only [alSlots, List.filterMap, putAll]
            have c2 : w1.cell? ⟨G 8, 0, none⟩ = some (.int .i64 (wrap64 (-t.tdiv g))) := made_cell hh8 rfl
            have c3 : w1.cell? ⟨G 8, 1, none⟩ = some (.int .i64 (wrap64 (-b.tdiv g))) := made_cell hh8 rfl
            clear hh8
            generalize G 8 = g8 at *
            simp only [Act.put, List.setIfInBounds_toArray, List.set_cons_succ, List.set_cons_zero]
            (replace z0 := below_frozen hb (lt_of_cell c0) z0; replace z1 := below_frozen hb (lt_of_cell c1) z1; replace c0 := below_cell hb c0; replace c1 := below_cell hb c1; replace hB := below_step hB hb; clear hb)
            rw [HT.out] at c2
            rw [HB.out] at c3
            simp only [HT.out, HB.out]
            go_wp2_with (go_at_call 29; (with_reducible refine (hO _).mono ?_); rintro _ w1 ⟨rfl, hb⟩; replace z0 := below_frozen hb (lt_of_cell c0) z0; replace z1 := below_frozen hb (lt_of_cell c1) z1; replace c0 := below_cell hb c0; replace c1 := below_cell hb c1; replace c2 := below_cell hb c2; replace c3 := below_cell hb c3; replace hB := below_step hB hb; clear hb)
            refine bodyPost_ret (by first | (simp [results, Try.results43, go_sem, *]; done) | (simp [results, Try.results43, go_sem, *]; rfl)) rfl ⟨?_, by (repeat (first | exact Below.refl _ _ | assumption | (refine Below.drew ?_) | (refine below_alloc ?_ _) | (refine Below.setCell ?_ (by first | (simp; done) | (simp; omega) | omega | (have hq := hB.size; (try simp at hq ⊢); omega)) _) | (refine Below.alloc ?_ (by first | (simp; done) | (simp; omega) | omega | (have hq := hB.size; (try simp at hq ⊢); omega)) _) | (refine below_step ?_ (by assumption))))⟩
            simp
        · have eT : t.tdiv (gN t b) = rT t b := rT_pos hn
          have eB : b / (gN t b : Int) = rB t b := by rw [← rB_pos hn, Int.tdiv_eq_ediv_of_nonneg (by omega)]
          unfold redV
          revert hg eT eB hO g1 g2
          generalize gN t b = g
          generalize rT t b = T
          generalize rB t b = B
          generalize redO t b = O
          intro hg g1 g2 hO eT eB
          clear b1 b2
          have hz : ((g : Int) == 0) = false := by simp; omega
          have hz2 : ((g : Int) != 0) = true := by simp; omega
          have HT := Lib.hid eT; clear eT
          have HB := Lib.hid eB; clear eB
          cases O
          all_goals
            obtain ⟨W, hW⟩ : ∃ W, W = (w.alloc (.cells #[.int .i64 0, .int .i64 0] 32)) := ⟨_, rfl⟩
            have c0 : W.cell? ⟨w.heap.size, 0, none⟩ = some (.int .i64 0) := by rw [hW]; simp [go_sem]
            have z0 : W.frozen? ⟨w.heap.size, 0, none⟩ = false := by rw [hW]; simp [go_sem]
            have c1 : W.cell? ⟨w.heap.size, 1, none⟩ = some (.int .i64 0) := by rw [hW]; simp [go_sem]
            have z1 : W.frozen? ⟨w.heap.size, 1, none⟩ = false := by rw [hW]; simp [go_sem]
            have hB : Below w.heap.size w W := by rw [hW]; exact ((Below.refl _ _).alloc (by simp <;> omega) _)
            subst hW
            go_enter Try.func43, Try.ntmps43
            ((go_wp2_with fail); (with_reducible refine (hI1 _).mono ?_); rintro _ _ ⟨rfl, rfl⟩)
            ((go_wp2_with fail); (with_reducible refine (hI2 _).mono ?_); rintro _ _ ⟨rfl, rfl⟩)
            ((go_wp2_with fail); (with_reducible refine (hg _).mono ?_); rintro _ w1 ⟨rfl, hb⟩; replace z0 := below_frozen hb (lt_of_cell c0) z0; replace z1 := below_frozen hb (lt_of_cell c1) z1; replace c0 := below_cell hb c0; replace c1 := below_cell hb c1; replace hB := below_step hB hb; clear hb)
            go_wp2_with fail
            apply region_made
            case hm => kernel_rfl
            case hok => kernel_rfl
            case hsz => rfl
            case hal => kernel_rfl
            case H =>
              intro u hu
              have Ec0 := ext_cell (below_cell hu c0)
              have Ec1 := ext_cell (below_cell hu c1)
              dsimp only [List.map, tame]
              (repeat (first | go_big_quiet_step (fail) | simp only [TF]))
              exact wpQuiet_nil rfl
            case hst => simp only [storesOk, true_and, and_true]; exact ⟨_, rfl, sizeFraction, by simp [Value.oneCell']⟩
            intro G w1 hb hf hd
            simp only [madeFacts, true_and, and_true] at hf
            obtain ⟨hg8, hh8⟩ := hf
            clear hd
            dsimp only [alSlots, List.filterMap, putAll]
            have c2 : w1.cell? ⟨G 8, 0, none⟩ = some (.int .i64 (t.tdiv g)) := made_cell hh8 rfl
            have c3 : w1.cell? ⟨G 8, 1, none⟩ = some (.int .i64 (b / (g : Int))) := made_cell hh8 rfl
            clear hh8
            generalize G 8 = g8 at *
            simp only [Act.put, List.setIfInBounds_toArray, List.set_cons_succ, List.set_cons_zero]
            (replace z0 := below_frozen hb (lt_of_cell c0) z0; replace z1 := below_frozen hb (lt_of_cell c1) z1; replace c0 := below_cell hb c0; replace c1 := below_cell hb c1; replace hB := below_step hB hb; clear hb)
            rw [HT.out] at c2
            rw [HB.out] at c3
            simp only [HT.out, HB.out]
            go_wp2_with (go_at_call 29; (with_reducible refine (hO _).mono ?_); rintro _ w1 ⟨rfl, hb⟩; replace z0 := below_frozen hb (lt_of_cell c0) z0; replace z1 := below_frozen hb (lt_of_cell c1) z1; replace c0 := below_cell hb c0; replace c1 := below_cell hb c1; replace c2 := below_cell hb c2; replace c3 := below_cell hb c3; replace hB := below_step hB hb; clear hb)
            refine bodyPost_ret (by first | (simp [results, Try.results43, go_sem, *]; done) | (simp [results, Try.results43, go_sem, *]; rfl)) rfl ⟨?_, by (repeat (first | exact Below.refl _ _ | assumption | (refine Below.drew ?_) | (refine below_alloc ?_ _) | (refine Below.setCell ?_ (by first | (simp; done) | (simp; omega) | omega | (have hq := hB.size; (try simp at hq ⊢); omega)) _) | (refine Below.alloc ?_ (by first | (simp; done) | (simp; omega) | omega | (have hq := hB.size; (try simp at hq ⊢); omega)) _) | (refine below_step ?_ (by assumption))))⟩
            simp
      · rw [mkV_no (Or.inr (Or.inr h2))]
        obtain ⟨W, hW⟩ : ∃ W, W = (w.alloc (.cells #[.int .i64 0, .int .i64 0] 32)) := ⟨_, rfl⟩
        have c0 : W.cell? ⟨w.heap.size, 0, none⟩ = some (.int .i64 0) := by rw [hW]; simp [go_sem]
        have z0 : W.frozen? ⟨w.heap.size, 0, none⟩ = false := by rw [hW]; simp [go_sem]
        have c1 : W.cell? ⟨w.heap.size, 1, none⟩ = some (.int .i64 0) := by rw [hW]; simp [go_sem]
        have z1 : W.frozen? ⟨w.heap.size, 1, none⟩ = false := by rw [hW]; simp [go_sem]
        have hB : Below w.heap.size w W := by rw [hW]; exact ((Below.refl _ _).alloc (by simp <;> omega) _)
        subst hW
        go_enter Try.func43, Try.ntmps43
        go_wp2_with (first | (go_at_call 28; (with_reducible refine (l01In_any _ _ _ _).mono ?_); rintro _ _ ⟨rfl, rfl⟩))
        refine bodyPost_ret (by first | (simp [results, Try.results43, go_sem, *]; done) | (simp [results, Try.results43, go_sem, *]; rfl)) rfl ⟨rfl, by (repeat (first | exact Below.refl _ _ | assumption | (refine Below.drew ?_) | (refine below_alloc ?_ _) | (refine Below.setCell ?_ (by first | (simp; done) | (simp; omega) | omega | (have hq := hB.size; (try simp at hq ⊢); omega)) _) | (refine Below.alloc ?_ (by first | (simp; done) | (simp; omega) | omega | (have hq := hB.size; (try simp at hq ⊢); omega)) _) | (refine below_step ?_ (by assumption))))⟩
    · rw [mkV_no (Or.inr (Or.inl h1))]
      obtain ⟨W, hW⟩ : ∃ W, W = (w.alloc (.cells #[.int .i64 0, .int .i64 0] 32)) := ⟨_, rfl⟩
      have c0 : W.cell? ⟨w.heap.size, 0, none⟩ = some (.int .i64 0) := by rw [hW]; simp [go_sem]
      have z0 : W.frozen? ⟨w.heap.size, 0, none⟩ = false := by rw [hW]; simp [go_sem]
      have c1 : W.cell? ⟨w.heap.size, 1, none⟩ = some (.int .i64 0) := by rw [hW]; simp [go_sem]
      have z1 : W.frozen? ⟨w.heap.size, 1, none⟩ = false := by rw [hW]; simp [go_sem]
      have hB : Below w.heap.size w W := by rw [hW]; exact ((Below.refl _ _).alloc (by simp <;> omega) _)
      subst hW
      go_enter Try.func43, Try.ntmps43
      go_wp2_with (first | (go_at_call 28; (with_reducible refine (l01In_any _ _ _ _).mono ?_); rintro _ _ ⟨rfl, rfl⟩))
      refine bodyPost_ret (by first | (simp [results, Try.results43, go_sem, *]; done) | (simp [results, Try.results43, go_sem, *]; rfl)) rfl ⟨rfl, by (repeat (first | exact Below.refl _ _ | assumption | (refine Below.drew ?_) | (refine below_alloc ?_ _) | (refine Below.setCell ?_ (by first | (simp; done) | (simp; omega) | omega | (have hq := hB.size; (try simp at hq ⊢); omega)) _) | (refine Below.alloc ?_ (by first | (simp; done) | (simp; omega) | omega | (have hq := hB.size; (try simp at hq ⊢); omega)) _) | (refine below_step ?_ (by assumption))))⟩
theorem spec_Times (a b c d : Int) (w : World) : Calls Try.prog 36 #[.agg #[.int .i64 a, .int .i64 b], .agg #[.int .i64 c, .int .i64 d]] w fun e w' => e = .returned (timV a b c d) ∧ Below w.heap.size w w' := by
  have hO1 := fun w => spec_FracOk a b w
  have hO2 := fun w => spec_FracOk c d w
  by_cases h1 : frB a b = true
  · by_cases h2 : frB c d = true
    · rw [timV_yes h1 h2]
      obtain ⟨r1, r2, _⟩ := frB_iff.1 h1
      obtain ⟨r3, r4, _⟩ := frB_iff.1 h2
      have m1 := mul66 r1 r3
      have m3 := mul_pos6 r2 r4
      have hR := fun w => spec_Make (a * c) (b * d) w
      rw [mkV_yes (by omega) (inB_iff.2 (by omega)) (inB_iff.2 (by omega))] at hR
      obtain ⟨X, Y, O, hv⟩ := redV_form (a * c) (b * d)
      simp only [hv] at hR ⊢
      simp only [h1, h2] at hO1 hO2
      clear hv h1 h2
      obtain ⟨W, hW⟩ : ∃ W, W = (((w.alloc (.cells #[.int .i64 a, .int .i64 b] 32)).alloc (.cells #[.int .i64 c, .int .i64 d] 32)).alloc (.cells #[.int .i64 0, .int .i64 0] 32)) := ⟨_, rfl⟩
      have c0 : W.cell? ⟨w.heap.size, 0, none⟩ = some (.int .i64 a) := by rw [hW]; simp [go_sem]
      have c1 : W.cell? ⟨w.heap.size, 1, none⟩ = some (.int .i64 b) := by rw [hW]; simp [go_sem]
      have c2 : W.cell? ⟨w.heap.size + 1, 0, none⟩ = some (.int .i64 c) := by rw [hW]; simp [go_sem]
      have c3 : W.cell? ⟨w.heap.size + 1, 1, none⟩ = some (.int .i64 d) := by rw [hW]; simp [go_sem]
      have c4 : W.cell? ⟨w.heap.size + 2, 0, none⟩ = some (.int .i64 0) := by rw [hW]; simp [go_sem]
      have z4 : W.frozen? ⟨w.heap.size + 2, 0, none⟩ = false := by rw [hW]; simp [go_sem]
      have c5 : W.cell? ⟨w.heap.size + 2, 1, none⟩ = some (.int .i64 0) := by rw [hW]; simp [go_sem]
      have z5 : W.frozen? ⟨w.heap.size + 2, 1, none⟩ = false := by rw [hW]; simp [go_sem]
      have hB : Below w.heap.size w W := by rw [hW]; exact ((((Below.refl _ _).alloc (by simp <;> omega) _).alloc (by simp <;> omega) _).alloc (by simp <;> omega) _)
      subst hW
      go_enter Try.func36, Try.ntmps36
      ((go_wp2_with fail); (with_reducible refine (hO1 _).mono ?_); rintro _ w1 ⟨rfl, hb⟩; replace z4 := below_frozen hb (lt_of_cell c4) z4; replace z5 := below_frozen hb (lt_of_cell c5) z5; replace c0 := below_cell hb c0; replace c1 := below_cell hb c1; replace c2 := below_cell hb c2; replace c3 := below_cell hb c3; replace c4 := below_cell hb c4; replace c5 := below_cell hb c5; replace hB := below_step hB hb; clear hb)
      ((go_wp2_with fail); (with_reducible refine (hO2 _).mono ?_); rintro _ w1 ⟨rfl, hb⟩; replace z4 := below_frozen hb (lt_of_cell c4) z4; replace z5 := below_frozen hb (lt_of_cell c5) z5; replace c0 := below_cell hb c0; replace c1 := below_cell hb c1; replace c2 := below_cell hb c2; replace c3 := below_cell hb c3; replace c4 := below_cell hb c4; replace c5 := below_cell hb c5; replace hB := below_step hB hb; clear hb)
      ((go_wp2_with fail); (with_reducible refine (hR _).mono ?_); rintro _ w1 ⟨rfl, hb⟩; replace z4 := below_frozen hb (lt_of_cell c4) z4; replace z5 := below_frozen hb (lt_of_cell c5) z5; replace c0 := below_cell hb c0; replace c1 := below_cell hb c1; replace c2 := below_cell hb c2; replace c3 := below_cell hb c3; replace c4 := below_cell hb c4; replace c5 := below_cell hb c5; replace hB := below_step hB hb; clear hb)
      go_wp2_with fail
      refine bodyPost_ret (by first | (simp [results, Try.results36, go_sem, *]; done) | (simp [results, Try.results36, go_sem, *]; rfl)) rfl ⟨rfl, by (repeat (first | exact Below.refl _ _ | assumption | (refine Below.drew ?_) | (refine below_alloc ?_ _) | (refine Below.setCell ?_ (by first | (simp; done) | (simp; omega) | omega | (have hq := hB.size; (try simp at hq ⊢); omega)) _) | (refine Below.alloc ?_ (by first | (simp; done) | (simp; omega) | omega | (have hq := hB.size; (try simp at hq ⊢); omega)) _) | (refine below_step ?_ (by assumption))))⟩
    · rw [timV_no (fun h => h2 h.2)]
      have h2' : frB c d = false := by simpa using h2
      simp only [h1, h2'] at hO1 hO2
      clear h1 h2 h2'
      obtain ⟨W, hW⟩ : ∃ W, W = (((w.alloc (.cells #[.int .i64 a, .int .i64 b] 32)).alloc (.cells #[.int .i64 c, .int .i64 d] 32)).alloc (.cells #[.int .i64 0, .int .i64 0] 32)) := ⟨_, rfl⟩
      have c0 : W.cell? ⟨w.heap.size, 0, none⟩ = some (.int .i64 a) := by rw [hW]; simp [go_sem]
      have c1 : W.cell? ⟨w.heap.size, 1, none⟩ = some (.int .i64 b) := by rw [hW]; simp [go_sem]
      have c2 : W.cell? ⟨w.heap.size + 1, 0, none⟩ = some (.int .i64 c) := by rw [hW]; simp [go_sem]
      have c3 : W.cell? ⟨w.heap.size + 1, 1, none⟩ = some (.int .i64 d) := by rw [hW]; simp [go_sem]
      have c4 : W.cell? ⟨w.heap.size + 2, 0, none⟩ = some (.int .i64 0) := by rw [hW]; simp [go_sem]
      have z4 : W.frozen? ⟨w.heap.size + 2, 0, none⟩ = false := by rw [hW]; simp [go_sem]
      have c5 : W.cell? ⟨w.heap.size + 2, 1, none⟩ = some (.int .i64 0) := by rw [hW]; simp [go_sem]
      have z5 : W.frozen? ⟨w.heap.size + 2, 1, none⟩ = false := by rw [hW]; simp [go_sem]
      have hB : Below w.heap.size w W := by rw [hW]; exact ((((Below.refl _ _).alloc (by simp <;> omega) _).alloc (by simp <;> omega) _).alloc (by simp <;> omega) _)
      subst hW
      go_enter Try.func36, Try.ntmps36
      ((go_wp2_with fail); (with_reducible refine (hO1 _).mono ?_); rintro _ w1 ⟨rfl, hb⟩; replace z4 := below_frozen hb (lt_of_cell c4) z4; replace z5 := below_frozen hb (lt_of_cell c5) z5; replace c0 := below_cell hb c0; replace c1 := below_cell hb c1; replace c2 := below_cell hb c2; replace c3 := below_cell hb c3; replace c4 := below_cell hb c4; replace c5 := below_cell hb c5; replace hB := below_step hB hb; clear hb)
      ((go_wp2_with fail); (with_reducible refine (hO2 _).mono ?_); rintro _ w1 ⟨rfl, hb⟩; replace z4 := below_frozen hb (lt_of_cell c4) z4; replace z5 := below_frozen hb (lt_of_cell c5) z5; replace c0 := below_cell hb c0; replace c1 := below_cell hb c1; replace c2 := below_cell hb c2; replace c3 := below_cell hb c3; replace c4 := below_cell hb c4; replace c5 := below_cell hb c5; replace hB := below_step hB hb; clear hb)
      go_wp2_with fail
      refine bodyPost_ret (by first | (simp [results, Try.results36, go_sem, *]; done) | (simp [results, Try.results36, go_sem, *]; rfl)) rfl ⟨rfl, by (repeat (first | exact Below.refl _ _ | assumption | (refine Below.drew ?_) | (refine below_alloc ?_ _) | (refine Below.setCell ?_ (by first | (simp; done) | (simp; omega) | omega | (have hq := hB.size; (try simp at hq ⊢); omega)) _) | (refine Below.alloc ?_ (by first | (simp; done) | (simp; omega) | omega | (have hq := hB.size; (try simp at hq ⊢); omega)) _) | (refine below_step ?_ (by assumption))))⟩
  · rw [timV_no (fun h => h1 h.1)]
    have h1' : frB a b = false := by simpa using h1
    simp only [h1'] at hO1
    clear h1 h1'
    obtain ⟨W, hW⟩ : ∃ W, W = (((w.alloc (.cells #[.int .i64 a, .int .i64 b] 32)).alloc (.cells #[.int .i64 c, .int .i64 d] 32)).alloc (.cells #[.int .i64 0, .int .i64 0] 32)) := ⟨_, rfl⟩
    have c0 : W.cell? ⟨w.heap.size, 0, none⟩ = some (.int .i64 a) := by rw [hW]; simp [go_sem]
    have c1 : W.cell? ⟨w.heap.size, 1, none⟩ = some (.int .i64 b) := by rw [hW]; simp [go_sem]
    have c2 : W.cell? ⟨w.heap.size + 1, 0, none⟩ = some (.int .i64 c) := by rw [hW]; simp [go_sem]
    have c3 : W.cell? ⟨w.heap.size + 1, 1, none⟩ = some (.int .i64 d) := by rw [hW]; simp [go_sem]
    have c4 : W.cell? ⟨w.heap.size + 2, 0, none⟩ = some (.int .i64 0) := by rw [hW]; simp [go_sem]
    have z4 : W.frozen? ⟨w.heap.size + 2, 0, none⟩ = false := by rw [hW]; simp [go_sem]
    have c5 : W.cell? ⟨w.heap.size + 2, 1, none⟩ = some (.int .i64 0) := by rw [hW]; simp [go_sem]
    have z5 : W.frozen? ⟨w.heap.size + 2, 1, none⟩ = false := by rw [hW]; simp [go_sem]
    have hB : Below w.heap.size w W := by rw [hW]; exact ((((Below.refl _ _).alloc (by simp <;> omega) _).alloc (by simp <;> omega) _).alloc (by simp <;> omega) _)
    subst hW
    go_enter Try.func36, Try.ntmps36
    ((go_wp2_with fail); (with_reducible refine (hO1 _).mono ?_); rintro _ w1 ⟨rfl, hb⟩; replace z4 := below_frozen hb (lt_of_cell c4) z4; replace z5 := below_frozen hb (lt_of_cell c5) z5; replace c0 := below_cell hb c0; replace c1 := below_cell hb c1; replace c2 := below_cell hb c2; replace c3 := below_cell hb c3; replace c4 := below_cell hb c4; replace c5 := below_cell hb c5; replace hB := below_step hB hb; clear hb)
    go_wp2_with fail
    refine bodyPost_ret (by first | (simp [results, Try.results36, go_sem, *]; done) | (simp [results, Try.results36, go_sem, *]; rfl)) rfl ⟨rfl, by (repeat (first | exact Below.refl _ _ | assumption | (refine Below.drew ?_) | (refine below_alloc ?_ _) | (refine Below.setCell ?_ (by first | (simp; done) | (simp; omega) | omega | (have hq := hB.size; (try simp at hq ⊢); omega)) _) | (refine Below.alloc ?_ (by first | (simp; done) | (simp; omega) | omega | (have hq := hB.size; (try simp at hq ⊢); omega)) _) | (refine below_step ?_ (by assumption))))⟩
theorem gN_scale {g : Nat} {t b : Int} : gN ((g : Int) * t) (g * b) = g * gN t b := by
  unfold gN
  rw [Int.natAbs_mul, Int.natAbs_mul, Int.natAbs_natCast, Nat.gcd_mul_left]
theorem rT_scale {g : Nat} (hg : 0 < g) {t b : Int} : rT ((g : Int) * t) (g * b) = rT t b := by
  unfold rT
  rw [gN_scale]
  have e : ((g : Int) * t).tdiv ((g * gN t b : Nat) : Int) = t.tdiv (gN t b) := by
    rw [Int.natCast_mul, Int.mul_tdiv_mul_of_pos _ _ (by omega)]
  rw [e]
  have : ((g : Int) * b < 0) ↔ b < 0 := by
    constructor
    · intro h
      rcases Int.lt_or_le b 0 with h1 | h1
      · exact h1
      · have := Int.mul_nonneg (show (0 : Int) ≤ g by omega) h1; omega
    · intro h
      exact Int.mul_neg_of_pos_of_neg (by omega) h
  by_cases hb : b < 0
  · rw [if_pos hb, if_pos (this.2 hb)]
  · rw [if_neg hb, if_neg (fun h => hb (this.1 h))]
theorem rB_scale {g : Nat} (hg : 0 < g) {t b : Int} : rB ((g : Int) * t) (g * b) = rB t b := by
  unfold rB
  rw [gN_scale, Int.natAbs_mul, Int.natAbs_natCast, Nat.mul_div_mul_left _ _ hg]
theorem redV_scale {g : Nat} (hg : 0 < g) {t b : Int} : redV ((g : Int) * t) (g * b) = redV t b := by
  unfold redV redO
  rw [rT_scale hg, rB_scale hg]
end Go.Proofs.Ytfgkglbhbdfpfaa
