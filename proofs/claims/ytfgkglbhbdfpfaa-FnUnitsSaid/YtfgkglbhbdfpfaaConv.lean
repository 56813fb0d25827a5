/- The contracts of ConvertTo; the laws' walks of FactorOf and ConvertTo. -/
import Derived.Test.YtfgkglbhbdfpfaaFactS
namespace Go.Proofs.Ytfgkglbhbdfpfaa
open Go.RowKit
set_option linter.unusedSimpArgs false
set_option linter.unusedVariables false
set_option maxHeartbeats 4000000
theorem optV_form (o : Option (Int × Int)) : ∃ (X Y : Int) (O : Bool), optV o = .tuple #[.agg #[.int .i64 X, .int .i64 Y], .bool O] ∧ (O = false → X = 0 ∧ Y = 0) := by
  cases o with
  | none => exact ⟨0, 0, false, rfl, fun _ => ⟨rfl, rfl⟩⟩
  | some p => obtain ⟨T, B⟩ := p; exact ⟨T, B, true, rfl, fun h => by cases h⟩
theorem facV_form (n : Nat) (v : Nat → Int) (a b : Int) : ∃ (X Y : Int) (O : Bool), facV n v a b = .tuple #[.agg #[.int .i64 X, .int .i64 Y], .bool O] ∧ (O = false → X = 0 ∧ Y = 0) := by
  unfold facV; split <;> exact optV_form _
theorem facV_no {n : Nat} {v : Nat → Int} {a b : Int} (h : ¬ (ratB n v = true ∧ inB a 0 9 = true ∧ inB b 0 9 = true)) : facV n v a b = optV none := by
  unfold facV; rw [uniB_no h]; rfl
theorem impl_FactorA (A : Option Addr) (n c : Nat) (v : Nat → Int) (a b : Int) (w : World) (hm : n ≤ 1048576) (f0 : Fl w A n 4 v) : Calls Try.prog 17 #[.slice A n c, .int .i64 a, .int .i64 b] w fun e w' => e = .returned (facV n v a b) ∧ Below w.heap.size w w' := by
  by_cases h : ratB n v = true ∧ inB a 0 9 = true ∧ inB b 0 9 = true
  · exact impl_Factor A n c v a b w hm f0 h.1 h.2.1 h.2.2
  · rw [facV_no h]; exact impl_Factor_no A n c v a b w hm f0 h
theorem spec_FactorA (A : Option Addr) (n c : Nat) (v : Nat → Int) (a b : Int) (w : World) (hm : n ≤ 1048576) (f0 : Fl w A n 4 v) : Calls Try.prog 16 #[.slice A n c, .int .i64 a, .int .i64 b] w fun e w' => e = .returned (facV n v a b) ∧ Below w.heap.size w w' := by
  by_cases h : ratB n v = true ∧ inB a 0 9 = true ∧ inB b 0 9 = true
  · exact spec_Factor A n c v a b w hm f0 h.1 h.2.1 h.2.2
  · rw [facV_no h]; exact spec_Factor_no A n c v a b w hm f0 h
set_option maxRecDepth 100000 in
theorem walkFactorOf (A : Option Addr) (n c : Nat) (v : Nat → Int) (a b : Int) (w : World) (hm : n ≤ maxLen) (f0 : Fl w A n 4 v) : Calls Try.prog 5 #[.slice A n c, .int .i64 a, .int .i64 b] w fun e w' => e = .returned (.bool true) ∧ Below w.heap.size w w' := by
  have hB := Below.refl w.heap.size w
  by_cases hn : n ≤ 1048576
  · have hs : ∀ w, _ := fun w => szRatioS_any A n c hm w
    simp only [szB_yes hn] at hs
    have hI := fun A c w f => impl_FactorA A n c v a b w hn f
    have hS := fun A c w f => spec_FactorA A n c v a b w hn f
    obtain ⟨X, Y, O, hv, _⟩ := facV_form n v a b
    rw [hv] at hI hS
    clear hv
    have ob : (O != O) = false := by simp
    go_enter Try.func5, Try.ntmps5
    ((go_wp2_with fail); (with_reducible refine (hs _).mono ?_); rintro _ _ ⟨rfl, rfl⟩)
    ((go_wp2_with fail); (with_reducible refine (toRatioS_any A n c v _ hn f0).mono ?_); rintro _ w1 ⟨g1, rfl, hg1, o1, hb⟩; replace f0 := Fl.below f0 hb; replace hB := below_step hB hb; clear hb)
    ((go_wp2_with fail); (with_reducible refine (hS _ n _ (o1.fl (Nat.le_refl _))).mono ?_); rintro _ w1 ⟨rfl, hb⟩; replace f0 := Fl.below f0 hb; replace hB := below_step hB hb; clear hb)
    go_wp2_with fail
    have hb := below_alloc (Below.refl w1.heap.size w1) (.cells #[.int .i64 X, .int .i64 Y] 32)
    have c8 : (w1.alloc (.cells #[.int .i64 X, .int .i64 Y] 32)).cell? ⟨w1.heap.size, 0, none⟩ = some (.int .i64 X) := by simp [go_sem]
    have c9 : (w1.alloc (.cells #[.int .i64 X, .int .i64 Y] 32)).cell? ⟨w1.heap.size, 1, none⟩ = some (.int .i64 Y) := by simp [go_sem]
    clear o1
    (skip; replace f0 := Fl.below f0 hb; replace hB := below_step hB hb; clear hb)
    ((go_wp2_with fail); (with_reducible refine (toRatioS_any A n c v _ hn f0).mono ?_); rintro _ w1 ⟨g1, rfl, hg1, o1, hb⟩; replace f0 := Fl.below f0 hb; replace c8 := below_cell hb c8; replace c9 := below_cell hb c9; replace hB := below_step hB hb; clear hb)
    ((go_wp2_with fail); (with_reducible refine (hI _ n _ (o1.fl (Nat.le_refl _))).mono ?_); rintro _ w1 ⟨rfl, hb⟩; replace f0 := Fl.below f0 hb; replace c8 := below_cell hb c8; replace c9 := below_cell hb c9; replace o1 := Own.below o1 hb; replace hB := below_step hB hb; clear hb)
    have l8 := lt_of_cell c8
    simp only at l8
    have hb := below_alloc (Below.refl w1.heap.size w1) (.cells #[.int .i64 X, .int .i64 Y] 32)
    (skip; replace f0 := Fl.below f0 hb; replace o1 := Own.below o1 hb; replace hB := below_step hB hb; clear hb)
    ((go_wp2_with fail); (with_reducible refine (eqFraction_true _ _ _).mono ?_); rintro _ w1 ⟨rfl, hb⟩; replace f0 := Fl.below f0 hb; replace o1 := Own.below o1 hb; replace hB := below_step hB hb; clear hb)
    ((go_wp2_with fail); (with_reducible refine (toRatioS_any A n c v _ hn f0).mono ?_); rintro _ w1 ⟨g2, rfl, hg2, o2, hb⟩; replace f0 := Fl.below f0 hb; replace o1 := Own.below o1 hb; replace hB := below_step hB hb; clear hb)
    ((go_wp2_with fail); (with_reducible refine (eqRatioS_true _ _ n n n v _ hn (o1.fl (Nat.le_refl _)) (o2.fl (Nat.le_refl _))).mono ?_); rintro _ w1 ⟨rfl, hb⟩; replace hB := below_step hB hb; clear hb)
    go_wp2_with fail
    go_ret
    exact ⟨rfl, hB⟩
  · have hs : ∀ w, _ := fun w => szRatioS_any A n c hm w
    simp only [szB_no hn] at hs
    go_enter Try.func5, Try.ntmps5
    ((go_wp2_with fail); (with_reducible refine (hs _).mono ?_); rintro _ _ ⟨rfl, rfl⟩)
    go_wp2_with fail
    go_ret
    exact ⟨rfl, hB⟩
theorem impl_Convert (A : Option Addr) (n c : Nat) (v : Nat → Int) (p q a b : Int) (w : World) (hm : n ≤ 1048576) (f0 : Fl w A n 4 v) (X Y : Int) (O : Bool) (hv : facV n v a b = .tuple #[.agg #[.int .i64 X, .int .i64 Y], .bool O]) :
    Calls Try.prog 21 #[.slice A n c, .agg #[.int .i64 p, .int .i64 q], .int .i64 a, .int .i64 b] w fun e w' => e = .returned (if O = true then timV p q X Y else frZ) ∧ Below w.heap.size w w' := by
  have hI := fun w f => impl_FactorA A n c v a b w hm f
  rw [hv] at hI
  clear hv
  have hT := fun w => impl_Times p q X Y w
  simp only [timV_eq] at hT ⊢
  obtain ⟨W, hW⟩ : ∃ W, W = ((w.alloc (.cells #[.int .i64 p, .int .i64 q] 32)).alloc (.cells #[.int .i64 0, .int .i64 0] 32)) := ⟨_, rfl⟩
  have c0 : W.cell? ⟨w.heap.size, 0, none⟩ = some (.int .i64 p) := by rw [hW]; simp [go_sem]
  have c1 : W.cell? ⟨w.heap.size, 1, none⟩ = some (.int .i64 q) := by rw [hW]; simp [go_sem]
  have c2 : W.cell? ⟨w.heap.size + 1, 0, none⟩ = some (.int .i64 0) := by rw [hW]; simp [go_sem]
  have z2 : W.frozen? ⟨w.heap.size + 1, 0, none⟩ = false := by rw [hW]; simp [go_sem]
  have c3 : W.cell? ⟨w.heap.size + 1, 1, none⟩ = some (.int .i64 0) := by rw [hW]; simp [go_sem]
  have z3 : W.frozen? ⟨w.heap.size + 1, 1, none⟩ = false := by rw [hW]; simp [go_sem]
  have hB : Below w.heap.size w W := by rw [hW]; exact (((Below.refl _ _).alloc (by simp <;> omega) _).alloc (by simp <;> omega) _)
  subst hW
  replace f0 := f0.below hB
  cases O
  · go_enter Try.func21, Try.ntmps21
    ((go_wp2_with fail); (with_reducible refine (hI _ f0).mono ?_); rintro _ w1 ⟨rfl, hb⟩; replace z2 := below_frozen hb (lt_of_cell c2) z2; replace z3 := below_frozen hb (lt_of_cell c3) z3; replace c0 := below_cell hb c0; replace c1 := below_cell hb c1; replace c2 := below_cell hb c2; replace c3 := below_cell hb c3; replace hB := below_step hB hb; clear hb)
    have l2 : w.heap.size + 1 < w1.heap.size := lt_of_cell c2
    go_wp2_with fail
    refine bodyPost_ret (by first | (simp [results, Try.results21, go_sem, *]; done) | (simp [results, Try.results21, go_sem, *]; rfl)) rfl ⟨rfl, by (repeat (first | exact Below.refl _ _ | assumption | (refine Below.drew ?_) | (refine below_alloc ?_ _) | (refine Below.setCell ?_ (by first | (simp; done) | (simp; omega) | omega | (have hq := hB.size; (try simp at hq ⊢); omega)) _) | (refine Below.alloc ?_ (by first | (simp; done) | (simp; omega) | omega | (have hq := hB.size; (try simp at hq ⊢); omega)) _) | (refine below_step ?_ (by assumption))))⟩
  · rw [if_pos rfl]
    revert hT
    generalize tT p q X Y = X2
    generalize tB p q X Y = Y2
    generalize tO p q X Y = O2
    intro hT
    go_enter Try.func21, Try.ntmps21
    ((go_wp2_with fail); (with_reducible refine (hI _ f0).mono ?_); rintro _ w1 ⟨rfl, hb⟩; replace z2 := below_frozen hb (lt_of_cell c2) z2; replace z3 := below_frozen hb (lt_of_cell c3) z3; replace c0 := below_cell hb c0; replace c1 := below_cell hb c1; replace c2 := below_cell hb c2; replace c3 := below_cell hb c3; replace hB := below_step hB hb; clear hb)
    have l0 : w.heap.size < w1.heap.size := lt_of_cell c0
    have l2 : w.heap.size + 1 < w1.heap.size := lt_of_cell c2
    have hb := below_alloc (Below.refl w1.heap.size w1) (.cells #[.int .i64 X, .int .i64 Y] 32)
    (skip; replace z2 := below_frozen hb (lt_of_cell c2) z2; replace z3 := below_frozen hb (lt_of_cell c3) z3; replace c0 := below_cell hb c0; replace c1 := below_cell hb c1; replace c2 := below_cell hb c2; replace c3 := below_cell hb c3; replace hB := below_step hB hb; clear hb)
    ((go_wp2_with fail); (with_reducible refine (hT _).mono ?_); rintro _ w1 ⟨rfl, hb⟩; replace z2 := below_frozen hb (lt_of_cell c2) z2; replace z3 := below_frozen hb (lt_of_cell c3) z3; replace c0 := below_cell hb c0; replace c1 := below_cell hb c1; replace c2 := below_cell hb c2; replace c3 := below_cell hb c3; replace hB := below_step hB hb; clear hb)
    have l3 : w.heap.size + 1 < w1.heap.size := lt_of_cell c2
    go_wp2_with fail
    refine bodyPost_ret (by first | (simp [results, Try.results21, go_sem, *]; done) | (simp [results, Try.results21, go_sem, *]; rfl)) rfl ⟨rfl, by (repeat (first | exact Below.refl _ _ | assumption | (refine Below.drew ?_) | (refine below_alloc ?_ _) | (refine Below.setCell ?_ (by first | (simp; done) | (simp; omega) | omega | (have hq := hB.size; (try simp at hq ⊢); omega)) _) | (refine Below.alloc ?_ (by first | (simp; done) | (simp; omega) | omega | (have hq := hB.size; (try simp at hq ⊢); omega)) _) | (refine below_step ?_ (by assumption))))⟩
theorem spec_Convert (A : Option Addr) (n c : Nat) (v : Nat → Int) (p q a b : Int) (w : World) (hm : n ≤ 1048576) (f0 : Fl w A n 4 v) (X Y : Int) (O : Bool) (hv : facV n v a b = .tuple #[.agg #[.int .i64 X, .int .i64 Y], .bool O]) :
    Calls Try.prog 19 #[.slice A n c, .agg #[.int .i64 p, .int .i64 q], .int .i64 a, .int .i64 b] w fun e w' => e = .returned (if O = true then timV p q X Y else frZ) ∧ Below w.heap.size w w' := by
  have hI := fun w f => spec_FactorA A n c v a b w hm f
  rw [hv] at hI
  clear hv
  have hT := fun w => spec_Times p q X Y w
  simp only [timV_eq] at hT ⊢
  obtain ⟨W, hW⟩ : ∃ W, W = ((w.alloc (.cells #[.int .i64 p, .int .i64 q] 32)).alloc (.cells #[.int .i64 0, .int .i64 0] 32)) := ⟨_, rfl⟩
  have c0 : W.cell? ⟨w.heap.size, 0, none⟩ = some (.int .i64 p) := by rw [hW]; simp [go_sem]
  have c1 : W.cell? ⟨w.heap.size, 1, none⟩ = some (.int .i64 q) := by rw [hW]; simp [go_sem]
  have c2 : W.cell? ⟨w.heap.size + 1, 0, none⟩ = some (.int .i64 0) := by rw [hW]; simp [go_sem]
  have z2 : W.frozen? ⟨w.heap.size + 1, 0, none⟩ = false := by rw [hW]; simp [go_sem]
  have c3 : W.cell? ⟨w.heap.size + 1, 1, none⟩ = some (.int .i64 0) := by rw [hW]; simp [go_sem]
  have z3 : W.frozen? ⟨w.heap.size + 1, 1, none⟩ = false := by rw [hW]; simp [go_sem]
  have hB : Below w.heap.size w W := by rw [hW]; exact (((Below.refl _ _).alloc (by simp <;> omega) _).alloc (by simp <;> omega) _)
  subst hW
  replace f0 := f0.below hB
  cases O
  · go_enter Try.func19, Try.ntmps19
    ((go_wp2_with fail); (with_reducible refine (hI _ f0).mono ?_); rintro _ w1 ⟨rfl, hb⟩; replace z2 := below_frozen hb (lt_of_cell c2) z2; replace z3 := below_frozen hb (lt_of_cell c3) z3; replace c0 := below_cell hb c0; replace c1 := below_cell hb c1; replace c2 := below_cell hb c2; replace c3 := below_cell hb c3; replace hB := below_step hB hb; clear hb)
    have l2 : w.heap.size + 1 < w1.heap.size := lt_of_cell c2
    go_wp2_with fail
    refine bodyPost_ret (by first | (simp [results, Try.results19, go_sem, *]; done) | (simp [results, Try.results19, go_sem, *]; rfl)) rfl ⟨rfl, by (repeat (first | exact Below.refl _ _ | assumption | (refine Below.drew ?_) | (refine below_alloc ?_ _) | (refine Below.setCell ?_ (by first | (simp; done) | (simp; omega) | omega | (have hq := hB.size; (try simp at hq ⊢); omega)) _) | (refine Below.alloc ?_ (by first | (simp; done) | (simp; omega) | omega | (have hq := hB.size; (try simp at hq ⊢); omega)) _) | (refine below_step ?_ (by assumption))))⟩
  · rw [if_pos rfl]
    revert hT
    generalize tT p q X Y = X2
    generalize tB p q X Y = Y2
    generalize tO p q X Y = O2
    intro hT
    go_enter Try.func19, Try.ntmps19
    ((go_wp2_with fail); (with_reducible refine (hI _ f0).mono ?_); rintro _ w1 ⟨rfl, hb⟩; replace z2 := below_frozen hb (lt_of_cell c2) z2; replace z3 := below_frozen hb (lt_of_cell c3) z3; replace c0 := below_cell hb c0; replace c1 := below_cell hb c1; replace c2 := below_cell hb c2; replace c3 := below_cell hb c3; replace hB := below_step hB hb; clear hb)
    have l0 : w.heap.size < w1.heap.size := lt_of_cell c0
    have l2 : w.heap.size + 1 < w1.heap.size := lt_of_cell c2
    have hb := below_alloc (Below.refl w1.heap.size w1) (.cells #[.int .i64 X, .int .i64 Y] 32)
    (skip; replace z2 := below_frozen hb (lt_of_cell c2) z2; replace z3 := below_frozen hb (lt_of_cell c3) z3; replace c0 := below_cell hb c0; replace c1 := below_cell hb c1; replace c2 := below_cell hb c2; replace c3 := below_cell hb c3; replace hB := below_step hB hb; clear hb)
    ((go_wp2_with fail); (with_reducible refine (hT _).mono ?_); rintro _ w1 ⟨rfl, hb⟩; replace z2 := below_frozen hb (lt_of_cell c2) z2; replace z3 := below_frozen hb (lt_of_cell c3) z3; replace c0 := below_cell hb c0; replace c1 := below_cell hb c1; replace c2 := below_cell hb c2; replace c3 := below_cell hb c3; replace hB := below_step hB hb; clear hb)
    have l3 : w.heap.size + 1 < w1.heap.size := lt_of_cell c2
    go_wp2_with fail
    refine bodyPost_ret (by first | (simp [results, Try.results19, go_sem, *]; done) | (simp [results, Try.results19, go_sem, *]; rfl)) rfl ⟨rfl, by (repeat (first | exact Below.refl _ _ | assumption | (refine Below.drew ?_) | (refine below_alloc ?_ _) | (refine Below.setCell ?_ (by first | (simp; done) | (simp; omega) | omega | (have hq := hB.size; (try simp at hq ⊢); omega)) _) | (refine Below.alloc ?_ (by first | (simp; done) | (simp; omega) | omega | (have hq := hB.size; (try simp at hq ⊢); omega)) _) | (refine below_step ?_ (by assumption))))⟩
end Go.Proofs.Ytfgkglbhbdfpfaa
