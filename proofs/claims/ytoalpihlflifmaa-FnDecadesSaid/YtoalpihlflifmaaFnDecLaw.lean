/- The walk of the law FnDecades: it returns true. No conditions. -/
import Derived.Test.YtoalpihlflifmaaFnDec
namespace Go.Proofs.Ytoalpihlflifmaa
open Go.RowKit
set_option linter.unusedSimpArgs false
set_option linter.unusedVariables false
set_option maxHeartbeats 8000000
theorem zz_shift {w : World} {g : Nat} {P Q X4 Y4 X5 Y5 X7 Y7 : Int} (h : Own w g 25 (4 * 2) (zz P Q X4 Y4 X5 Y5 X7 Y7)) : Fl w (some ⟨g, 2, none⟩) 3 2 (fun j => zz P Q X4 Y4 X5 Y5 X7 Y7 (j + 2)) :=
  fun _ => ⟨g, 2, rfl, fun j hj => by rw [Nat.add_comm]; exact h.cell (by omega)⟩
set_option maxRecDepth 100000 in
theorem walkFnDecades (A : Option Addr) (n k : Nat) (v : Nat → Int) (w : World) (hm : n ≤ maxLen) (hF : Fb w A n v) : Calls Try.prog 8 #[.slice A n k] w fun e w' => e = .returned (.bool true) ∧ Below w.heap.size w w' := by
  have hB := Below.refl w.heap.size w
  have hs : ∀ w, _ := fun w => laws_big A n k w hm
  by_cases hn : n ≤ 1048576
  · rw [show decide (1048576 < n) = false by simp; omega] at hs
    have HF := Lib.hid hF; clear hF
    go_enter Try.func8, Try.ntmps8
    ((go_wp2_with fail); (with_reducible refine (hs _).mono ?_); rintro _ _ ⟨rfl, rfl⟩)
    clear hs
    go_wp2_with fail
    with_reducible refine (spec_DrawDecade A n k v _ hn HF.out).mono ?_
    rintro _ w1 ⟨a, b, A1, c, l, rfl, ⟨⟨t, u, ht, hu, hr⟩, f0, hok⟩, hb⟩
    replace hB := below_step hB hb
    clear hb
    obtain ⟨v', hv'⟩ : ∃ v' : Nat → Int, v' = fun j => l.getD j 0 := ⟨_, rfl⟩
    rw [← hv'] at f0
    obtain ⟨zh, P, Q, X4, Y4, X5, Y5, X7, Y7, s1, s2, r1, r2, v1, v2, x1, x2, y1, y2, hC⟩ := dec_pack hv' ht hu hr hok
    obtain ⟨kDec, kHd, kSh, kSw, kSr, k1, k2, k3, k4, k5, kHv, k6⟩ := hC
    clear hok hr ht hu hv'
    have hb := below_alloc (Below.refl w1.heap.size w1) (.cells #[.int .i64 a, .int .i64 b] 25)
    have c0 : (w1.alloc (.cells #[.int .i64 a, .int .i64 b] 25)).cell? ⟨w1.heap.size, 0, none⟩ = some (.int .i64 a) := by simp [go_sem]
    have c1 : (w1.alloc (.cells #[.int .i64 a, .int .i64 b] 25)).cell? ⟨w1.heap.size, 1, none⟩ = some (.int .i64 b) := by simp [go_sem]
    (skip; replace f0 := Fl.below f0 hb; replace hB := below_step hB hb; clear hb)
    (go_wp2_with fail)
    with_reducible refine (kDec _ _ _ f0).mono ?_
    rintro _ w1 ⟨g4, rfl, hg4, o4, hb⟩
    replace f0 := f0.below hb; replace c0 := below_cell hb c0; replace c1 := below_cell hb c1; replace hB := below_step hB hb
    clear hb kDec
    (go_wp2_with fail)
    with_reducible refine (kHd _ _ _ f0).mono ?_
    rintro _ w1 ⟨g5, c5', rfl, hg5, o5, hb⟩
    replace f0 := f0.below hb; replace o4 := o4.below hb; replace c0 := below_cell hb c0; replace c1 := below_cell hb c1; replace hB := below_step hB hb
    clear hb kHd
    obtain ⟨blk, off, rfl, hcs⟩ := f0 (by omega)
    have c2 : w1.cell? ⟨blk, off, none⟩ = some (.int .i64 (v' 0)) := hcs 0 (by omega)
    have c3 : w1.cell? ⟨blk, off + 1, none⟩ = some (.int .i64 (v' 1)) := hcs 1 (by omega)
    have c4 : w1.cell? ⟨blk, off + 2, none⟩ = some (.int .i64 (v' 2)) := hcs 2 (by omega)
    have c5 : w1.cell? ⟨blk, off + 3, none⟩ = some (.int .i64 (v' 3)) := hcs 3 (by omega)
    have c6 : w1.cell? ⟨blk, off + 4, none⟩ = some (.int .i64 (v' 4)) := hcs 4 (by omega)
    have c7 : w1.cell? ⟨blk, off + 5, none⟩ = some (.int .i64 (v' 5)) := hcs 5 (by omega)
    have c8 : w1.cell? ⟨blk, off + 6, none⟩ = some (.int .i64 (v' 6)) := hcs 6 (by omega)
    have c9 : w1.cell? ⟨blk, off + 7, none⟩ = some (.int .i64 (v' 7)) := hcs 7 (by omega)
    clear hcs f0
    have cw0 : w1.cell? ⟨g4, 0, none⟩ = some (.int .i64 P) := o4.cell (j := 0) (by omega)
    have cw1 : w1.cell? ⟨g4, 1, none⟩ = some (.int .i64 Q) := o4.cell (j := 1) (by omega)
    have cw2 : w1.cell? ⟨g4, 2, none⟩ = some (.int .i64 X4) := o4.cell (j := 2) (by omega)
    have cw3 : w1.cell? ⟨g4, 3, none⟩ = some (.int .i64 Y4) := o4.cell (j := 3) (by omega)
    have cw4 : w1.cell? ⟨g4, 4, none⟩ = some (.int .i64 X5) := o4.cell (j := 4) (by omega)
    have cw5 : w1.cell? ⟨g4, 5, none⟩ = some (.int .i64 Y5) := o4.cell (j := 5) (by omega)
    have cw6 : w1.cell? ⟨g4, 6, none⟩ = some (.int .i64 X7) := o4.cell (j := 6) (by omega)
    have cw7 : w1.cell? ⟨g4, 7, none⟩ = some (.int .i64 Y7) := o4.cell (j := 7) (by omega)
    ((go_wp2_with fail); (with_reducible refine (kSh _ _ _ (o5.fl (Nat.le_refl _))).mono ?_); rintro _ w1 ⟨rfl, hb⟩; replace c0 := below_cell hb c0; replace c1 := below_cell hb c1; replace c2 := below_cell hb c2; replace c3 := below_cell hb c3; replace c4 := below_cell hb c4; replace c5 := below_cell hb c5; replace c6 := below_cell hb c6; replace c7 := below_cell hb c7; replace c8 := below_cell hb c8; replace c9 := below_cell hb c9; replace cw0 := below_cell hb cw0; replace cw1 := below_cell hb cw1; replace cw2 := below_cell hb cw2; replace cw3 := below_cell hb cw3; replace cw4 := below_cell hb cw4; replace cw5 := below_cell hb cw5; replace cw6 := below_cell hb cw6; replace cw7 := below_cell hb cw7; replace o4 := Own.below o4 hb; replace hB := below_step hB hb; clear hb)
    clear o5 kSh
    have hb := below_alloc (Below.refl w1.heap.size w1) (.cells #[.int .i64 a, .int .i64 b] 25)
    have c10 : (w1.alloc (.cells #[.int .i64 a, .int .i64 b] 25)).cell? ⟨w1.heap.size, 0, none⟩ = some (.int .i64 a) := by simp [go_sem]
    have c11 : (w1.alloc (.cells #[.int .i64 a, .int .i64 b] 25)).cell? ⟨w1.heap.size, 1, none⟩ = some (.int .i64 b) := by simp [go_sem]
    (skip; replace c0 := below_cell hb c0; replace c1 := below_cell hb c1; replace c2 := below_cell hb c2; replace c3 := below_cell hb c3; replace c4 := below_cell hb c4; replace c5 := below_cell hb c5; replace c6 := below_cell hb c6; replace c7 := below_cell hb c7; replace c8 := below_cell hb c8; replace c9 := below_cell hb c9; replace cw0 := below_cell hb cw0; replace cw1 := below_cell hb cw1; replace cw2 := below_cell hb cw2; replace cw3 := below_cell hb cw3; replace cw4 := below_cell hb cw4; replace cw5 := below_cell hb cw5; replace cw6 := below_cell hb cw6; replace cw7 := below_cell hb cw7; replace o4 := Own.below o4 hb; replace hB := below_step hB hb; clear hb)
    ((go_wp2_with fail); (with_reducible refine (kSw _ _ _ (o4.fl (Nat.le_refl _))).mono ?_); rintro _ w1 ⟨rfl, hb⟩; replace c0 := below_cell hb c0; replace c1 := below_cell hb c1; replace c2 := below_cell hb c2; replace c3 := below_cell hb c3; replace c4 := below_cell hb c4; replace c5 := below_cell hb c5; replace c6 := below_cell hb c6; replace c7 := below_cell hb c7; replace c8 := below_cell hb c8; replace c9 := below_cell hb c9; replace cw0 := below_cell hb cw0; replace cw1 := below_cell hb cw1; replace cw2 := below_cell hb cw2; replace cw3 := below_cell hb cw3; replace cw4 := below_cell hb cw4; replace cw5 := below_cell hb cw5; replace cw6 := below_cell hb cw6; replace cw7 := below_cell hb cw7; replace o4 := Own.below o4 hb; replace c10 := below_cell hb c10; replace c11 := below_cell hb c11; replace hB := below_step hB hb; clear hb)
    clear kSw c10 c11
    have hb := below_alloc (Below.refl w1.heap.size w1) (.cells #[.int .i64 s1, .int .i64 s2] 25)
    have c12 : (w1.alloc (.cells #[.int .i64 s1, .int .i64 s2] 25)).cell? ⟨w1.heap.size, 0, none⟩ = some (.int .i64 s1) := by simp [go_sem]
    have c13 : (w1.alloc (.cells #[.int .i64 s1, .int .i64 s2] 25)).cell? ⟨w1.heap.size, 1, none⟩ = some (.int .i64 s2) := by simp [go_sem]
    (skip; replace c0 := below_cell hb c0; replace c1 := below_cell hb c1; replace c2 := below_cell hb c2; replace c3 := below_cell hb c3; replace c4 := below_cell hb c4; replace c5 := below_cell hb c5; replace c6 := below_cell hb c6; replace c7 := below_cell hb c7; replace c8 := below_cell hb c8; replace c9 := below_cell hb c9; replace cw0 := below_cell hb cw0; replace cw1 := below_cell hb cw1; replace cw2 := below_cell hb cw2; replace cw3 := below_cell hb cw3; replace cw4 := below_cell hb cw4; replace cw5 := below_cell hb cw5; replace cw6 := below_cell hb cw6; replace cw7 := below_cell hb cw7; replace o4 := Own.below o4 hb; replace hB := below_step hB hb; clear hb)
    go_wp2_with fail
    apply region_made
    case hm => kernel_rfl
    case hok => kernel_rfl
    case hsz => rfl
    case hal => kernel_rfl
    case H =>
      intro u hu
      have Ec0 := ext_cell (below_cell hu c0)
      have Ec1 := ext_cell (below_cell hu c1)
      have Ec2 := ext_cell (below_cell hu c2)
      have Ec3 := ext_cell (below_cell hu c3)
      have Ec4 := ext_cell (below_cell hu c4)
      have Ec5 := ext_cell (below_cell hu c5)
      have Ec6 := ext_cell (below_cell hu c6)
      have Ec7 := ext_cell (below_cell hu c7)
      have Ec8 := ext_cell (below_cell hu c8)
      have Ec9 := ext_cell (below_cell hu c9)
      have Ecw0 := ext_cell (below_cell hu cw0)
      have Ecw1 := ext_cell (below_cell hu cw1)
      have Ecw2 := ext_cell (below_cell hu cw2)
      have Ecw3 := ext_cell (below_cell hu cw3)
      have Ecw4 := ext_cell (below_cell hu cw4)
      have Ecw5 := ext_cell (below_cell hu cw5)
      have Ecw6 := ext_cell (below_cell hu cw6)
      have Ecw7 := ext_cell (below_cell hu cw7)
      have Eo4 := fun e => (Own.below o4 hu).below (ext_below u e)
      have Ec12 := ext_cell (below_cell hu c12)
      have Ec13 := ext_cell (below_cell hu c13)
      dsimp only [List.map, tame]
      (repeat (first | go_big_quiet_step (((go_at_call 31; with_reducible exact calm_of (k1 _)))) | simp only [TF]))
      exact wpQuiet_nil rfl
    case hst => simp only [storesOk, true_and, and_true]; exact ⟨_, rfl, sizeFraction, by simp [Value.oneCell']⟩
    intro G w1 hb hf hd
    simp only [madeFacts, true_and, and_true] at hf
    obtain ⟨hg13, hh13⟩ := hf
    clear hd
    dsimp only [alSlots, List.filterMap, putAll]
    have c14 : w1.cell? ⟨G 13, 0, none⟩ = some (.int .i64 a) := made_cell hh13 rfl
    have c15 : w1.cell? ⟨G 13, 1, none⟩ = some (.int .i64 b) := made_cell hh13 rfl
    clear hh13
    generalize G 13 = g13 at *
    simp only [Act.put, List.setIfInBounds_toArray, List.set_cons_succ, List.set_cons_zero]
    (replace c0 := below_cell hb c0; replace c1 := below_cell hb c1; replace c2 := below_cell hb c2; replace c3 := below_cell hb c3; replace c4 := below_cell hb c4; replace c5 := below_cell hb c5; replace c6 := below_cell hb c6; replace c7 := below_cell hb c7; replace c8 := below_cell hb c8; replace c9 := below_cell hb c9; replace cw0 := below_cell hb cw0; replace cw1 := below_cell hb cw1; replace cw2 := below_cell hb cw2; replace cw3 := below_cell hb cw3; replace cw4 := below_cell hb cw4; replace cw5 := below_cell hb cw5; replace cw6 := below_cell hb cw6; replace cw7 := below_cell hb cw7; replace o4 := Own.below o4 hb; replace c12 := below_cell hb c12; replace c13 := below_cell hb c13; replace hB := below_step hB hb; clear hb)
    clear k1 c12 c13
    ((go_wp2_with fail); (with_reducible refine (kSr _ _ _ (zz_shift o4)).mono ?_); rintro _ w1 ⟨rfl, hb⟩; replace c0 := below_cell hb c0; replace c1 := below_cell hb c1; replace c2 := below_cell hb c2; replace c3 := below_cell hb c3; replace c4 := below_cell hb c4; replace c5 := below_cell hb c5; replace c6 := below_cell hb c6; replace c7 := below_cell hb c7; replace c8 := below_cell hb c8; replace c9 := below_cell hb c9; replace cw0 := below_cell hb cw0; replace cw1 := below_cell hb cw1; replace cw2 := below_cell hb cw2; replace cw3 := below_cell hb cw3; replace cw4 := below_cell hb cw4; replace cw5 := below_cell hb cw5; replace cw6 := below_cell hb cw6; replace cw7 := below_cell hb cw7; replace c14 := below_cell hb c14; replace c15 := below_cell hb c15; replace hB := below_step hB hb; clear hb)
    clear kSr o4
    have hb := below_alloc (Below.refl w1.heap.size w1) (.cells #[.int .i64 r1, .int .i64 r2] 25)
    have c16 : (w1.alloc (.cells #[.int .i64 r1, .int .i64 r2] 25)).cell? ⟨w1.heap.size, 0, none⟩ = some (.int .i64 r1) := by simp [go_sem]
    have c17 : (w1.alloc (.cells #[.int .i64 r1, .int .i64 r2] 25)).cell? ⟨w1.heap.size, 1, none⟩ = some (.int .i64 r2) := by simp [go_sem]
    (skip; replace c0 := below_cell hb c0; replace c1 := below_cell hb c1; replace c2 := below_cell hb c2; replace c3 := below_cell hb c3; replace c4 := below_cell hb c4; replace c5 := below_cell hb c5; replace c6 := below_cell hb c6; replace c7 := below_cell hb c7; replace c8 := below_cell hb c8; replace c9 := below_cell hb c9; replace cw0 := below_cell hb cw0; replace cw1 := below_cell hb cw1; replace cw2 := below_cell hb cw2; replace cw3 := below_cell hb cw3; replace cw4 := below_cell hb cw4; replace cw5 := below_cell hb cw5; replace cw6 := below_cell hb cw6; replace cw7 := below_cell hb cw7; replace c14 := below_cell hb c14; replace c15 := below_cell hb c15; replace hB := below_step hB hb; clear hb)
    go_wp2_with fail
    apply region_made
    case hm => kernel_rfl
    case hok => kernel_rfl
    case hsz => rfl
    case hal => kernel_rfl
    case H =>
      intro u hu
      have Ec0 := ext_cell (below_cell hu c0)
      have Ec1 := ext_cell (below_cell hu c1)
      have Ec2 := ext_cell (below_cell hu c2)
      have Ec3 := ext_cell (below_cell hu c3)
      have Ec4 := ext_cell (below_cell hu c4)
      have Ec5 := ext_cell (below_cell hu c5)
      have Ec6 := ext_cell (below_cell hu c6)
      have Ec7 := ext_cell (below_cell hu c7)
      have Ec8 := ext_cell (below_cell hu c8)
      have Ec9 := ext_cell (below_cell hu c9)
      have Ecw0 := ext_cell (below_cell hu cw0)
      have Ecw1 := ext_cell (below_cell hu cw1)
      have Ecw2 := ext_cell (below_cell hu cw2)
      have Ecw3 := ext_cell (below_cell hu cw3)
      have Ecw4 := ext_cell (below_cell hu cw4)
      have Ecw5 := ext_cell (below_cell hu cw5)
      have Ecw6 := ext_cell (below_cell hu cw6)
      have Ecw7 := ext_cell (below_cell hu cw7)
      have Ec14 := ext_cell (below_cell hu c14)
      have Ec15 := ext_cell (below_cell hu c15)
      have Ec16 := ext_cell (below_cell hu c16)
      have Ec17 := ext_cell (below_cell hu c17)
      dsimp only [List.map, tame]
      (repeat (first | go_big_quiet_step (((go_at_call 31; with_reducible exact calm_of (k2 _)))) | simp only [TF]))
      exact wpQuiet_nil rfl
    case hst => simp only [storesOk, true_and, and_true]; exact ⟨_, rfl, sizeFraction, by simp [Value.oneCell']⟩
    intro G w1 hb hf hd
    simp only [madeFacts, true_and, and_true] at hf
    obtain ⟨hg17, hh17⟩ := hf
    clear hd
    dsimp only [alSlots, List.filterMap, putAll]
    have c18 : w1.cell? ⟨G 17, 0, none⟩ = some (.int .i64 P) := made_cell hh17 rfl
    have c19 : w1.cell? ⟨G 17, 1, none⟩ = some (.int .i64 Q) := made_cell hh17 rfl
    clear hh17
    generalize G 17 = g17 at *
    simp only [Act.put, List.setIfInBounds_toArray, List.set_cons_succ, List.set_cons_zero]
    (replace c0 := below_cell hb c0; replace c1 := below_cell hb c1; replace c2 := below_cell hb c2; replace c3 := below_cell hb c3; replace c4 := below_cell hb c4; replace c5 := below_cell hb c5; replace c6 := below_cell hb c6; replace c7 := below_cell hb c7; replace c8 := below_cell hb c8; replace c9 := below_cell hb c9; replace cw0 := below_cell hb cw0; replace cw1 := below_cell hb cw1; replace cw2 := below_cell hb cw2; replace cw3 := below_cell hb cw3; replace cw4 := below_cell hb cw4; replace cw5 := below_cell hb cw5; replace cw6 := below_cell hb cw6; replace cw7 := below_cell hb cw7; replace c14 := below_cell hb c14; replace c15 := below_cell hb c15; replace c16 := below_cell hb c16; replace c17 := below_cell hb c17; replace hB := below_step hB hb; clear hb)
    clear k2 c16 c17
    go_wp2_with fail
    apply region_made
    case hm => kernel_rfl
    case hok => kernel_rfl
    case hsz => rfl
    case hal => kernel_rfl
    case H =>
      intro u hu
      have Ec0 := ext_cell (below_cell hu c0)
      have Ec1 := ext_cell (below_cell hu c1)
      have Ec2 := ext_cell (below_cell hu c2)
      have Ec3 := ext_cell (below_cell hu c3)
      have Ec4 := ext_cell (below_cell hu c4)
      have Ec5 := ext_cell (below_cell hu c5)
      have Ec6 := ext_cell (below_cell hu c6)
      have Ec7 := ext_cell (below_cell hu c7)
      have Ec8 := ext_cell (below_cell hu c8)
      have Ec9 := ext_cell (below_cell hu c9)
      have Ecw0 := ext_cell (below_cell hu cw0)
      have Ecw1 := ext_cell (below_cell hu cw1)
      have Ecw2 := ext_cell (below_cell hu cw2)
      have Ecw3 := ext_cell (below_cell hu cw3)
      have Ecw4 := ext_cell (below_cell hu cw4)
      have Ecw5 := ext_cell (below_cell hu cw5)
      have Ecw6 := ext_cell (below_cell hu cw6)
      have Ecw7 := ext_cell (below_cell hu cw7)
      have Ec14 := ext_cell (below_cell hu c14)
      have Ec15 := ext_cell (below_cell hu c15)
      have Ec18 := ext_cell (below_cell hu c18)
      have Ec19 := ext_cell (below_cell hu c19)
      dsimp only [List.map, tame]
      (repeat (first | go_big_quiet_step (((go_at_call 31; with_reducible exact calm_of (k3 _)))) | simp only [TF]))
      exact wpQuiet_nil rfl
    case hst => simp only [storesOk, true_and, and_true]; exact ⟨_, rfl, sizeFraction, by simp [Value.oneCell']⟩
    intro G w1 hb hf hd
    simp only [madeFacts, true_and, and_true] at hf
    obtain ⟨hg19, hh19⟩ := hf
    clear hd
    dsimp only [alSlots, List.filterMap, putAll]
    have c20 : w1.cell? ⟨G 19, 0, none⟩ = some (.int .i64 X4) := made_cell hh19 rfl
    have c21 : w1.cell? ⟨G 19, 1, none⟩ = some (.int .i64 Y4) := made_cell hh19 rfl
    clear hh19
    generalize G 19 = g19 at *
    simp only [Act.put, List.setIfInBounds_toArray, List.set_cons_succ, List.set_cons_zero]
    (replace c0 := below_cell hb c0; replace c1 := below_cell hb c1; replace c2 := below_cell hb c2; replace c3 := below_cell hb c3; replace c4 := below_cell hb c4; replace c5 := below_cell hb c5; replace c6 := below_cell hb c6; replace c7 := below_cell hb c7; replace c8 := below_cell hb c8; replace c9 := below_cell hb c9; replace cw0 := below_cell hb cw0; replace cw1 := below_cell hb cw1; replace cw2 := below_cell hb cw2; replace cw3 := below_cell hb cw3; replace cw4 := below_cell hb cw4; replace cw5 := below_cell hb cw5; replace cw6 := below_cell hb cw6; replace cw7 := below_cell hb cw7; replace c14 := below_cell hb c14; replace c15 := below_cell hb c15; replace c18 := below_cell hb c18; replace c19 := below_cell hb c19; replace hB := below_step hB hb; clear hb)
    clear k3
    go_wp2_with fail
    apply region_made
    case hm => kernel_rfl
    case hok => kernel_rfl
    case hsz => rfl
    case hal => kernel_rfl
    case H =>
      intro u hu
      have Ec0 := ext_cell (below_cell hu c0)
      have Ec1 := ext_cell (below_cell hu c1)
      have Ec2 := ext_cell (below_cell hu c2)
      have Ec3 := ext_cell (below_cell hu c3)
      have Ec4 := ext_cell (below_cell hu c4)
      have Ec5 := ext_cell (below_cell hu c5)
      have Ec6 := ext_cell (below_cell hu c6)
      have Ec7 := ext_cell (below_cell hu c7)
      have Ec8 := ext_cell (below_cell hu c8)
      have Ec9 := ext_cell (below_cell hu c9)
      have Ecw0 := ext_cell (below_cell hu cw0)
      have Ecw1 := ext_cell (below_cell hu cw1)
      have Ecw2 := ext_cell (below_cell hu cw2)
      have Ecw3 := ext_cell (below_cell hu cw3)
      have Ecw4 := ext_cell (below_cell hu cw4)
      have Ecw5 := ext_cell (below_cell hu cw5)
      have Ecw6 := ext_cell (below_cell hu cw6)
      have Ecw7 := ext_cell (below_cell hu cw7)
      have Ec14 := ext_cell (below_cell hu c14)
      have Ec15 := ext_cell (below_cell hu c15)
      have Ec18 := ext_cell (below_cell hu c18)
      have Ec19 := ext_cell (below_cell hu c19)
      have Ec20 := ext_cell (below_cell hu c20)
      have Ec21 := ext_cell (below_cell hu c21)
      dsimp only [List.map, tame]
      (repeat (first | go_big_quiet_step (((go_at_call 31; with_reducible exact calm_of (k4 _)))) | simp only [TF]))
      exact wpQuiet_nil rfl
    case hst => simp only [storesOk, true_and, and_true]; exact ⟨_, rfl, sizeFraction, by simp [Value.oneCell']⟩
    intro G w1 hb hf hd
    simp only [madeFacts, true_and, and_true] at hf
    obtain ⟨hg21, hh21⟩ := hf
    clear hd
    dsimp only [alSlots, List.filterMap, putAll]
    have c22 : w1.cell? ⟨G 21, 0, none⟩ = some (.int .i64 v1) := made_cell hh21 rfl
    have c23 : w1.cell? ⟨G 21, 1, none⟩ = some (.int .i64 v2) := made_cell hh21 rfl
    clear hh21
    generalize G 21 = g21 at *
    simp only [Act.put, List.setIfInBounds_toArray, List.set_cons_succ, List.set_cons_zero]
    (replace c0 := below_cell hb c0; replace c1 := below_cell hb c1; replace c2 := below_cell hb c2; replace c3 := below_cell hb c3; replace c4 := below_cell hb c4; replace c5 := below_cell hb c5; replace c6 := below_cell hb c6; replace c7 := below_cell hb c7; replace c8 := below_cell hb c8; replace c9 := below_cell hb c9; replace cw0 := below_cell hb cw0; replace cw1 := below_cell hb cw1; replace cw2 := below_cell hb cw2; replace cw3 := below_cell hb cw3; replace cw4 := below_cell hb cw4; replace cw5 := below_cell hb cw5; replace cw6 := below_cell hb cw6; replace cw7 := below_cell hb cw7; replace c14 := below_cell hb c14; replace c15 := below_cell hb c15; replace c18 := below_cell hb c18; replace c19 := below_cell hb c19; replace c20 := below_cell hb c20; replace c21 := below_cell hb c21; replace hB := below_step hB hb; clear hb)
    clear k4
    go_wp2_with fail
    apply region_made
    case hm => kernel_rfl
    case hok => kernel_rfl
    case hsz => rfl
    case hal => kernel_rfl
    case H =>
      intro u hu
      have Ec0 := ext_cell (below_cell hu c0)
      have Ec1 := ext_cell (below_cell hu c1)
      have Ec2 := ext_cell (below_cell hu c2)
      have Ec3 := ext_cell (below_cell hu c3)
      have Ec4 := ext_cell (below_cell hu c4)
      have Ec5 := ext_cell (below_cell hu c5)
      have Ec6 := ext_cell (below_cell hu c6)
      have Ec7 := ext_cell (below_cell hu c7)
      have Ec8 := ext_cell (below_cell hu c8)
      have Ec9 := ext_cell (below_cell hu c9)
      have Ecw0 := ext_cell (below_cell hu cw0)
      have Ecw1 := ext_cell (below_cell hu cw1)
      have Ecw2 := ext_cell (below_cell hu cw2)
      have Ecw3 := ext_cell (below_cell hu cw3)
      have Ecw4 := ext_cell (below_cell hu cw4)
      have Ecw5 := ext_cell (below_cell hu cw5)
      have Ecw6 := ext_cell (below_cell hu cw6)
      have Ecw7 := ext_cell (below_cell hu cw7)
      have Ec14 := ext_cell (below_cell hu c14)
      have Ec15 := ext_cell (below_cell hu c15)
      have Ec18 := ext_cell (below_cell hu c18)
      have Ec19 := ext_cell (below_cell hu c19)
      have Ec20 := ext_cell (below_cell hu c20)
      have Ec21 := ext_cell (below_cell hu c21)
      have Ec22 := ext_cell (below_cell hu c22)
      have Ec23 := ext_cell (below_cell hu c23)
      dsimp only [List.map, tame]
      (repeat (first | go_big_quiet_step (((go_at_call 31; with_reducible exact calm_of (k5 _)))) | simp only [TF]))
      exact wpQuiet_nil rfl
    case hst => simp only [storesOk, true_and, and_true]; exact ⟨_, rfl, sizeFraction, by simp [Value.oneCell']⟩
    intro G w1 hb hf hd
    simp only [madeFacts, true_and, and_true] at hf
    obtain ⟨hg23, hh23⟩ := hf
    clear hd
    dsimp only [alSlots, List.filterMap, putAll]
    have c24 : w1.cell? ⟨G 23, 0, none⟩ = some (.int .i64 X4) := made_cell hh23 rfl
    have c25 : w1.cell? ⟨G 23, 1, none⟩ = some (.int .i64 Y4) := made_cell hh23 rfl
    clear hh23
    generalize G 23 = g23 at *
    simp only [Act.put, List.setIfInBounds_toArray, List.set_cons_succ, List.set_cons_zero]
    (replace c0 := below_cell hb c0; replace c1 := below_cell hb c1; replace c2 := below_cell hb c2; replace c3 := below_cell hb c3; replace c4 := below_cell hb c4; replace c5 := below_cell hb c5; replace c6 := below_cell hb c6; replace c7 := below_cell hb c7; replace c8 := below_cell hb c8; replace c9 := below_cell hb c9; replace cw0 := below_cell hb cw0; replace cw1 := below_cell hb cw1; replace cw2 := below_cell hb cw2; replace cw3 := below_cell hb cw3; replace cw4 := below_cell hb cw4; replace cw5 := below_cell hb cw5; replace cw6 := below_cell hb cw6; replace cw7 := below_cell hb cw7; replace c14 := below_cell hb c14; replace c15 := below_cell hb c15; replace c18 := below_cell hb c18; replace c19 := below_cell hb c19; replace c20 := below_cell hb c20; replace c21 := below_cell hb c21; replace c22 := below_cell hb c22; replace c23 := below_cell hb c23; replace hB := below_step hB hb; clear hb)
    clear k5 c22 c23
    go_wp2_with fail
    apply region_made
    case hm => kernel_rfl
    case hok => kernel_rfl
    case hsz => rfl
    case hal => kernel_rfl
    case H =>
      intro u hu
      have Ec0 := ext_cell (below_cell hu c0)
      have Ec1 := ext_cell (below_cell hu c1)
      have Ec2 := ext_cell (below_cell hu c2)
      have Ec3 := ext_cell (below_cell hu c3)
      have Ec4 := ext_cell (below_cell hu c4)
      have Ec5 := ext_cell (below_cell hu c5)
      have Ec6 := ext_cell (below_cell hu c6)
      have Ec7 := ext_cell (below_cell hu c7)
      have Ec8 := ext_cell (below_cell hu c8)
      have Ec9 := ext_cell (below_cell hu c9)
      have Ecw0 := ext_cell (below_cell hu cw0)
      have Ecw1 := ext_cell (below_cell hu cw1)
      have Ecw2 := ext_cell (below_cell hu cw2)
      have Ecw3 := ext_cell (below_cell hu cw3)
      have Ecw4 := ext_cell (below_cell hu cw4)
      have Ecw5 := ext_cell (below_cell hu cw5)
      have Ecw6 := ext_cell (below_cell hu cw6)
      have Ecw7 := ext_cell (below_cell hu cw7)
      have Ec14 := ext_cell (below_cell hu c14)
      have Ec15 := ext_cell (below_cell hu c15)
      have Ec18 := ext_cell (below_cell hu c18)
      have Ec19 := ext_cell (below_cell hu c19)
      have Ec20 := ext_cell (below_cell hu c20)
      have Ec21 := ext_cell (below_cell hu c21)
      have Ec24 := ext_cell (below_cell hu c24)
      have Ec25 := ext_cell (below_cell hu c25)
      dsimp only [List.map, tame]
      (repeat (first | go_big_quiet_step (((go_at_call 22; with_reducible exact calm_of (kHv _)))) | simp only [TF]))
      exact wpQuiet_nil rfl
    case hst => simp only [storesOk, true_and, and_true]; exact ⟨⟨_, rfl, sizeFraction, by simp [Value.oneCell']⟩, ⟨_, rfl, sizeFraction, by simp [Value.oneCell']⟩⟩
    intro G w1 hb hf hd
    simp only [madeFacts, true_and, and_true] at hf
    obtain ⟨⟨hg25, hh25⟩, ⟨hg26, hh26⟩⟩ := hf
    have hd25_26 := hd 25 (by decide) 26 (by decide) (by decide)
    clear hd
    dsimp only [alSlots, List.filterMap, putAll]
    have c26 : w1.cell? ⟨G 25, 0, none⟩ = some (.int .i64 x1) := made_cell hh25 rfl
    have c27 : w1.cell? ⟨G 25, 1, none⟩ = some (.int .i64 x2) := made_cell hh25 rfl
    clear hh25
    have c28 : w1.cell? ⟨G 26, 0, none⟩ = some (.int .i64 y1) := made_cell hh26 rfl
    have c29 : w1.cell? ⟨G 26, 1, none⟩ = some (.int .i64 y2) := made_cell hh26 rfl
    clear hh26
    generalize G 25 = g25 at *
    generalize G 26 = g26 at *
    simp only [Act.put, List.setIfInBounds_toArray, List.set_cons_succ, List.set_cons_zero]
    (replace c0 := below_cell hb c0; replace c1 := below_cell hb c1; replace c2 := below_cell hb c2; replace c3 := below_cell hb c3; replace c4 := below_cell hb c4; replace c5 := below_cell hb c5; replace c6 := below_cell hb c6; replace c7 := below_cell hb c7; replace c8 := below_cell hb c8; replace c9 := below_cell hb c9; replace cw0 := below_cell hb cw0; replace cw1 := below_cell hb cw1; replace cw2 := below_cell hb cw2; replace cw3 := below_cell hb cw3; replace cw4 := below_cell hb cw4; replace cw5 := below_cell hb cw5; replace cw6 := below_cell hb cw6; replace cw7 := below_cell hb cw7; replace c14 := below_cell hb c14; replace c15 := below_cell hb c15; replace c18 := below_cell hb c18; replace c19 := below_cell hb c19; replace c20 := below_cell hb c20; replace c21 := below_cell hb c21; replace c24 := below_cell hb c24; replace c25 := below_cell hb c25; replace hB := below_step hB hb; clear hb)
    clear kHv
    go_wp2_with fail
    apply region_made
    case hm => kernel_rfl
    case hok => kernel_rfl
    case hsz => rfl
    case hal => kernel_rfl
    case H =>
      intro u hu
      have Ec0 := ext_cell (below_cell hu c0)
      have Ec1 := ext_cell (below_cell hu c1)
      have Ec2 := ext_cell (below_cell hu c2)
      have Ec3 := ext_cell (below_cell hu c3)
      have Ec4 := ext_cell (below_cell hu c4)
      have Ec5 := ext_cell (below_cell hu c5)
      have Ec6 := ext_cell (below_cell hu c6)
      have Ec7 := ext_cell (below_cell hu c7)
      have Ec8 := ext_cell (below_cell hu c8)
      have Ec9 := ext_cell (below_cell hu c9)
      have Ecw0 := ext_cell (below_cell hu cw0)
      have Ecw1 := ext_cell (below_cell hu cw1)
      have Ecw2 := ext_cell (below_cell hu cw2)
      have Ecw3 := ext_cell (below_cell hu cw3)
      have Ecw4 := ext_cell (below_cell hu cw4)
      have Ecw5 := ext_cell (below_cell hu cw5)
      have Ecw6 := ext_cell (below_cell hu cw6)
      have Ecw7 := ext_cell (below_cell hu cw7)
      have Ec14 := ext_cell (below_cell hu c14)
      have Ec15 := ext_cell (below_cell hu c15)
      have Ec18 := ext_cell (below_cell hu c18)
      have Ec19 := ext_cell (below_cell hu c19)
      have Ec20 := ext_cell (below_cell hu c20)
      have Ec21 := ext_cell (below_cell hu c21)
      have Ec24 := ext_cell (below_cell hu c24)
      have Ec25 := ext_cell (below_cell hu c25)
      have Ec26 := ext_cell (below_cell hu c26)
      have Ec27 := ext_cell (below_cell hu c27)
      have Ec28 := ext_cell (below_cell hu c28)
      have Ec29 := ext_cell (below_cell hu c29)
      dsimp only [List.map, tame]
      (repeat (first | go_big_quiet_step (((go_at_call 31; with_reducible exact calm_of (k6 _)))) | simp only [TF]))
      exact wpQuiet_nil rfl
    case hst => simp only [storesOk, true_and, and_true]; exact ⟨_, rfl, sizeFraction, by simp [Value.oneCell']⟩
    intro G w1 hb hf hd
    simp only [madeFacts, true_and, and_true] at hf
    obtain ⟨hg28, hh28⟩ := hf
    clear hd
    dsimp only [alSlots, List.filterMap, putAll]
    have c30 : w1.cell? ⟨G 28, 0, none⟩ = some (.int .i64 x1) := made_cell hh28 rfl
    have c31 : w1.cell? ⟨G 28, 1, none⟩ = some (.int .i64 x2) := made_cell hh28 rfl
    clear hh28
    generalize G 28 = g28 at *
    simp only [Act.put, List.setIfInBounds_toArray, List.set_cons_succ, List.set_cons_zero]
    (replace c0 := below_cell hb c0; replace c1 := below_cell hb c1; replace c2 := below_cell hb c2; replace c3 := below_cell hb c3; replace c4 := below_cell hb c4; replace c5 := below_cell hb c5; replace c6 := below_cell hb c6; replace c7 := below_cell hb c7; replace c8 := below_cell hb c8; replace c9 := below_cell hb c9; replace cw0 := below_cell hb cw0; replace cw1 := below_cell hb cw1; replace cw2 := below_cell hb cw2; replace cw3 := below_cell hb cw3; replace cw4 := below_cell hb cw4; replace cw5 := below_cell hb cw5; replace cw6 := below_cell hb cw6; replace cw7 := below_cell hb cw7; replace c14 := below_cell hb c14; replace c15 := below_cell hb c15; replace c18 := below_cell hb c18; replace c19 := below_cell hb c19; replace c20 := below_cell hb c20; replace c21 := below_cell hb c21; replace c24 := below_cell hb c24; replace c25 := below_cell hb c25; replace c26 := below_cell hb c26; replace c27 := below_cell hb c27; replace c28 := below_cell hb c28; replace c29 := below_cell hb c29; replace hB := below_step hB hb; clear hb)
    clear k6 c28 c29 c2 c3 c4 c5 c6 c7 c8 c9 cw4 cw5 cw6 cw7
    go_wp2_with fail
    (have Ec0 := ext_cell c0; have Ec1 := ext_cell c1; have Ecw0 := ext_cell cw0; have Ecw1 := ext_cell cw1; have Ecw2 := ext_cell cw2; have Ecw3 := ext_cell cw3; have Ec14 := ext_cell c14; have Ec15 := ext_cell c15; have Ec18 := ext_cell c18; have Ec19 := ext_cell c19; have Ec20 := ext_cell c20; have Ec21 := ext_cell c21; have Ec24 := ext_cell c24; have Ec25 := ext_cell c25; have Ec26 := ext_cell c26; have Ec27 := ext_cell c27; have Ec30 := ext_cell c30; have Ec31 := ext_cell c31; refine calm_lit (by kernel_rfl) (by kernel_rfl) ?_; (repeat (first | go_big_quiet_step (fail) | simp only [TF])); refine wpQuiet_nil ?_; intro w1 hb; clear Ec0 Ec1 Ecw0 Ecw1 Ecw2 Ecw3 Ec14 Ec15 Ec18 Ec19 Ec20 Ec21 Ec24 Ec25 Ec26 Ec27 Ec30 Ec31; replace c0 := below_cell hb c0; replace c1 := below_cell hb c1; replace cw0 := below_cell hb cw0; replace cw1 := below_cell hb cw1; replace cw2 := below_cell hb cw2; replace cw3 := below_cell hb cw3; replace c14 := below_cell hb c14; replace c15 := below_cell hb c15; replace c18 := below_cell hb c18; replace c19 := below_cell hb c19; replace c20 := below_cell hb c20; replace c21 := below_cell hb c21; replace c24 := below_cell hb c24; replace c25 := below_cell hb c25; replace c26 := below_cell hb c26; replace c27 := below_cell hb c27; replace c30 := below_cell hb c30; replace c31 := below_cell hb c31; replace hB := below_step hB hb; clear hb)
    go_wp2_with fail
    go_ret
    exact ⟨rfl, hB⟩
  · rw [show decide (1048576 < n) = true by simp; omega] at hs
    go_enter Try.func8, Try.ntmps8
    ((go_wp2_with fail); (with_reducible refine (hs _).mono ?_); rintro _ _ ⟨rfl, rfl⟩)
    go_wp2_with fail
    go_ret
    exact ⟨rfl, hB⟩
end Go.Proofs.Ytoalpihlflifmaa
