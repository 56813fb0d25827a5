/- The helpers of the laws over slices of Ratio: the copy, the size, the comparison, the marking: each computes what its name says and leaves old memory alone. No conditions but a length of at most 2^20. -/
import Derived.Test.YtfgkglbhbdfpfaaSlc
import Derived.Test.YtfgkglbhbdfpfaaDraw
namespace Go.Proofs.Ytfgkglbhbdfpfaa
open Go.RowKit
set_option linter.unusedSimpArgs false
set_option linter.unusedVariables false
set_option maxHeartbeats 1000000
theorem infoRatio : (Try.prog.info? 46).map (fun i => (i.zero, i.size, i.bytes)) = some (some (.agg #[.int .i64 0, .int .i64 0, .int .i64 0, .int .i64 0]), 4, 32) := by kernel_rfl
theorem toFraction_any (x0 x1 : Int) (w : World) : Calls Try.prog 20 #[.agg #[.int .i64 x0, .int .i64 x1]] w fun e w' => e = .returned (.agg #[.int .i64 x0, .int .i64 x1]) ∧ Below w.heap.size w w' := by
  go_enter Try.func20, Try.ntmps20
  go_wp2
  exact bodyPost_ret (v := .agg #[.int .i64 x0, .int .i64 x1]) (by simp [results, Try.results20, go_sem]) rfl ⟨rfl, by (repeat (first | exact Below.refl _ _ | assumption | (refine Below.drew ?_) | (refine below_alloc ?_ _) | (refine Below.setCell ?_ (by first | (simp; done) | (simp; omega) | omega | (have hq := hB.size; (try simp at hq ⊢); omega)) _) | (refine Below.alloc ?_ (by first | (simp; done) | (simp; omega) | omega | (have hq := hB.size; (try simp at hq ⊢); omega)) _) | (refine below_step ?_ (by assumption))))⟩
theorem eqFraction_true (x0 x1 : Int) (w : World) : Calls Try.prog 18 #[.agg #[.int .i64 x0, .int .i64 x1], .agg #[.int .i64 x0, .int .i64 x1]] w fun e w' => e = .returned (.bool true) ∧ Below w.heap.size w w' := by
  go_enter Try.func18, Try.ntmps18
  go_wp2
  all_goals go_ret
  all_goals exact ⟨rfl, by (repeat (first | exact Below.refl _ _ | assumption | (refine Below.drew ?_) | (refine below_alloc ?_ _) | (refine Below.setCell ?_ (by first | (simp; done) | (simp; omega) | omega | (have hq := hB.size; (try simp at hq ⊢); omega)) _) | (refine Below.alloc ?_ (by first | (simp; done) | (simp; omega) | omega | (have hq := hB.size; (try simp at hq ⊢); omega)) _) | (refine below_step ?_ (by assumption))))⟩
theorem toRatio_any (x0 x1 x2 x3 : Int) (w : World) : Calls Try.prog 30 #[.agg #[.int .i64 x0, .int .i64 x1, .int .i64 x2, .int .i64 x3]] w fun e w' => e = .returned (.agg #[.int .i64 x0, .int .i64 x1, .int .i64 x2, .int .i64 x3]) ∧ Below w.heap.size w w' := by
  obtain ⟨W, hW⟩ : ∃ W, W = (((w.alloc (.cells #[.int .i64 x0, .int .i64 x1, .int .i64 x2, .int .i64 x3] 51)).alloc (.cells #[.int .i64 0, .int .i64 0, .int .i64 0, .int .i64 0] 46)).alloc (.cells #[.int .i64 x0, .int .i64 x1, .int .i64 0, .int .i64 0] 46)) := ⟨_, rfl⟩
  have c0 : W.cell? ⟨w.heap.size, 0, none⟩ = some (.int .i64 x0) := by rw [hW]; simp [go_sem]
  have c1 : W.cell? ⟨w.heap.size, 1, none⟩ = some (.int .i64 x1) := by rw [hW]; simp [go_sem]
  have c2 : W.cell? ⟨w.heap.size, 2, none⟩ = some (.int .i64 x2) := by rw [hW]; simp [go_sem]
  have c3 : W.cell? ⟨w.heap.size, 3, none⟩ = some (.int .i64 x3) := by rw [hW]; simp [go_sem]
  have c4 : W.cell? ⟨w.heap.size + 1, 0, none⟩ = some (.int .i64 0) := by rw [hW]; simp [go_sem]
  have z4 : W.frozen? ⟨w.heap.size + 1, 0, none⟩ = false := by rw [hW]; simp [go_sem]
  have c5 : W.cell? ⟨w.heap.size + 1, 1, none⟩ = some (.int .i64 0) := by rw [hW]; simp [go_sem]
  have z5 : W.frozen? ⟨w.heap.size + 1, 1, none⟩ = false := by rw [hW]; simp [go_sem]
  have c6 : W.cell? ⟨w.heap.size + 1, 2, none⟩ = some (.int .i64 0) := by rw [hW]; simp [go_sem]
  have z6 : W.frozen? ⟨w.heap.size + 1, 2, none⟩ = false := by rw [hW]; simp [go_sem]
  have c7 : W.cell? ⟨w.heap.size + 1, 3, none⟩ = some (.int .i64 0) := by rw [hW]; simp [go_sem]
  have z7 : W.frozen? ⟨w.heap.size + 1, 3, none⟩ = false := by rw [hW]; simp [go_sem]
  have c8 : W.cell? ⟨w.heap.size + 2, 0, none⟩ = some (.int .i64 x0) := by rw [hW]; simp [go_sem]
  have z8 : W.frozen? ⟨w.heap.size + 2, 0, none⟩ = false := by rw [hW]; simp [go_sem]
  have c9 : W.cell? ⟨w.heap.size + 2, 1, none⟩ = some (.int .i64 x1) := by rw [hW]; simp [go_sem]
  have z9 : W.frozen? ⟨w.heap.size + 2, 1, none⟩ = false := by rw [hW]; simp [go_sem]
  have c10 : W.cell? ⟨w.heap.size + 2, 2, none⟩ = some (.int .i64 0) := by rw [hW]; simp [go_sem]
  have z10 : W.frozen? ⟨w.heap.size + 2, 2, none⟩ = false := by rw [hW]; simp [go_sem]
  have c11 : W.cell? ⟨w.heap.size + 2, 3, none⟩ = some (.int .i64 0) := by rw [hW]; simp [go_sem]
  have z11 : W.frozen? ⟨w.heap.size + 2, 3, none⟩ = false := by rw [hW]; simp [go_sem]
  have hB : Below w.heap.size w W := by rw [hW]; exact ((((Below.refl _ _).alloc (by simp <;> omega) _).alloc (by simp <;> omega) _).alloc (by simp <;> omega) _)
  subst hW
  go_enter Try.func30, Try.ntmps30
  ((go_wp2_with fail); (with_reducible refine (toFraction_any _ _ _).mono ?_); rintro _ w1 ⟨rfl, hb⟩; replace z4 := below_frozen hb (lt_of_cell c4) z4; replace z5 := below_frozen hb (lt_of_cell c5) z5; replace z6 := below_frozen hb (lt_of_cell c6) z6; replace z7 := below_frozen hb (lt_of_cell c7) z7; replace z8 := below_frozen hb (lt_of_cell c8) z8; replace z9 := below_frozen hb (lt_of_cell c9) z9; replace z10 := below_frozen hb (lt_of_cell c10) z10; replace z11 := below_frozen hb (lt_of_cell c11) z11; replace c0 := below_cell hb c0; replace c1 := below_cell hb c1; replace c2 := below_cell hb c2; replace c3 := below_cell hb c3; replace c4 := below_cell hb c4; replace c5 := below_cell hb c5; replace c6 := below_cell hb c6; replace c7 := below_cell hb c7; replace c8 := below_cell hb c8; replace c9 := below_cell hb c9; replace c10 := below_cell hb c10; replace c11 := below_cell hb c11; replace hB := below_step hB hb; clear hb)
  have l4 : w.heap.size + 1 < w1.heap.size := lt_of_cell c4
  have l8 : w.heap.size + 2 < w1.heap.size := lt_of_cell c8
  go_wp2_with fail
  refine bodyPost_ret (v := .agg #[.int .i64 x0, .int .i64 x1, .int .i64 x2, .int .i64 x3]) (by simp [results, Try.results30, go_sem, *]) rfl ⟨rfl, by (repeat (first | (with_reducible exact Below.refl _ _) | (with_reducible assumption) | (with_reducible refine Below.drew ?_) | (with_reducible refine below_alloc ?_ _) | (with_reducible refine Below.setCell ?_ (by first | (simp; done) | (simp; omega) | omega | (have hq := hB.size; (try simp at hq ⊢); omega)) _) | (with_reducible refine below_step ?_ (by with_reducible assumption))))⟩

theorem szRatioS_any (A : Option Addr) (n c : Nat) (hn : n ≤ maxLen) (w : World) : Calls Try.prog 9 #[.slice A n c, .int .i64 1048576] w fun e w' => e = .returned (.int .i64 (szB n)) ∧ w = w' := by
  unfold maxLen at hn
  by_cases h : n ≤ 1048576
  · go_enter Try.func9, Try.ntmps9
    go_wp2
    go_ret
    exact ⟨ret_int ((szB_yes h).symm), rfl⟩
  · go_enter Try.func9, Try.ntmps9
    go_wp2
    go_ret
    exact ⟨ret_int ((szB_no h).symm), rfl⟩

theorem toRatioS_any (A : Option Addr) (n c : Nat) (v : Nat → Int) (w : World) (hn : n ≤ 1048576) (f0 : Fl w A n 4 v) : Calls Try.prog 11 #[.slice A n c] w (Made w 46 n 4 v) := by
  have hmk := fun W => run_make_rowN (P := Try.prog) 25 46 _ _ _ Try.underlying25 infoRatio .i64 .i64 n (by omega) (by omega) W
  go_enter Try.func11, Try.ntmps11
  go_wp2_with fail
  go_loopw [4] (fun x wr => ∃ k : Nat, k ≤ n ∧ x = .int .i64 k ∧ Own wr w.heap.size 46 (n * 4) (upto v (k * 4)) ∧ Below w.heap.size w wr) (fun x _ => n - (intOf x).toNat)
  case atStart => exact ⟨0, Nat.zero_le _, rfl, (own_madeN (by decide) (by intro i hi; match i, hi with | 0, _ => rfl | 1, _ => rfl | 2, _ => rfl | 3, _ => rfl)).congr (fun j _ => by simp [upto]), by (repeat (first | exact Below.refl _ _ | assumption | (refine Below.drew ?_) | (refine below_alloc ?_ _) | (refine Below.setCell ?_ (by first | (simp; done) | (simp; omega) | omega | (have hq := hB.size; (try simp at hq ⊢); omega)) _) | (refine Below.alloc ?_ (by first | (simp; done) | (simp; omega) | omega | (have hq := hB.size; (try simp at hq ⊢); omega)) _) | (refine below_step ?_ (by assumption))))⟩
  case round =>
    obtain ⟨k, hk, rfl, o0, hB⟩ := hrel
    by_cases hkn : k < n
    · obtain ⟨b, off, rfl, hc⟩ := (f0.below hB) (by omega)
      have c0 : wr.cell? ⟨b, off + k * 4, none⟩ = _ := hc (k * 4) (by omega)
      have c1 : wr.cell? ⟨b, off + k * 4 + 1, none⟩ = _ := hc (k * 4 + 1) (by omega)
      have c2 : wr.cell? ⟨b, off + k * 4 + 2, none⟩ = _ := hc (k * 4 + 2) (by omega)
      have c3 : wr.cell? ⟨b, off + k * 4 + 3, none⟩ = _ := hc (k * 4 + 3) (by omega)
      have c4 : wr.cell? ⟨w.heap.size, k * 4, none⟩ = some (.int .i64 0) := (o0.cell (j := k * 4) (by omega)).trans (by simp only [upto]; rw [if_neg (by omega)])
      have z4 := o0.frozen (k * 4)
      have c5 : wr.cell? ⟨w.heap.size, k * 4 + 1, none⟩ = some (.int .i64 0) := (o0.cell (j := k * 4 + 1) (by omega)).trans (by simp only [upto]; rw [if_neg (by omega)])
      have z5 := o0.frozen (k * 4 + 1)
      have c6 : wr.cell? ⟨w.heap.size, k * 4 + 2, none⟩ = some (.int .i64 0) := (o0.cell (j := k * 4 + 2) (by omega)).trans (by simp only [upto]; rw [if_neg (by omega)])
      have z6 := o0.frozen (k * 4 + 2)
      have c7 : wr.cell? ⟨w.heap.size, k * 4 + 3, none⟩ = some (.int .i64 0) := (o0.cell (j := k * 4 + 3) (by omega)).trans (by simp only [upto]; rw [if_neg (by omega)])
      have z7 := o0.frozen (k * 4 + 3)
      clear f0 hc
      have hz := hB.size
      go_wp2_with (go_at_call 30; (with_reducible refine (toRatio_any _ _ _ _ _).mono ?_); rintro _ w1 ⟨rfl, hb⟩; replace z4 := below_frozen hb (lt_of_cell c4) z4; replace z5 := below_frozen hb (lt_of_cell c5) z5; replace z6 := below_frozen hb (lt_of_cell c6) z6; replace z7 := below_frozen hb (lt_of_cell c7) z7; replace c0 := below_cell hb c0; replace c1 := below_cell hb c1; replace c2 := below_cell hb c2; replace c3 := below_cell hb c3; replace c4 := below_cell hb c4; replace c5 := below_cell hb c5; replace c6 := below_cell hb c6; replace c7 := below_cell hb c7; replace o0 := Own.below o0 hb; replace hB := below_step hB hb; clear hb)
      go_roundw
      case rel =>
        refine ⟨k + 1, by omega, by go_num, Own.congr (((((o0.set (k * 4) (v (k * 4))).set (k * 4 + 1) (v (k * 4 + 1))).set (k * 4 + 2) (v (k * 4 + 2))).set (k * 4 + 3) (v (k * 4 + 3)))) (fun j hj => ?_), by (repeat (first | exact Below.refl _ _ | assumption | (refine Below.drew ?_) | (refine below_alloc ?_ _) | (refine Below.setCell ?_ (by first | (simp; done) | (simp; omega) | omega | (have hq := hB.size; (try simp at hq ⊢); omega)) _) | (refine Below.alloc ?_ (by first | (simp; done) | (simp; omega) | omega | (have hq := hB.size; (try simp at hq ⊢); omega)) _) | (refine below_step ?_ (by assumption))))⟩
        simp only [upto]
        repeat' split
        all_goals first | rfl | (exfalso; omega) | (congr 1; omega)
      case measure => simp [intOf]; omega
    · obtain rfl : k = n := by omega
      go_wp2
      go_ret
      exact ⟨w.heap.size, rfl, Nat.le_refl _, o0.congr (fun j hj => by simp only [upto]; rw [if_pos hj]), hB⟩

theorem eqRatio_true (x0 x1 x2 x3 : Int) (w : World) : Calls Try.prog 33 #[.agg #[.int .i64 x0, .int .i64 x1, .int .i64 x2, .int .i64 x3], .agg #[.int .i64 x0, .int .i64 x1, .int .i64 x2, .int .i64 x3]] w fun e w' => e = .returned (.bool true) ∧ Below w.heap.size w w' := by
  have hB := Below.refl w.heap.size w
  go_enter Try.func33, Try.ntmps33
  go_wp2_with (go_at_call 18; (with_reducible refine (eqFraction_true _ _ _).mono ?_); rintro _ w1 ⟨rfl, hb⟩)
  go_ret
  exact ⟨rfl, below_step (by (repeat (first | exact Below.refl _ _ | assumption | (refine Below.drew ?_) | (refine below_alloc ?_ _) | (refine Below.setCell ?_ (by first | (simp; done) | (simp; omega) | omega | (have hq := hB.size; (try simp at hq ⊢); omega)) _) | (refine Below.alloc ?_ (by first | (simp; done) | (simp; omega) | omega | (have hq := hB.size; (try simp at hq ⊢); omega)) _) | (refine below_step ?_ (by assumption))))) hb⟩

theorem eqRatioS_true (A A' : Option Addr) (n c c' : Nat) (v : Nat → Int) (w : World) (hn : n ≤ 1048576) (f0 : Fl w A n 4 v) (f1 : Fl w A' n 4 v) : Calls Try.prog 13 #[.slice A n c, .slice A' n c'] w fun e w' => e = .returned (.bool true) ∧ Below w.heap.size w w' := by
  go_enter Try.func13, Try.ntmps13
  go_wp2_with fail
  go_loopw [5] (fun x wr => ∃ k : Nat, k ≤ n ∧ x = .int .i64 k ∧ Below w.heap.size w wr) (fun x _ => n - (intOf x).toNat)
  case atStart => exact ⟨0, Nat.zero_le _, rfl, by (repeat (first | exact Below.refl _ _ | assumption | (refine Below.drew ?_) | (refine below_alloc ?_ _) | (refine Below.setCell ?_ (by first | (simp; done) | (simp; omega) | omega | (have hq := hB.size; (try simp at hq ⊢); omega)) _) | (refine Below.alloc ?_ (by first | (simp; done) | (simp; omega) | omega | (have hq := hB.size; (try simp at hq ⊢); omega)) _) | (refine below_step ?_ (by assumption))))⟩
  case round =>
    obtain ⟨k, hk, rfl, hB⟩ := hrel
    by_cases hkn : k < n
    · obtain ⟨b, off, rfl, hc⟩ := (f0.below hB) (by omega)
      obtain ⟨b', off', rfl, hc'⟩ := (f1.below hB) (by omega)
      have c0 : wr.cell? ⟨b, off + k * 4, none⟩ = _ := hc (k * 4) (by omega)
      have c1 : wr.cell? ⟨b, off + k * 4 + 1, none⟩ = _ := hc (k * 4 + 1) (by omega)
      have c2 : wr.cell? ⟨b, off + k * 4 + 2, none⟩ = _ := hc (k * 4 + 2) (by omega)
      have c3 : wr.cell? ⟨b, off + k * 4 + 3, none⟩ = _ := hc (k * 4 + 3) (by omega)
      have c4 : wr.cell? ⟨b', off' + k * 4, none⟩ = _ := hc' (k * 4) (by omega)
      have c5 : wr.cell? ⟨b', off' + k * 4 + 1, none⟩ = _ := hc' (k * 4 + 1) (by omega)
      have c6 : wr.cell? ⟨b', off' + k * 4 + 2, none⟩ = _ := hc' (k * 4 + 2) (by omega)
      have c7 : wr.cell? ⟨b', off' + k * 4 + 3, none⟩ = _ := hc' (k * 4 + 3) (by omega)
      clear f0 f1 hc hc'
      go_wp2_with fail
      (have Ec0 := ext_cell c0; have Ec1 := ext_cell c1; have Ec2 := ext_cell c2; have Ec3 := ext_cell c3; have Ec4 := ext_cell c4; have Ec5 := ext_cell c5; have Ec6 := ext_cell c6; have Ec7 := ext_cell c7; refine calm_lit (by kernel_rfl) (by kernel_rfl) ?_; (repeat (first | go_big_quiet_step ((go_at_call 33; exact calm_of (eqRatio_true _ _ _ _ _))) | simp only [TF])); refine wpQuiet_nil ?_; intro w1 hb; clear Ec0 Ec1 Ec2 Ec3 Ec4 Ec5 Ec6 Ec7; replace c0 := below_cell hb c0; replace c1 := below_cell hb c1; replace c2 := below_cell hb c2; replace c3 := below_cell hb c3; replace c4 := below_cell hb c4; replace c5 := below_cell hb c5; replace c6 := below_cell hb c6; replace c7 := below_cell hb c7; replace hB := below_step hB hb; clear hb)
      go_wp2
      go_roundw
      case rel => exact ⟨k + 1, by omega, by go_num, hB⟩
      case measure => simp [intOf]; omega
    · obtain rfl : k = n := by omega
      go_wp2
      go_ret
      exact ⟨rfl, hB⟩
end Go.Proofs.Ytfgkglbhbdfpfaa

