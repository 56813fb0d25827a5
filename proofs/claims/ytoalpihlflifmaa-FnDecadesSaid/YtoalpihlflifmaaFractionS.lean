/- The helpers of the laws over slices of Fraction: the copy, the size, the comparison, the marking: each computes what its name says and leaves old memory alone. No conditions but a length of at most 2^20. -/
import Derived.Test.YtoalpihlflifmaaSlc
namespace Go.Proofs.Ytoalpihlflifmaa
open Go.RowKit
set_option linter.unusedSimpArgs false
set_option linter.unusedVariables false
set_option maxHeartbeats 1000000
theorem infoFraction : (Try.prog.info? 25).map (fun i => (i.zero, i.size, i.bytes)) = some (some (.agg #[.int .i64 0, .int .i64 0]), 2, 16) := by kernel_rfl
theorem toFraction_any (x0 x1 : Int) (w : World) : Calls Try.prog 21 #[.agg #[.int .i64 x0, .int .i64 x1]] w fun e w' => e = .returned (.agg #[.int .i64 x0, .int .i64 x1]) ∧ Below w.heap.size w w' := by
  go_enter Try.func21, Try.ntmps21
  go_wp2
  exact bodyPost_ret (v := .agg #[.int .i64 x0, .int .i64 x1]) (by simp [results, Try.results21, go_sem]) rfl ⟨rfl, by (repeat (first | exact Below.refl _ _ | assumption | (refine Below.drew ?_) | (refine below_alloc ?_ _) | (refine Below.setCell ?_ (by first | (simp; done) | (simp; omega) | omega | (have hq := hB.size; (try simp at hq ⊢); omega)) _) | (refine Below.alloc ?_ (by first | (simp; done) | (simp; omega) | omega | (have hq := hB.size; (try simp at hq ⊢); omega)) _) | (refine below_step ?_ (by assumption))))⟩

theorem szFractionS_any (A : Option Addr) (n c : Nat) (hn : n ≤ maxLen) (w : World) : Calls Try.prog 15 #[.slice A n c, .int .i64 1048576] w fun e w' => e = .returned (.int .i64 (szB n)) ∧ w = w' := by
  unfold maxLen at hn
  by_cases h : n ≤ 1048576
  · go_enter Try.func15, Try.ntmps15
    go_wp2
    go_ret
    exact ⟨ret_int ((szB_yes h).symm), rfl⟩
  · go_enter Try.func15, Try.ntmps15
    go_wp2
    go_ret
    exact ⟨ret_int ((szB_no h).symm), rfl⟩

theorem toFractionS_any (A : Option Addr) (n c : Nat) (v : Nat → Int) (w : World) (hn : n ≤ 1048576) (f0 : Fl w A n 2 v) : Calls Try.prog 17 #[.slice A n c] w (Made w 25 n 2 v) := by
  have hmk := fun W => run_make_rowN (P := Try.prog) 35 25 _ _ _ Try.underlying35 infoFraction .i64 .i64 n (by omega) (by omega) W
  go_enter Try.func17, Try.ntmps17
  go_wp2_with fail
  go_loopw [4] (fun x wr => ∃ k : Nat, k ≤ n ∧ x = .int .i64 k ∧ Own wr w.heap.size 25 (n * 2) (upto v (k * 2)) ∧ Below w.heap.size w wr) (fun x _ => n - (intOf x).toNat)
  case atStart => exact ⟨0, Nat.zero_le _, rfl, (own_madeN (by decide) (by intro i hi; match i, hi with | 0, _ => rfl | 1, _ => rfl)).congr (fun j _ => by simp [upto]), by (repeat (first | exact Below.refl _ _ | assumption | (refine Below.drew ?_) | (refine below_alloc ?_ _) | (refine Below.setCell ?_ (by first | (simp; done) | (simp; omega) | omega | (have hq := hB.size; (try simp at hq ⊢); omega)) _) | (refine Below.alloc ?_ (by first | (simp; done) | (simp; omega) | omega | (have hq := hB.size; (try simp at hq ⊢); omega)) _) | (refine below_step ?_ (by assumption))))⟩
  case round =>
    obtain ⟨k, hk, rfl, o0, hB⟩ := hrel
    by_cases hkn : k < n
    · obtain ⟨b, off, rfl, hc⟩ := (f0.below hB) (by omega)
      have c0 : wr.cell? ⟨b, off + k * 2, none⟩ = _ := hc (k * 2) (by omega)
      have c1 : wr.cell? ⟨b, off + k * 2 + 1, none⟩ = _ := hc (k * 2 + 1) (by omega)
      have c2 : wr.cell? ⟨w.heap.size, k * 2, none⟩ = some (.int .i64 0) := (o0.cell (j := k * 2) (by omega)).trans (by simp only [upto]; rw [if_neg (by omega)])
      have z2 := o0.frozen (k * 2)
      have c3 : wr.cell? ⟨w.heap.size, k * 2 + 1, none⟩ = some (.int .i64 0) := (o0.cell (j := k * 2 + 1) (by omega)).trans (by simp only [upto]; rw [if_neg (by omega)])
      have z3 := o0.frozen (k * 2 + 1)
      clear f0 hc
      have hz := hB.size
      go_wp2_with (go_at_call 21; (with_reducible refine (toFraction_any _ _ _).mono ?_); rintro _ w1 ⟨rfl, hb⟩; replace z2 := below_frozen hb (lt_of_cell c2) z2; replace z3 := below_frozen hb (lt_of_cell c3) z3; replace c0 := below_cell hb c0; replace c1 := below_cell hb c1; replace c2 := below_cell hb c2; replace c3 := below_cell hb c3; replace o0 := Own.below o0 hb; replace hB := below_step hB hb; clear hb)
      go_roundw
      case rel =>
        refine ⟨k + 1, by omega, by go_num, Own.congr (((o0.set (k * 2) (v (k * 2))).set (k * 2 + 1) (v (k * 2 + 1)))) (fun j hj => ?_), by (repeat (first | exact Below.refl _ _ | assumption | (refine Below.drew ?_) | (refine below_alloc ?_ _) | (refine Below.setCell ?_ (by first | (simp; done) | (simp; omega) | omega | (have hq := hB.size; (try simp at hq ⊢); omega)) _) | (refine Below.alloc ?_ (by first | (simp; done) | (simp; omega) | omega | (have hq := hB.size; (try simp at hq ⊢); omega)) _) | (refine below_step ?_ (by assumption))))⟩
        simp only [upto]
        repeat' split
        all_goals first | rfl | (exfalso; omega) | (congr 1; omega)
      case measure => simp [intOf]; omega
    · obtain rfl : k = n := by omega
      go_wp2
      go_ret
      exact ⟨w.heap.size, rfl, Nat.le_refl _, o0.congr (fun j hj => by simp only [upto]; rw [if_pos hj]), hB⟩

theorem eqFraction_true (x0 x1 : Int) (w : World) : Calls Try.prog 14 #[.agg #[.int .i64 x0, .int .i64 x1], .agg #[.int .i64 x0, .int .i64 x1]] w fun e w' => e = .returned (.bool true) ∧ Below w.heap.size w w' := by
  go_enter Try.func14, Try.ntmps14
  go_wp2
  all_goals go_ret
  all_goals exact ⟨rfl, by (repeat (first | exact Below.refl _ _ | assumption | (refine Below.drew ?_) | (refine below_alloc ?_ _) | (refine Below.setCell ?_ (by first | (simp; done) | (simp; omega) | omega | (have hq := hB.size; (try simp at hq ⊢); omega)) _) | (refine Below.alloc ?_ (by first | (simp; done) | (simp; omega) | omega | (have hq := hB.size; (try simp at hq ⊢); omega)) _) | (refine below_step ?_ (by assumption))))⟩

theorem eqFractionS_true (A A' : Option Addr) (n c c' : Nat) (v : Nat → Int) (w : World) (hn : n ≤ 1048576) (f0 : Fl w A n 2 v) (f1 : Fl w A' n 2 v) : Calls Try.prog 19 #[.slice A n c, .slice A' n c'] w fun e w' => e = .returned (.bool true) ∧ Below w.heap.size w w' := by
  go_enter Try.func19, Try.ntmps19
  go_wp2_with fail
  go_loopw [5] (fun x wr => ∃ k : Nat, k ≤ n ∧ x = .int .i64 k ∧ Below w.heap.size w wr) (fun x _ => n - (intOf x).toNat)
  case atStart => exact ⟨0, Nat.zero_le _, rfl, by (repeat (first | exact Below.refl _ _ | assumption | (refine Below.drew ?_) | (refine below_alloc ?_ _) | (refine Below.setCell ?_ (by first | (simp; done) | (simp; omega) | omega | (have hq := hB.size; (try simp at hq ⊢); omega)) _) | (refine Below.alloc ?_ (by first | (simp; done) | (simp; omega) | omega | (have hq := hB.size; (try simp at hq ⊢); omega)) _) | (refine below_step ?_ (by assumption))))⟩
  case round =>
    obtain ⟨k, hk, rfl, hB⟩ := hrel
    by_cases hkn : k < n
    · obtain ⟨b, off, rfl, hc⟩ := (f0.below hB) (by omega)
      obtain ⟨b', off', rfl, hc'⟩ := (f1.below hB) (by omega)
      have c0 : wr.cell? ⟨b, off + k * 2, none⟩ = _ := hc (k * 2) (by omega)
      have c1 : wr.cell? ⟨b, off + k * 2 + 1, none⟩ = _ := hc (k * 2 + 1) (by omega)
      have c2 : wr.cell? ⟨b', off' + k * 2, none⟩ = _ := hc' (k * 2) (by omega)
      have c3 : wr.cell? ⟨b', off' + k * 2 + 1, none⟩ = _ := hc' (k * 2 + 1) (by omega)
      clear f0 f1 hc hc'
      go_wp2_with fail
      (have Ec0 := ext_cell c0; have Ec1 := ext_cell c1; have Ec2 := ext_cell c2; have Ec3 := ext_cell c3; refine calm_lit (by kernel_rfl) (by kernel_rfl) ?_; (repeat (first | go_big_quiet_step ((go_at_call 14; exact calm_of (eqFraction_true _ _ _))) | simp only [TF])); refine wpQuiet_nil ?_; intro w1 hb; clear Ec0 Ec1 Ec2 Ec3; replace c0 := below_cell hb c0; replace c1 := below_cell hb c1; replace c2 := below_cell hb c2; replace c3 := below_cell hb c3; replace hB := below_step hB hb; clear hb)
      go_wp2
      go_roundw
      case rel => exact ⟨k + 1, by omega, by go_num, hB⟩
      case measure => simp [intOf]; omega
    · obtain rfl : k = n := by omega
      go_wp2
      go_ret
      exact ⟨rfl, hB⟩
theorem markFractionS_any (g T n c : Nat) (v : Nat → Int) (w : World) (hn : n ≤ 1048576) (o0 : Own w g T (n * 2) v) : Calls Try.prog 25 #[.slice (some ⟨g, 0, none⟩) n c, .int .i64 1] w
    fun e w' => e = .returned (.int .i64 (n * 2 + 1)) ∧ Own w' g T (n * 2) (fun j => (j : Int) + 1) ∧ w.grownBy w' (some g) := by
  go_enter Try.func25, Try.ntmps25
  go_wp2_with fail
  go_loopw [1, 5] (fun a x wr => ∃ k : Nat, k ≤ n ∧ a = .int .i64 ((k * 2 + 1 : Nat) : Int) ∧ x = .int .i64 k ∧ Own wr g T (n * 2) (fun j => if j < k * 2 then (j : Int) + 1 else v j) ∧ w.grownBy wr (some g)) (fun _ x _ => n - (intOf x).toNat)
  case atStart => exact ⟨0, Nat.zero_le _, rfl, rfl, o0.congr (fun j _ => by simp), ⟨rfl, rfl, rfl, Nat.le_refl _, fun _ _ _ => rfl⟩⟩
  case round =>
    obtain ⟨k, hk, rfl, rfl, o0, hB⟩ := hrel
    have HB := Lib.hid hB; clear hB
    by_cases hkn : k < n
    ·
      have c0 : wr.cell? ⟨g, k * 2, none⟩ = some (.int .i64 (v (k * 2))) := (o0.cell (j := k * 2) (by omega)).trans (by rw [if_neg (by omega)])
      have z0 := o0.frozen (k * 2)
      have c1 : wr.cell? ⟨g, k * 2 + 1, none⟩ = some (.int .i64 (v (k * 2 + 1))) := (o0.cell (j := k * 2 + 1) (by omega)).trans (by rw [if_neg (by omega)])
      have z1 := o0.frozen (k * 2 + 1)
      go_wp2
      go_roundw
      case rel =>
        refine ⟨k + 1, by omega, by go_num, by go_num, Own.congr ((o0.set (k * 2) (((k * 2 : Nat) : Int) + 1)).set (k * 2 + 1) (((k * 2 + 1 : Nat) : Int) + 1)) (fun j hj => ?_), ?_⟩
        · repeat' split
          all_goals first | rfl | (exfalso; omega) | (push_cast; omega)
        · have hh := HB.out
          exact (only_set (only_set hh _ _) _ _)
      case measure => simp [intOf]; omega
    · obtain rfl : k = n := by omega
      go_wp2
      go_ret
      exact ⟨ret_int (by push_cast; rfl), o0.congr (fun j hj => by rw [if_pos hj]), HB.out⟩
end Go.Proofs.Ytoalpihlflifmaa

