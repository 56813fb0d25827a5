/- The contracts of the two gcd functions and of FractionOk: each returns the greatest common divisor (the same bool frB), and leaves old memory alone. Numbers of at most 2^62 alone are asked. -/
import Derived.Test.YtfgkglbhbdfpfaaIn
import Derived.RegionTactic
import Derived.BigRegion
namespace Go.Proofs.Ytfgkglbhbdfpfaa
open Go.RowKit
set_option linter.unusedSimpArgs false
set_option linter.unusedVariables false
set_option maxHeartbeats 1000000

theorem gcd_step {A B : Nat} : Nat.gcd B (A % B) = Nat.gcd A B := by
  rw [Nat.gcd_comm A B, Nat.gcd_rec B A, Nat.gcd_comm]
theorem impl_gcd (a b : Int) (ha : -4611686018427387904 ≤ a ∧ a ≤ 4611686018427387904) (hb : -4611686018427387904 ≤ b ∧ b ≤ 4611686018427387904) (w : World) : Calls Try.prog 41 #[.int .i64 a, .int .i64 b] w fun e w' => e = .returned (.int .i64 (Nat.gcd a.natAbs b.natAbs : Nat)) ∧ Below w.heap.size w w' := by
  have hB := Below.refl w.heap.size w
  generalize hG : Nat.gcd a.natAbs b.natAbs = G
  have HG := Lib.hid hG; clear hG
  go_enter Try.func41, Try.ntmps41
  go_wp2_with fail
  all_goals
    go_loopw [0, 1] (fun x y wr => ∃ A B : Nat, A ≤ 4611686018427387904 ∧ B ≤ 4611686018427387904 ∧ x = .int .i64 A ∧ y = .int .i64 B ∧ Hid (Nat.gcd A B = G) ∧ Below w.heap.size w wr) (fun _ y _ => (intOf y).toNat)
    case atStart => exact ⟨a.natAbs, b.natAbs, by omega, by omega, by congr 1; omega, by congr 1; omega, HG, hB⟩
    case round =>
      clear hB
      obtain ⟨A, B, hA, hB2, rfl, rfl, hg, hB⟩ := hrel
      by_cases h0 : B = 0
      · have e1 := Lib.hid (show A = G from by rw [← hg.out, h0, Nat.gcd_zero_right])
        have hne : ((B : Int) != 0) = false := by simp [h0]
        clear h0
        go_wp2
        go_ret
        exact ⟨ret_int (by rw [e1.out]), hB⟩
      · have hne : ((B : Int) != 0) = true := by simp; omega
        have e1 : Int.tmod (A : Int) (B : Int) = ((A % B : Nat) : Int) := by rw [Int.ofNat_tmod]
        go_wp2_with fail
        (refine calm_lit (by kernel_rfl) (by kernel_rfl) ?_; (repeat (first | go_big_quiet_step (fail) | simp only [TF])); refine wpQuiet_nil ?_; intro w1 hb; replace hB := below_step hB hb; clear hb)
        have hlt : A % B < B := Nat.mod_lt _ (by omega)
        have hlt2 : A % B ≤ 4611686018427387904 := by omega
        clear e1
        go_wp2
        go_roundw
        case rel => exact ⟨B, A % B, hB2, hlt2, rfl, by push_cast; rfl, Lib.hid (gcd_step.trans hg.out), hB⟩
        case measure =>
          have e1 : ((A : Int) % (B : Int)).toNat = A % B := by rw [show (A : Int) % (B : Int) = ((A % B : Nat) : Int) from by push_cast; rfl]; exact Int.toNat_natCast _
          show ((A : Int) % (B : Int)).toNat < ((B : Nat) : Int).toNat
          rw [e1, Int.toNat_natCast]; exact hlt
theorem spec_gcd (a b : Int) (ha : -4611686018427387904 ≤ a ∧ a ≤ 4611686018427387904) (hb : -4611686018427387904 ≤ b ∧ b ≤ 4611686018427387904) (w : World) : Calls Try.prog 40 #[.int .i64 a, .int .i64 b] w fun e w' => e = .returned (.int .i64 (Nat.gcd a.natAbs b.natAbs : Nat)) ∧ Below w.heap.size w w' := by
  have hB := Below.refl w.heap.size w
  generalize hG : Nat.gcd a.natAbs b.natAbs = G
  have HG := Lib.hid hG; clear hG
  go_enter Try.func40, Try.ntmps40
  go_wp2_with fail
  all_goals
    go_loopw [0, 1] (fun x y wr => ∃ A B : Nat, A ≤ 4611686018427387904 ∧ B ≤ 4611686018427387904 ∧ x = .int .i64 A ∧ y = .int .i64 B ∧ Hid (Nat.gcd A B = G) ∧ Below w.heap.size w wr) (fun _ y _ => (intOf y).toNat)
    case atStart => exact ⟨a.natAbs, b.natAbs, by omega, by omega, by congr 1; omega, by congr 1; omega, HG, hB⟩
    case round =>
      clear hB
      obtain ⟨A, B, hA, hB2, rfl, rfl, hg, hB⟩ := hrel
      by_cases h0 : B = 0
      · have e1 := Lib.hid (show A = G from by rw [← hg.out, h0, Nat.gcd_zero_right])
        have hne : ¬ (0 : Int) < (B : Int) := by omega
        have hne2 : ¬ 0 < B := by omega
        clear h0
        go_wp2
        go_ret
        exact ⟨ret_int (by rw [e1.out]), hB⟩
      · have hne : (0 : Int) < (B : Int) := by omega
        have hne2 : 0 < B := by omega
        have hne3 : ((B : Int) != 0) = true := by simp; omega
        have hlt : A % B < B := Nat.mod_lt _ (by omega)
        have hlt2 : A % B ≤ 4611686018427387904 := by omega
        go_wp2_with fail
        (refine calm_lit (by kernel_rfl) (by kernel_rfl) ?_; (repeat (first | go_big_quiet_step (fail) | simp only [TF])); refine wpQuiet_nil ?_; intro w1 hb; replace hB := below_step hB hb; clear hb)
        go_wp2
        go_roundw
        case rel => exact ⟨B, A % B, hB2, hlt2, rfl, by push_cast; rfl, Lib.hid (gcd_step.trans hg.out), hB⟩
        case measure =>
          have e1 : ((A : Int) % (B : Int)).toNat = A % B := by rw [show (A : Int) % (B : Int) = ((A % B : Nat) : Int) from by push_cast; rfl]; exact Int.toNat_natCast _
          show ((A : Int) % (B : Int)).toNat < ((B : Nat) : Int).toNat
          rw [e1, Int.toNat_natCast]; exact hlt

/-- Is t / b a fraction in lowest terms, and not too great? -/
def frB (t b : Int) : Bool := inB t (-1000000) 1000000 && inB b 1 1000000 && decide (Nat.gcd t.natAbs b.natAbs = 1)
theorem frB_iff {t b : Int} : frB t b = true ↔ (-1000000 ≤ t ∧ t ≤ 1000000) ∧ (1 ≤ b ∧ b ≤ 1000000) ∧ Nat.gcd t.natAbs b.natAbs = 1 := by
  simp only [frB, Bool.and_eq_true, inB_iff, decide_eq_true_eq, and_assoc]
theorem impl_FracOk (t b : Int) (w : World) : Calls Try.prog 32 #[.agg #[.int .i64 t, .int .i64 b]] w fun e w' => e = .returned (.bool (frB t b)) ∧ Below w.heap.size w w' := by
  by_cases h1 : inB t (-1000000) 1000000 = true
  · by_cases h2 : inB b 1 1000000 = true
    · have b1 := inB_iff.1 h1
      have b2 := inB_iff.1 h2
      have hg := fun w => impl_gcd t b (by omega) (by omega) w
      have e0 : frB t b = (((Nat.gcd t.natAbs b.natAbs : Nat) : Int) == 1) := by
        rw [Bool.eq_iff_iff]; simp only [frB, h1, h2, Bool.true_and, decide_eq_true_eq, beq_iff_eq]; omega
      rw [e0]
      clear e0
      revert hg
      generalize Nat.gcd t.natAbs b.natAbs = g
      intro hg
      obtain ⟨W, hW⟩ : ∃ W, W = (w.alloc (.cells #[.int .i64 t, .int .i64 b] 32)) := ⟨_, rfl⟩
      have c0 : W.cell? ⟨w.heap.size, 0, none⟩ = some (.int .i64 t) := by rw [hW]; simp [go_sem]
      have c1 : W.cell? ⟨w.heap.size, 1, none⟩ = some (.int .i64 b) := by rw [hW]; simp [go_sem]
      have hB : Below w.heap.size w W := by rw [hW]; exact ((Below.refl _ _).alloc (by simp <;> omega) _)
      subst hW
      go_enter Try.func32, Try.ntmps32
      go_wp2_with (first | (go_at_call 31; (with_reducible refine (in_any _ _ _ _).mono ?_); rintro _ _ ⟨rfl, rfl⟩) | (go_at_call 41; (with_reducible refine (hg _).mono ?_); rintro _ w1 ⟨rfl, hb⟩; replace c0 := below_cell hb c0; replace c1 := below_cell hb c1; replace hB := below_step hB hb; clear hb))
      go_ret
      exact ⟨rfl, hB⟩
    · have e0 : frB t b = false := by simp [frB, h2]
      rw [e0]
      clear e0
      obtain ⟨W, hW⟩ : ∃ W, W = (w.alloc (.cells #[.int .i64 t, .int .i64 b] 32)) := ⟨_, rfl⟩
      have c0 : W.cell? ⟨w.heap.size, 0, none⟩ = some (.int .i64 t) := by rw [hW]; simp [go_sem]
      have c1 : W.cell? ⟨w.heap.size, 1, none⟩ = some (.int .i64 b) := by rw [hW]; simp [go_sem]
      have hB : Below w.heap.size w W := by rw [hW]; exact ((Below.refl _ _).alloc (by simp <;> omega) _)
      subst hW
      go_enter Try.func32, Try.ntmps32
      go_wp2_with (first | (go_at_call 31; (with_reducible refine (in_any _ _ _ _).mono ?_); rintro _ _ ⟨rfl, rfl⟩))
      go_ret
      exact ⟨rfl, hB⟩
  · have e0 : frB t b = false := by simp [frB, h1]
    rw [e0]
    clear e0
    obtain ⟨W, hW⟩ : ∃ W, W = (w.alloc (.cells #[.int .i64 t, .int .i64 b] 32)) := ⟨_, rfl⟩
    have c0 : W.cell? ⟨w.heap.size, 0, none⟩ = some (.int .i64 t) := by rw [hW]; simp [go_sem]
    have c1 : W.cell? ⟨w.heap.size, 1, none⟩ = some (.int .i64 b) := by rw [hW]; simp [go_sem]
    have hB : Below w.heap.size w W := by rw [hW]; exact ((Below.refl _ _).alloc (by simp <;> omega) _)
    subst hW
    go_enter Try.func32, Try.ntmps32
    go_wp2_with (first | (go_at_call 31; (with_reducible refine (in_any _ _ _ _).mono ?_); rintro _ _ ⟨rfl, rfl⟩))
    go_ret
    exact ⟨rfl, hB⟩
theorem spec_FracOk (t b : Int) (w : World) : Calls Try.prog 29 #[.agg #[.int .i64 t, .int .i64 b]] w fun e w' => e = .returned (.bool (frB t b)) ∧ Below w.heap.size w w' := by
  by_cases h1 : inB t (-1000000) 1000000 = true
  · by_cases h2 : inB b 1 1000000 = true
    · have b1 := inB_iff.1 h1
      have b2 := inB_iff.1 h2
      have hg := fun w => spec_gcd t b (by omega) (by omega) w
      have e0 : frB t b = (((Nat.gcd t.natAbs b.natAbs : Nat) : Int) == 1) := by
        rw [Bool.eq_iff_iff]; simp only [frB, h1, h2, Bool.true_and, decide_eq_true_eq, beq_iff_eq]; omega
      rw [e0]
      clear e0
      revert hg
      generalize Nat.gcd t.natAbs b.natAbs = g
      intro hg
      obtain ⟨W, hW⟩ : ∃ W, W = (w.alloc (.cells #[.int .i64 t, .int .i64 b] 32)) := ⟨_, rfl⟩
      have c0 : W.cell? ⟨w.heap.size, 0, none⟩ = some (.int .i64 t) := by rw [hW]; simp [go_sem]
      have c1 : W.cell? ⟨w.heap.size, 1, none⟩ = some (.int .i64 b) := by rw [hW]; simp [go_sem]
      have hB : Below w.heap.size w W := by rw [hW]; exact ((Below.refl _ _).alloc (by simp <;> omega) _)
      subst hW
      go_enter Try.func29, Try.ntmps29
      go_wp2_with (first | (go_at_call 28; (with_reducible refine (l01In_any _ _ _ _).mono ?_); rintro _ _ ⟨rfl, rfl⟩) | (go_at_call 40; (with_reducible refine (hg _).mono ?_); rintro _ w1 ⟨rfl, hb⟩; replace c0 := below_cell hb c0; replace c1 := below_cell hb c1; replace hB := below_step hB hb; clear hb))
      go_ret
      exact ⟨rfl, hB⟩
    · have e0 : frB t b = false := by simp [frB, h2]
      rw [e0]
      clear e0
      obtain ⟨W, hW⟩ : ∃ W, W = (w.alloc (.cells #[.int .i64 t, .int .i64 b] 32)) := ⟨_, rfl⟩
      have c0 : W.cell? ⟨w.heap.size, 0, none⟩ = some (.int .i64 t) := by rw [hW]; simp [go_sem]
      have c1 : W.cell? ⟨w.heap.size, 1, none⟩ = some (.int .i64 b) := by rw [hW]; simp [go_sem]
      have hB : Below w.heap.size w W := by rw [hW]; exact ((Below.refl _ _).alloc (by simp <;> omega) _)
      subst hW
      go_enter Try.func29, Try.ntmps29
      go_wp2_with (first | (go_at_call 28; (with_reducible refine (l01In_any _ _ _ _).mono ?_); rintro _ _ ⟨rfl, rfl⟩))
      go_ret
      exact ⟨rfl, hB⟩
  · have e0 : frB t b = false := by simp [frB, h1]
    rw [e0]
    clear e0
    obtain ⟨W, hW⟩ : ∃ W, W = (w.alloc (.cells #[.int .i64 t, .int .i64 b] 32)) := ⟨_, rfl⟩
    have c0 : W.cell? ⟨w.heap.size, 0, none⟩ = some (.int .i64 t) := by rw [hW]; simp [go_sem]
    have c1 : W.cell? ⟨w.heap.size, 1, none⟩ = some (.int .i64 b) := by rw [hW]; simp [go_sem]
    have hB : Below w.heap.size w W := by rw [hW]; exact ((Below.refl _ _).alloc (by simp <;> omega) _)
    subst hW
    go_enter Try.func29, Try.ntmps29
    go_wp2_with (first | (go_at_call 28; (with_reducible refine (l01In_any _ _ _ _).mono ?_); rintro _ _ ⟨rfl, rfl⟩))
    go_ret
    exact ⟨rfl, hB⟩
end Go.Proofs.Ytfgkglbhbdfpfaa
