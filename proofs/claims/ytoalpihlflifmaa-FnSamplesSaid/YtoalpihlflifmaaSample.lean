/- The contracts of the functions on plans: for every plan, number and world, the program's function and the reference's return the same value of the plain functions planB, chooseB, countB, greatB, and leave old memory alone. No conditions. -/
import Derived.Test.YtoalpihlflifmaaIn
namespace Go.Proofs.Ytoalpihlflifmaa
open Go.RowKit
set_option linter.unusedSimpArgs false
set_option linter.unusedVariables false
set_option maxHeartbeats 1000000
def planB (a b c : Int) : Bool := inB a 1 30 && inB b 1 a && inB c 0 b
theorem planB_inv {a b c : Int} (h : planB a b c = true) : 1 ≤ a ∧ a ≤ 30 ∧ 1 ≤ b ∧ b ≤ a ∧ 0 ≤ c ∧ c ≤ b := by
  simp only [planB, Bool.and_eq_true, inB_iff] at h; omega

def chN (m : Nat) : Nat → Nat
  | 0 => 1
  | i + 1 => chN m i * (m + (i + 1)) / (i + 1)
theorem chN_all : ((List.range 31).all fun m => (List.range (31 - m)).all fun i => decide (chN m i ≤ 155117520)) = true := by decide +kernel
theorem chN_bd (m i : Nat) (h : m + i ≤ 30) : chN m i ≤ 155117520 := by
  have := chN_all
  rw [List.all_eq_true] at this
  have h1 := this m (by simp; omega)
  rw [List.all_eq_true] at h1
  exact of_decide_eq_true (h1 i (by simp; omega))
def chooseB (n k : Int) : Int := if inB n 0 30 = true ∧ inB k 0 n = true then (chN (n - k).toNat k.toNat : Int) else 0
theorem chooseB_bd (n k : Int) : 0 ≤ chooseB n k ∧ chooseB n k ≤ 155117520 := by
  unfold chooseB
  split
  · rename_i h
    obtain ⟨h1, h2⟩ := h
    rw [inB_iff] at h1 h2
    have := chN_bd (n - k).toNat k.toNat (by omega)
    omega
  · omega
theorem chooseB_no {n k : Int} (h : ¬ (inB n 0 30 = true ∧ inB k 0 n = true)) : chooseB n k = 0 := by unfold chooseB; rw [if_neg h]
theorem ch_wrap (m i : Nat) (h : m + i + 1 ≤ 30) : wrap64 ((wrap64 ((chN m i : Int) * ((m : Int) + ((i : Int) + 1)))).tdiv ((i : Int) + 1)) = ((chN m (i + 1) : Nat) : Int) := by
  have q1 := chN_bd m i (by omega)
  have q2 : chN m i * (m + (i + 1)) ≤ 155117520 * 30 := Nat.mul_le_mul q1 (by omega)
  have e1 : (chN m i : Int) * ((m : Int) + ((i : Int) + 1)) = ((chN m i * (m + (i + 1)) : Nat) : Int) := by push_cast; rfl
  have q3 := chN_bd m (i + 1) (by omega)
  have w1 : wrap64 ((chN m i * (m + (i + 1)) : Nat) : Int) = ((chN m i * (m + (i + 1)) : Nat) : Int) := IntWalk.wrap64_in _ ⟨by omega, by omega⟩
  have e2 : ((chN m i * (m + (i + 1)) : Nat) : Int).tdiv ((i : Int) + 1) = ((chN m (i + 1) : Nat) : Int) := by
    rw [show ((i : Int) + 1) = ((i + 1 : Nat) : Int) from by push_cast; rfl]
    rfl
  rw [e1, w1, e2, IntWalk.wrap64_in _ ⟨by omega, by omega⟩]
theorem chooseB_in (m K : Nat) (h1 : inB ((m : Int) + K) 0 30 = true) (h2 : inB (K : Int) 0 ((m : Int) + K) = true) : chooseB ((m : Int) + K) K = (chN m K : Int) := by
  unfold chooseB; rw [if_pos ⟨h1, h2⟩]
  have e1 : ((m : Int) + K - K).toNat = m := by omega
  have e2 : (K : Int).toNat = K := by omega
  rw [e1, e2]

theorem spec_ChooseOf (n k : Int) (w : World) : Calls Try.prog 47 #[.int .i64 n, .int .i64 k] w fun e w' => e = .returned (.int .i64 (chooseB n k)) ∧ Below w.heap.size w w' := by
  by_cases h1 : inB n 0 30 = true
  · by_cases h2 : inB k 0 n = true
    · obtain ⟨b1, b2⟩ := inB_iff.1 h1
      obtain ⟨b3, b4⟩ := inB_iff.1 h2
      obtain ⟨K, rfl⟩ : ∃ K : Nat, k = K := ⟨k.toNat, by omega⟩
      obtain ⟨m, rfl⟩ : ∃ m : Nat, n = m + K := ⟨(n - K).toNat, by omega⟩
      go_enter Try.func47, Try.ntmps47
      go_wp2_with (go_at_call 66; (with_reducible refine (l01In_any _ _ _ _).mono ?_); rintro _ _ ⟨rfl, rfl⟩)
      go_loop [5, 6] (fun a b => ∃ i : Nat, i ≤ K ∧ a = .int .i64 (chN m i : Int) ∧ b = .int .i64 ((i : Int) + 1)) (fun _ b => K + 1 - (intOf b).toNat)
      case atStart => exact ⟨0, Nat.zero_le _, rfl, rfl⟩
      case round =>
        obtain ⟨i, hi, rfl, rfl⟩ := hrel
        by_cases hik : i < K
        · have q1 := chN_bd m i (by omega)
          go_wp2
          go_round
          case rel => exact ⟨i + 1, by omega, by rw [ch_wrap m i (by omega)], by go_num⟩
          case measure => simp [intOf]; omega
        · obtain rfl : i = K := by omega
          go_wp2
          go_ret
          exact ⟨ret_int (chooseB_in m _ h1 h2).symm, Below.refl _ _⟩
    · go_enter Try.func47, Try.ntmps47
      go_wp2_with (go_at_call 66; (with_reducible refine (l01In_any _ _ _ _).mono ?_); rintro _ _ ⟨rfl, rfl⟩)
      go_ret
      exact ⟨ret_int (by rw [chooseB_no (by simp [*])]), Below.refl _ _⟩
  · go_enter Try.func47, Try.ntmps47
    go_wp2_with (go_at_call 66; (with_reducible refine (l01In_any _ _ _ _).mono ?_); rintro _ _ ⟨rfl, rfl⟩)
    go_ret
    exact ⟨ret_int (by rw [chooseB_no (by simp [*])]), Below.refl _ _⟩
theorem impl_ChooseOf (n k : Int) (w : World) : Calls Try.prog 39 #[.int .i64 n, .int .i64 k] w fun e w' => e = .returned (.int .i64 (chooseB n k)) ∧ Below w.heap.size w w' := by
  by_cases h1 : inB n 0 30 = true
  · by_cases h2 : inB k 0 n = true
    · obtain ⟨b1, b2⟩ := inB_iff.1 h1
      obtain ⟨b3, b4⟩ := inB_iff.1 h2
      obtain ⟨K, rfl⟩ : ∃ K : Nat, k = K := ⟨k.toNat, by omega⟩
      obtain ⟨m, rfl⟩ : ∃ m : Nat, n = m + K := ⟨(n - K).toNat, by omega⟩
      go_enter Try.func39, Try.ntmps39
      go_wp2_with (go_at_call 63; (with_reducible refine (in_any _ _ _ _).mono ?_); rintro _ _ ⟨rfl, rfl⟩)
      go_loop [5, 6] (fun a b => ∃ i : Nat, i ≤ K ∧ a = .int .i64 (chN m i : Int) ∧ b = .int .i64 ((i : Int) + 1)) (fun _ b => K + 1 - (intOf b).toNat)
      case atStart => exact ⟨0, Nat.zero_le _, rfl, rfl⟩
      case round =>
        obtain ⟨i, hi, rfl, rfl⟩ := hrel
        by_cases hik : i < K
        · have q1 := chN_bd m i (by omega)
          go_wp2
          go_round
          case rel => exact ⟨i + 1, by omega, by rw [ch_wrap m i (by omega)], by go_num⟩
          case measure => simp [intOf]; omega
        · obtain rfl : i = K := by omega
          go_wp2
          go_ret
          exact ⟨ret_int (chooseB_in m _ h1 h2).symm, Below.refl _ _⟩
    · go_enter Try.func39, Try.ntmps39
      go_wp2_with (go_at_call 63; (with_reducible refine (in_any _ _ _ _).mono ?_); rintro _ _ ⟨rfl, rfl⟩)
      go_ret
      exact ⟨ret_int (by rw [chooseB_no (by simp [*])]), Below.refl _ _⟩
  · go_enter Try.func39, Try.ntmps39
    go_wp2_with (go_at_call 63; (with_reducible refine (in_any _ _ _ _).mono ?_); rintro _ _ ⟨rfl, rfl⟩)
    go_ret
    exact ⟨ret_int (by rw [chooseB_no (by simp [*])]), Below.refl _ _⟩

theorem spec_PlanOk (a b c : Int) (w : World) : Calls Try.prog 65 #[.agg #[.int .i64 a, .int .i64 b, .int .i64 c]] w fun e w' => e = .returned (.bool (planB a b c)) ∧ Below w.heap.size w w' := by
  go_enter Try.func65, Try.ntmps65
  go_wp2_with (go_at_call 66; (with_reducible refine (l01In_any _ _ _ _).mono ?_); rintro _ _ ⟨rfl, rfl⟩)
  all_goals go_ret
  all_goals exact ⟨ret_bool (by simp [planB, *]), by (repeat (first | exact Below.refl _ _ | assumption | (refine Below.drew ?_) | (refine below_alloc ?_ _) | (refine Below.setCell ?_ (by first | (simp; done) | (simp; omega) | omega | (have hq := hB.size; (try simp at hq ⊢); omega)) _) | (refine Below.alloc ?_ (by first | (simp; done) | (simp; omega) | omega | (have hq := hB.size; (try simp at hq ⊢); omega)) _) | (refine below_step ?_ (by assumption))))⟩
theorem impl_PlanOk (a b c : Int) (w : World) : Calls Try.prog 44 #[.agg #[.int .i64 a, .int .i64 b, .int .i64 c]] w fun e w' => e = .returned (.bool (planB a b c)) ∧ Below w.heap.size w w' := by
  go_enter Try.func44, Try.ntmps44
  go_wp2_with (go_at_call 63; (with_reducible refine (in_any _ _ _ _).mono ?_); rintro _ _ ⟨rfl, rfl⟩)
  all_goals go_ret
  all_goals exact ⟨ret_bool (by simp [planB, *]), by (repeat (first | exact Below.refl _ _ | assumption | (refine Below.drew ?_) | (refine below_alloc ?_ _) | (refine Below.setCell ?_ (by first | (simp; done) | (simp; omega) | omega | (have hq := hB.size; (try simp at hq ⊢); omega)) _) | (refine Below.alloc ?_ (by first | (simp; done) | (simp; omega) | omega | (have hq := hB.size; (try simp at hq ⊢); omega)) _) | (refine below_step ?_ (by assumption))))⟩

/-- The sum of the first j products. -/
def countN (a b bad : Int) : Nat → Int
  | 0 => 0
  | j + 1 => countN a b bad j + chooseB bad j * chooseB (a - bad) (b - j)
theorem mul_bd {x y : Int} (hx : 0 ≤ x ∧ x ≤ 155117520) (hy : 0 ≤ y ∧ y ≤ 155117520) : 0 ≤ x * y ∧ x * y ≤ 24061445010950400 := by
  refine ⟨Int.mul_nonneg hx.1 hy.1, ?_⟩
  have h1 : x * y ≤ x * 155117520 := Int.mul_le_mul_of_nonneg_left hy.2 hx.1
  have h2 : x * 155117520 ≤ 155117520 * 155117520 := Int.mul_le_mul_of_nonneg_right hx.2 (by decide)
  omega
theorem countN_bd (a b bad : Int) (j : Nat) : 0 ≤ countN a b bad j ∧ countN a b bad j ≤ 24061445010950400 * j := by
  induction j with
  | zero => simp [countN]
  | succ j ih =>
    have h := mul_bd (chooseB_bd bad j) (chooseB_bd (a - bad) (b - j))
    simp only [countN]
    omega
def countB (a b c bad : Int) : Int := if planB a b c = true ∧ inB bad 0 a = true then countN a b bad (c.toNat + 1) else -1

theorem spec_CountAccepting (a b c bad : Int) (w : World) : Calls Try.prog 45 #[.agg #[.int .i64 a, .int .i64 b, .int .i64 c], .int .i64 bad] w fun e w' => e = .returned (.int .i64 (countB a b c bad)) ∧ Below w.heap.size w w' := by
  obtain ⟨W, hW⟩ : ∃ W, W = (w.alloc (.cells #[.int .i64 a, .int .i64 b, .int .i64 c] 28)) := ⟨_, rfl⟩
  have c0 : W.cell? ⟨w.heap.size, 0, none⟩ = some (.int .i64 a) := by rw [hW]; simp [go_sem]
  have c1 : W.cell? ⟨w.heap.size, 1, none⟩ = some (.int .i64 b) := by rw [hW]; simp [go_sem]
  have c2 : W.cell? ⟨w.heap.size, 2, none⟩ = some (.int .i64 c) := by rw [hW]; simp [go_sem]
  have hB : Below w.heap.size w W := by rw [hW]; exact ((Below.refl _ _).alloc (by simp <;> omega) _)
  subst hW
  by_cases h1 : planB a b c = true
  · by_cases h2 : inB bad 0 a = true
    · obtain ⟨p1, p2, p3, p4, p5, p6⟩ := planB_inv h1
      obtain ⟨p7, p8⟩ := inB_iff.1 h2
      go_enter Try.func45, Try.ntmps45
      go_wp2_with (first | (go_at_call 65; (with_reducible refine (spec_PlanOk _ _ _ _).mono ?_); rintro _ w1 ⟨rfl, hb⟩; replace c0 := below_cell hb c0; replace c1 := below_cell hb c1; replace c2 := below_cell hb c2; replace hB := below_step hB hb; clear hb) | (go_at_call 66; (with_reducible refine (l01In_any _ _ _ _).mono ?_); rintro _ _ ⟨rfl, rfl⟩))
      obtain ⟨C, rfl⟩ : ∃ C : Nat, c = C := ⟨c.toNat, by omega⟩
      go_loopw [5, 6] (fun x y wr => ∃ j : Nat, j ≤ C + 1 ∧ x = .int .i64 (countN a b bad j) ∧ y = .int .i64 j ∧ wr.cell? ⟨w.heap.size, 0, none⟩ = some (.int .i64 a) ∧ wr.cell? ⟨w.heap.size, 1, none⟩ = some (.int .i64 b) ∧ wr.cell? ⟨w.heap.size, 2, none⟩ = some (.int .i64 C) ∧ Below w.heap.size w wr) (fun _ y _ => C + 1 - (intOf y).toNat)
      case atStart => exact ⟨0, by omega, rfl, rfl, c0, c1, c2, hB⟩
      case round =>
        obtain ⟨j, hj, rfl, rfl, c0, c1, c2, hB⟩ := hrel
        by_cases hjc : j ≤ C
        · have q1 := countN_bd a b bad j
          have q2 := mul_bd (chooseB_bd bad j) (chooseB_bd (a - bad) (b - j))
          go_wp2_with fail
          (have Ec0 := ext_cell c0; have Ec1 := ext_cell c1; have Ec2 := ext_cell c2; refine calm_lit (by kernel_rfl) (by kernel_rfl) ?_; (repeat (first | go_big_quiet_step ((go_at_call 47; exact calm_of (spec_ChooseOf _ _ _))) | simp only [TF])); refine wpQuiet_nil ?_; intro w1 hb; clear Ec0 Ec1 Ec2; replace c0 := below_cell hb c0; replace c1 := below_cell hb c1; replace c2 := below_cell hb c2; replace hB := below_step hB hb; clear hb)
          go_wp2
          go_roundw
          case rel => exact ⟨j + 1, by omega, by simp [countN], by go_num, c0, c1, c2, hB⟩
          case measure => simp [intOf]; omega
        · obtain rfl : j = C + 1 := by omega
          go_wp2
          go_ret
          exact ⟨ret_int (by simp [countB, *]), by (repeat (first | exact Below.refl _ _ | assumption | (refine Below.drew ?_) | (refine below_alloc ?_ _) | (refine Below.setCell ?_ (by first | (simp; done) | (simp; omega) | omega | (have hq := hB.size; (try simp at hq ⊢); omega)) _) | (refine Below.alloc ?_ (by first | (simp; done) | (simp; omega) | omega | (have hq := hB.size; (try simp at hq ⊢); omega)) _) | (refine below_step ?_ (by assumption))))⟩
    · go_enter Try.func45, Try.ntmps45
      go_wp2_with (first | (go_at_call 65; (with_reducible refine (spec_PlanOk _ _ _ _).mono ?_); rintro _ w1 ⟨rfl, hb⟩; replace c0 := below_cell hb c0; replace c1 := below_cell hb c1; replace c2 := below_cell hb c2; replace hB := below_step hB hb; clear hb) | (go_at_call 66; (with_reducible refine (l01In_any _ _ _ _).mono ?_); rintro _ _ ⟨rfl, rfl⟩))
      go_ret
      exact ⟨ret_int (by simp [countB, *]), by (repeat (first | exact Below.refl _ _ | assumption | (refine Below.drew ?_) | (refine below_alloc ?_ _) | (refine Below.setCell ?_ (by first | (simp; done) | (simp; omega) | omega | (have hq := hB.size; (try simp at hq ⊢); omega)) _) | (refine Below.alloc ?_ (by first | (simp; done) | (simp; omega) | omega | (have hq := hB.size; (try simp at hq ⊢); omega)) _) | (refine below_step ?_ (by assumption))))⟩
  · go_enter Try.func45, Try.ntmps45
    go_wp2_with (first | (go_at_call 65; (with_reducible refine (spec_PlanOk _ _ _ _).mono ?_); rintro _ w1 ⟨rfl, hb⟩; replace c0 := below_cell hb c0; replace c1 := below_cell hb c1; replace c2 := below_cell hb c2; replace hB := below_step hB hb; clear hb) | (go_at_call 66; (with_reducible refine (l01In_any _ _ _ _).mono ?_); rintro _ _ ⟨rfl, rfl⟩))
    go_ret
    exact ⟨ret_int (by simp [countB, *]), by (repeat (first | exact Below.refl _ _ | assumption | (refine Below.drew ?_) | (refine below_alloc ?_ _) | (refine Below.setCell ?_ (by first | (simp; done) | (simp; omega) | omega | (have hq := hB.size; (try simp at hq ⊢); omega)) _) | (refine Below.alloc ?_ (by first | (simp; done) | (simp; omega) | omega | (have hq := hB.size; (try simp at hq ⊢); omega)) _) | (refine below_step ?_ (by assumption))))⟩
theorem impl_CountAccepting (a b c bad : Int) (w : World) : Calls Try.prog 41 #[.agg #[.int .i64 a, .int .i64 b, .int .i64 c], .int .i64 bad] w fun e w' => e = .returned (.int .i64 (countB a b c bad)) ∧ Below w.heap.size w w' := by
  obtain ⟨W, hW⟩ : ∃ W, W = (w.alloc (.cells #[.int .i64 a, .int .i64 b, .int .i64 c] 28)) := ⟨_, rfl⟩
  have c0 : W.cell? ⟨w.heap.size, 0, none⟩ = some (.int .i64 a) := by rw [hW]; simp [go_sem]
  have c1 : W.cell? ⟨w.heap.size, 1, none⟩ = some (.int .i64 b) := by rw [hW]; simp [go_sem]
  have c2 : W.cell? ⟨w.heap.size, 2, none⟩ = some (.int .i64 c) := by rw [hW]; simp [go_sem]
  have hB : Below w.heap.size w W := by rw [hW]; exact ((Below.refl _ _).alloc (by simp <;> omega) _)
  subst hW
  by_cases h1 : planB a b c = true
  · by_cases h2 : inB bad 0 a = true
    · obtain ⟨p1, p2, p3, p4, p5, p6⟩ := planB_inv h1
      obtain ⟨p7, p8⟩ := inB_iff.1 h2
      go_enter Try.func41, Try.ntmps41
      go_wp2_with (first | (go_at_call 44; (with_reducible refine (impl_PlanOk _ _ _ _).mono ?_); rintro _ w1 ⟨rfl, hb⟩; replace c0 := below_cell hb c0; replace c1 := below_cell hb c1; replace c2 := below_cell hb c2; replace hB := below_step hB hb; clear hb) | (go_at_call 63; (with_reducible refine (in_any _ _ _ _).mono ?_); rintro _ _ ⟨rfl, rfl⟩))
      obtain ⟨C, rfl⟩ : ∃ C : Nat, c = C := ⟨c.toNat, by omega⟩
      go_loopw [5, 6] (fun x y wr => ∃ j : Nat, j ≤ C + 1 ∧ x = .int .i64 (countN a b bad j) ∧ y = .int .i64 j ∧ wr.cell? ⟨w.heap.size, 0, none⟩ = some (.int .i64 a) ∧ wr.cell? ⟨w.heap.size, 1, none⟩ = some (.int .i64 b) ∧ wr.cell? ⟨w.heap.size, 2, none⟩ = some (.int .i64 C) ∧ Below w.heap.size w wr) (fun _ y _ => C + 1 - (intOf y).toNat)
      case atStart => exact ⟨0, by omega, rfl, rfl, c0, c1, c2, hB⟩
      case round =>
        obtain ⟨j, hj, rfl, rfl, c0, c1, c2, hB⟩ := hrel
        by_cases hjc : j ≤ C
        · have q1 := countN_bd a b bad j
          have q2 := mul_bd (chooseB_bd bad j) (chooseB_bd (a - bad) (b - j))
          go_wp2_with fail
          (have Ec0 := ext_cell c0; have Ec1 := ext_cell c1; have Ec2 := ext_cell c2; refine calm_lit (by kernel_rfl) (by kernel_rfl) ?_; (repeat (first | go_big_quiet_step ((go_at_call 39; exact calm_of (impl_ChooseOf _ _ _))) | simp only [TF])); refine wpQuiet_nil ?_; intro w1 hb; clear Ec0 Ec1 Ec2; replace c0 := below_cell hb c0; replace c1 := below_cell hb c1; replace c2 := below_cell hb c2; replace hB := below_step hB hb; clear hb)
          go_wp2
          go_roundw
          case rel => exact ⟨j + 1, by omega, by simp [countN], by go_num, c0, c1, c2, hB⟩
          case measure => simp [intOf]; omega
        · obtain rfl : j = C + 1 := by omega
          go_wp2
          go_ret
          exact ⟨ret_int (by simp [countB, *]), by (repeat (first | exact Below.refl _ _ | assumption | (refine Below.drew ?_) | (refine below_alloc ?_ _) | (refine Below.setCell ?_ (by first | (simp; done) | (simp; omega) | omega | (have hq := hB.size; (try simp at hq ⊢); omega)) _) | (refine Below.alloc ?_ (by first | (simp; done) | (simp; omega) | omega | (have hq := hB.size; (try simp at hq ⊢); omega)) _) | (refine below_step ?_ (by assumption))))⟩
    · go_enter Try.func41, Try.ntmps41
      go_wp2_with (first | (go_at_call 44; (with_reducible refine (impl_PlanOk _ _ _ _).mono ?_); rintro _ w1 ⟨rfl, hb⟩; replace c0 := below_cell hb c0; replace c1 := below_cell hb c1; replace c2 := below_cell hb c2; replace hB := below_step hB hb; clear hb) | (go_at_call 63; (with_reducible refine (in_any _ _ _ _).mono ?_); rintro _ _ ⟨rfl, rfl⟩))
      go_ret
      exact ⟨ret_int (by simp [countB, *]), by (repeat (first | exact Below.refl _ _ | assumption | (refine Below.drew ?_) | (refine below_alloc ?_ _) | (refine Below.setCell ?_ (by first | (simp; done) | (simp; omega) | omega | (have hq := hB.size; (try simp at hq ⊢); omega)) _) | (refine Below.alloc ?_ (by first | (simp; done) | (simp; omega) | omega | (have hq := hB.size; (try simp at hq ⊢); omega)) _) | (refine below_step ?_ (by assumption))))⟩
  · go_enter Try.func41, Try.ntmps41
    go_wp2_with (first | (go_at_call 44; (with_reducible refine (impl_PlanOk _ _ _ _).mono ?_); rintro _ w1 ⟨rfl, hb⟩; replace c0 := below_cell hb c0; replace c1 := below_cell hb c1; replace c2 := below_cell hb c2; replace hB := below_step hB hb; clear hb) | (go_at_call 63; (with_reducible refine (in_any _ _ _ _).mono ?_); rintro _ _ ⟨rfl, rfl⟩))
    go_ret
    exact ⟨ret_int (by simp [countB, *]), by (repeat (first | exact Below.refl _ _ | assumption | (refine Below.drew ?_) | (refine below_alloc ?_ _) | (refine Below.setCell ?_ (by first | (simp; done) | (simp; omega) | omega | (have hq := hB.size; (try simp at hq ⊢); omega)) _) | (refine Below.alloc ?_ (by first | (simp; done) | (simp; omega) | omega | (have hq := hB.size; (try simp at hq ⊢); omega)) _) | (refine below_step ?_ (by assumption))))⟩

def greatN (a b c : Int) : Nat → Int
  | 0 => -1
  | j + 1 => if (countB a b c j == chooseB a b) = true then (j : Int) else greatN a b c j
def greatB (a b c : Int) : Int := if planB a b c = true then greatN a b c (a.toNat + 1) else -1

theorem impl_GreatestBad (a b c : Int) (w : World) : Calls Try.prog 40 #[.agg #[.int .i64 a, .int .i64 b, .int .i64 c]] w fun e w' => e = .returned (.int .i64 (greatB a b c)) ∧ Below w.heap.size w w' := by
  obtain ⟨W, hW⟩ : ∃ W, W = (w.alloc (.cells #[.int .i64 a, .int .i64 b, .int .i64 c] 28)) := ⟨_, rfl⟩
  have c0 : W.cell? ⟨w.heap.size, 0, none⟩ = some (.int .i64 a) := by rw [hW]; simp [go_sem]
  have c1 : W.cell? ⟨w.heap.size, 1, none⟩ = some (.int .i64 b) := by rw [hW]; simp [go_sem]
  have c2 : W.cell? ⟨w.heap.size, 2, none⟩ = some (.int .i64 c) := by rw [hW]; simp [go_sem]
  have hB : Below w.heap.size w W := by rw [hW]; exact ((Below.refl _ _).alloc (by simp <;> omega) _)
  subst hW
  by_cases h1 : planB a b c = true
  · obtain ⟨p1, p2, p3, p4, p5, p6⟩ := planB_inv h1
    go_enter Try.func40, Try.ntmps40
    go_wp2_with fail
    obtain ⟨A, rfl⟩ : ∃ A : Nat, a = A := ⟨a.toNat, by omega⟩
    go_loopw [3, 4] (fun x y wr => ∃ j : Nat, j ≤ A + 1 ∧ x = .int .i64 (greatN A b c j) ∧ y = .int .i64 j ∧ wr.cell? ⟨w.heap.size, 0, none⟩ = some (.int .i64 A) ∧ wr.cell? ⟨w.heap.size, 1, none⟩ = some (.int .i64 b) ∧ wr.cell? ⟨w.heap.size, 2, none⟩ = some (.int .i64 c) ∧ Below w.heap.size w wr) (fun _ y _ => A + 1 - (intOf y).toNat)
    case atStart => exact ⟨0, by omega, rfl, rfl, c0, c1, c2, hB⟩
    case round =>
      obtain ⟨j, hj, rfl, rfl, c0, c1, c2, hB⟩ := hrel
      by_cases hjc : j ≤ A
      · go_wp2_with (first | (go_at_call 44; (with_reducible refine (impl_PlanOk _ _ _ _).mono ?_); rintro _ w1 ⟨rfl, hb⟩; replace c0 := below_cell hb c0; replace c1 := below_cell hb c1; replace c2 := below_cell hb c2; replace hB := below_step hB hb; clear hb))
        (have Ec0 := ext_cell c0; have Ec1 := ext_cell c1; have Ec2 := ext_cell c2; refine calm_lit (by kernel_rfl) (by kernel_rfl) ?_; (repeat (first | go_big_quiet_step ((first | (go_at_call 41; exact calm_of (impl_CountAccepting _ _ _ _ _)) | (go_at_call 39; exact calm_of (impl_ChooseOf _ _ _)))) | simp only [TF])); refine wpQuiet_nil ?_; intro w1 hb; clear Ec0 Ec1 Ec2; replace c0 := below_cell hb c0; replace c1 := below_cell hb c1; replace c2 := below_cell hb c2; replace hB := below_step hB hb; clear hb)
        go_wp2
        all_goals
          go_roundw
          case rel => exact ⟨j + 1, by omega, by simp [greatN, *], by go_num, c0, c1, c2, hB⟩
          case measure => simp [intOf]; omega
      · obtain rfl : j = A + 1 := by omega
        go_wp2_with (first | (go_at_call 44; (with_reducible refine (impl_PlanOk _ _ _ _).mono ?_); rintro _ w1 ⟨rfl, hb⟩; replace c0 := below_cell hb c0; replace c1 := below_cell hb c1; replace c2 := below_cell hb c2; replace hB := below_step hB hb; clear hb))
        go_ret
        exact ⟨ret_int (by simp [greatB, *]), by (repeat (first | exact Below.refl _ _ | assumption | (refine Below.drew ?_) | (refine below_alloc ?_ _) | (refine Below.setCell ?_ (by first | (simp; done) | (simp; omega) | omega | (have hq := hB.size; (try simp at hq ⊢); omega)) _) | (refine Below.alloc ?_ (by first | (simp; done) | (simp; omega) | omega | (have hq := hB.size; (try simp at hq ⊢); omega)) _) | (refine below_step ?_ (by assumption))))⟩
  · go_enter Try.func40, Try.ntmps40
    go_wp2_with fail
    refine wp_loop_rounds 1 ?_
    rw [rounds_succ]
    go_wp2_with (first | (go_at_call 44; (with_reducible refine (impl_PlanOk _ _ _ _).mono ?_); rintro _ w1 ⟨rfl, hb⟩; replace c0 := below_cell hb c0; replace c1 := below_cell hb c1; replace c2 := below_cell hb c2; replace hB := below_step hB hb; clear hb))
    go_ret
    exact ⟨ret_int (by simp [greatB, *]), by (repeat (first | exact Below.refl _ _ | assumption | (refine Below.drew ?_) | (refine below_alloc ?_ _) | (refine Below.setCell ?_ (by first | (simp; done) | (simp; omega) | omega | (have hq := hB.size; (try simp at hq ⊢); omega)) _) | (refine Below.alloc ?_ (by first | (simp; done) | (simp; omega) | omega | (have hq := hB.size; (try simp at hq ⊢); omega)) _) | (refine below_step ?_ (by assumption))))⟩
end Go.Proofs.Ytoalpihlflifmaa
