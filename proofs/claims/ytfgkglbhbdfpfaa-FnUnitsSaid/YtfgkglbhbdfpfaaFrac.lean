/- The contracts of the functions on fractions: making, adding and multiplying: the program's and the reference's return the same fraction and bool, and leave old memory alone. -/
import Derived.Test.YtfgkglbhbdfpfaaGcd
import Derived.Test.YtfgkglbhbdfpfaaMads
import Derived.IntWalk
namespace Go.Proofs.Ytfgkglbhbdfpfaa
open Go.RowKit
set_option linter.unusedSimpArgs false
set_option linter.unusedVariables false
set_option maxHeartbeats 1000000

def gN (t b : Int) : Nat := Nat.gcd t.natAbs b.natAbs
/-- t / b in lowest terms, its bottom above 0. -/
def rT (t b : Int) : Int := if b < 0 then -(t.tdiv (gN t b)) else t.tdiv (gN t b)
def rB (t b : Int) : Int := ((b.natAbs / gN t b : Nat) : Int)
def redO (t b : Int) : Bool := frB (rT t b) (rB t b)
def redV (t b : Int) : Value := if redO t b = true then .tuple #[.agg #[.int .i64 (rT t b), .int .i64 (rB t b)], .bool true] else .tuple #[.agg #[.int .i64 0, .int .i64 0], .bool false]
theorem redV_yes {t b : Int} (h : redO t b = true) : redV t b = .tuple #[.agg #[.int .i64 (rT t b), .int .i64 (rB t b)], .bool true] := if_pos h
theorem redV_no {t b : Int} (h : ¬ redO t b = true) : redV t b = .tuple #[.agg #[.int .i64 0, .int .i64 0], .bool false] := if_neg h
theorem gN_pos {t b : Int} (h : b ≠ 0) : 0 < gN t b := Nat.gcd_pos_of_pos_right _ (by omega)
theorem gN_le {t b : Int} (h : b ≠ 0) : gN t b ≤ b.natAbs := Nat.gcd_le_right _ (by omega)
theorem sizeFraction : (Try.prog.info? 32).map (·.size) = some 2 := by kernel_rfl
theorem tdiv_nat (t : Int) (g : Nat) : (0 ≤ t → t.tdiv g = ((t.natAbs / g : Nat) : Int)) ∧ (t ≤ 0 → t.tdiv g = -((t.natAbs / g : Nat) : Int)) := by
  constructor
  · intro h
    obtain ⟨n, rfl⟩ : ∃ n : Nat, t = n := ⟨t.toNat, by omega⟩
    rw [← Int.ofNat_tdiv]; rfl
  · intro h
    obtain ⟨n, rfl⟩ : ∃ n : Nat, t = -(n : Int) := ⟨(-t).toNat, by omega⟩
    rw [Int.neg_tdiv, ← Int.ofNat_tdiv, Int.natAbs_neg]; rfl
theorem tdiv_bd (t : Int) (g : Nat) : -(t.natAbs : Int) ≤ t.tdiv g ∧ t.tdiv g ≤ (t.natAbs : Int) := by
  have h1 := tdiv_nat t g
  have h2 := Nat.div_le_self t.natAbs g
  generalize t.natAbs / g = n at h1 h2
  rcases Int.le_total 0 t with h | h
  · have := h1.1 h; omega
  · have := h1.2 h; omega
theorem rB_neg {t b : Int} (h : b < 0) : -(b.tdiv (gN t b)) = rB t b := by
  rw [(tdiv_nat b _).2 (by omega), rB]; omega
theorem rB_pos {t b : Int} (h : ¬ b < 0) : b.tdiv (gN t b) = rB t b := by
  rw [(tdiv_nat b _).1 (by omega), rB]
theorem rT_neg {t b : Int} (h : b < 0) : -(t.tdiv (gN t b)) = rT t b := by rw [rT, if_pos h]
theorem rT_pos {t b : Int} (h : ¬ b < 0) : t.tdiv (gN t b) = rT t b := by rw [rT, if_neg h]

theorem impl_reduced (t b : Int) (ht : -4000000000000 ≤ t ∧ t ≤ 4000000000000) (hb : -4000000000000 ≤ b ∧ b ≤ 4000000000000) (h0 : b ≠ 0) (w : World) : Calls Try.prog 39 #[.int .i64 t, .int .i64 b] w fun e w' => e = .returned (redV t b) ∧ Below w.heap.size w w' := by
  have g1 := gN_pos (t := t) h0
  have g2 := gN_le (t := t) h0
  have b1 := tdiv_bd t (gN t b)
  have b2 := tdiv_bd b (gN t b)
  by_cases hn : b < 0
  · have hg := fun w => impl_gcd (-t) (-b) (by omega) (by omega) w
    rw [show Nat.gcd (-t).natAbs (-b).natAbs = gN t b from by rw [Int.natAbs_neg, Int.natAbs_neg]; rfl] at hg
    have eT : wrap64 (-(t.tdiv (gN t b))) = rT t b := by rw [IntWalk.wrap64_in _ (by omega), rT_neg hn]
    have eB : wrap64 (-(b.tdiv (gN t b))) = rB t b := by rw [IntWalk.wrap64_in _ (by omega), rB_neg hn]
    have hO := fun w => impl_FracOk (rT t b) (rB t b) w
    rw [show frB (rT t b) (rB t b) = redO t b from rfl] at hO
    unfold redV
    revert hg eT eB hO g1 g2
    generalize gN t b = g
    generalize rT t b = T
    generalize rB t b = B
    generalize redO t b = O
    intro g1 g2 hg eT eB hO
    clear b1 b2
    have hz : ((g : Int) == 0) = false := by simp; omega
    have hz2 : ((g : Int) != 0) = true := by simp; omega
    have HT := Lib.hid eT; clear eT
    have HB := Lib.hid eB; clear eB
    cases O
    all_goals
      obtain ⟨W, hW⟩ : ∃ W, W = (w.alloc (.cells #[.int .i64 0, .int .i64 0] 32)) := ⟨_, rfl⟩
      have c0 : W.cell? ⟨w.heap.size, 0, none⟩ = some (.int .i64 0) := by rw [hW]; simp [go_sem]
      have z0 : W.frozen? ⟨w.heap.size, 0, none⟩ = false := by rw [hW]; simp [go_sem]
      have c1 : W.cell? ⟨w.heap.size, 1, none⟩ = some (.int .i64 0) := by rw [hW]; simp [go_sem]
      have z1 : W.frozen? ⟨w.heap.size, 1, none⟩ = false := by rw [hW]; simp [go_sem]
      have hB : Below w.heap.size w W := by rw [hW]; exact ((Below.refl _ _).alloc (by simp <;> omega) _)
      subst hW
      go_enter Try.func39, Try.ntmps39
      ((go_wp2_with fail); (with_reducible refine (hg _).mono ?_); rintro _ w1 ⟨rfl, hb⟩; replace z0 := below_frozen hb (lt_of_cell c0) z0; replace z1 := below_frozen hb (lt_of_cell c1) z1; replace c0 := below_cell hb c0; replace c1 := below_cell hb c1; replace hB := below_step hB hb; clear hb)
      go_wp2_with fail
      apply region_made
      case hm => kernel_rfl
      case hok => kernel_rfl
      case hsz => rfl
      case hal => kernel_rfl
      case H =>
        intro u hu
        have Ec0 := ext_cell (below_cell hu c0)
        have Ec1 := ext_cell (below_cell hu c1)
        dsimp only [List.map, tame]
        (repeat (first | go_big_quiet_step (fail) | simp only [TF]))
        exact wpQuiet_nil rfl
      case hst => simp only [storesOk, true_and, and_true]; exact ⟨_, rfl, sizeFraction, by simp [Value.oneCell']⟩
      intro G w1 hb hf hd
      simp only [madeFacts, true_and, and_true] at hf
      obtain ⟨hg7, hh7⟩ := hf
      clear hd
      dsimp only [alSlots, List.filterMap, putAll]
      have c2 : w1.cell? ⟨G 7, 0, none⟩ = some (.int .i64 (wrap64 (-t.tdiv g))) := made_cell hh7 rfl
      have c3 : w1.cell? ⟨G 7, 1, none⟩ = some (.int .i64 (wrap64 (-b.tdiv g))) := made_cell hh7 rfl
      clear hh7
      generalize G 7 = g7 at *
      simp only [Act.put, List.setIfInBounds_toArray, List.set_cons_succ, List.set_cons_zero]
      (replace z0 := below_frozen hb (lt_of_cell c0) z0; replace z1 := below_frozen hb (lt_of_cell c1) z1; replace c0 := below_cell hb c0; replace c1 := below_cell hb c1; replace hB := below_step hB hb; clear hb)
      rw [HT.out] at c2
      rw [HB.out] at c3
      simp only [HT.out, HB.out]
      go_wp2_with (go_at_call 32; (with_reducible refine (hO _).mono ?_); rintro _ w1 ⟨rfl, hb⟩; replace z0 := below_frozen hb (lt_of_cell c0) z0; replace z1 := below_frozen hb (lt_of_cell c1) z1; replace c0 := below_cell hb c0; replace c1 := below_cell hb c1; replace c2 := below_cell hb c2; replace c3 := below_cell hb c3; replace hB := below_step hB hb; clear hb)
      refine bodyPost_ret (by first | (simp [results, Try.results39, go_sem, *]; done) | (simp [results, Try.results39, go_sem, *]; rfl)) rfl ⟨?_, by (repeat (first | exact Below.refl _ _ | assumption | (refine Below.drew ?_) | (refine below_alloc ?_ _) | (refine Below.setCell ?_ (by first | (simp; done) | (simp; omega) | omega | (have hq := hB.size; (try simp at hq ⊢); omega)) _) | (refine Below.alloc ?_ (by first | (simp; done) | (simp; omega) | omega | (have hq := hB.size; (try simp at hq ⊢); omega)) _) | (refine below_step ?_ (by assumption))))⟩
      simp
  · have hg := fun w => impl_gcd t b (by omega) (by omega) w
    rw [show Nat.gcd t.natAbs b.natAbs = gN t b from rfl] at hg
    have eT : t.tdiv (gN t b) = rT t b := rT_pos hn
    have eB : b / (gN t b : Int) = rB t b := by rw [← rB_pos hn, Int.tdiv_eq_ediv_of_nonneg (by omega)]
    have hO := fun w => impl_FracOk (rT t b) (rB t b) w
    rw [show frB (rT t b) (rB t b) = redO t b from rfl] at hO
    unfold redV
    revert hg eT eB hO g1 g2
    generalize gN t b = g
    generalize rT t b = T
    generalize rB t b = B
    generalize redO t b = O
    intro g1 g2 hg eT eB hO
    clear b1 b2
    have hz : ((g : Int) == 0) = false := by simp; omega
    have hz2 : ((g : Int) != 0) = true := by simp; omega
    have HT := Lib.hid eT; clear eT
    have HB := Lib.hid eB; clear eB
    cases O
    all_goals
      obtain ⟨W, hW⟩ : ∃ W, W = (w.alloc (.cells #[.int .i64 0, .int .i64 0] 32)) := ⟨_, rfl⟩
      have c0 : W.cell? ⟨w.heap.size, 0, none⟩ = some (.int .i64 0) := by rw [hW]; simp [go_sem]
      have z0 : W.frozen? ⟨w.heap.size, 0, none⟩ = false := by rw [hW]; simp [go_sem]
      have c1 : W.cell? ⟨w.heap.size, 1, none⟩ = some (.int .i64 0) := by rw [hW]; simp [go_sem]
      have z1 : W.frozen? ⟨w.heap.size, 1, none⟩ = false := by rw [hW]; simp [go_sem]
      have hB : Below w.heap.size w W := by rw [hW]; exact ((Below.refl _ _).alloc (by simp <;> omega) _)
      subst hW
      go_enter Try.func39, Try.ntmps39
      ((go_wp2_with fail); (with_reducible refine (hg _).mono ?_); rintro _ w1 ⟨rfl, hb⟩; replace z0 := below_frozen hb (lt_of_cell c0) z0; replace z1 := below_frozen hb (lt_of_cell c1) z1; replace c0 := below_cell hb c0; replace c1 := below_cell hb c1; replace hB := below_step hB hb; clear hb)
      go_wp2_with fail
      apply region_made
      case hm => kernel_rfl
      case hok => kernel_rfl
      case hsz => rfl
      case hal => kernel_rfl
      case H =>
        intro u hu
        have Ec0 := ext_cell (below_cell hu c0)
        have Ec1 := ext_cell (below_cell hu c1)
        dsimp only [List.map, tame]
        (repeat (first | go_big_quiet_step (fail) | simp only [TF]))
        exact wpQuiet_nil rfl
      case hst => simp only [storesOk, true_and, and_true]; exact ⟨_, rfl, sizeFraction, by simp [Value.oneCell']⟩
      intro G w1 hb hf hd
      simp only [madeFacts, true_and, and_true] at hf
      obtain ⟨hg7, hh7⟩ := hf
      clear hd
      dsimp only [alSlots, List.filterMap, putAll]
      have c2 : w1.cell? ⟨G 7, 0, none⟩ = some (.int .i64 (t.tdiv g)) := made_cell hh7 rfl
      have c3 : w1.cell? ⟨G 7, 1, none⟩ = some (.int .i64 (b / (g : Int))) := made_cell hh7 rfl
      clear hh7
      generalize G 7 = g7 at *
      simp only [Act.put, List.setIfInBounds_toArray, List.set_cons_succ, List.set_cons_zero]
      (replace z0 := below_frozen hb (lt_of_cell c0) z0; replace z1 := below_frozen hb (lt_of_cell c1) z1; replace c0 := below_cell hb c0; replace c1 := below_cell hb c1; replace hB := below_step hB hb; clear hb)
      rw [HT.out] at c2
      rw [HB.out] at c3
      simp only [HT.out, HB.out]
      go_wp2_with (go_at_call 32; (with_reducible refine (hO _).mono ?_); rintro _ w1 ⟨rfl, hb⟩; replace z0 := below_frozen hb (lt_of_cell c0) z0; replace z1 := below_frozen hb (lt_of_cell c1) z1; replace c0 := below_cell hb c0; replace c1 := below_cell hb c1; replace c2 := below_cell hb c2; replace c3 := below_cell hb c3; replace hB := below_step hB hb; clear hb)
      refine bodyPost_ret (by first | (simp [results, Try.results39, go_sem, *]; done) | (simp [results, Try.results39, go_sem, *]; rfl)) rfl ⟨?_, by (repeat (first | exact Below.refl _ _ | assumption | (refine Below.drew ?_) | (refine below_alloc ?_ _) | (refine Below.setCell ?_ (by first | (simp; done) | (simp; omega) | omega | (have hq := hB.size; (try simp at hq ⊢); omega)) _) | (refine Below.alloc ?_ (by first | (simp; done) | (simp; omega) | omega | (have hq := hB.size; (try simp at hq ⊢); omega)) _) | (refine below_step ?_ (by assumption))))⟩
      simp
def frZ : Value := .tuple #[.agg #[.int .i64 0, .int .i64 0], .bool false]
theorem redV_form (t b : Int) : ∃ (X Y : Int) (O : Bool), redV t b = .tuple #[.agg #[.int .i64 X, .int .i64 Y], .bool O] := by
  unfold redV; split
  · exact ⟨_, _, _, rfl⟩
  · exact ⟨_, _, _, rfl⟩
def mkV (t b : Int) : Value := if b = 0 ∨ ¬ inB t (-1000000000000) 1000000000000 = true ∨ ¬ inB b (-1000000000000) 1000000000000 = true then frZ else redV t b
theorem mkV_yes {t b : Int} (h0 : b ≠ 0) (h1 : inB t (-1000000000000) 1000000000000 = true) (h2 : inB b (-1000000000000) 1000000000000 = true) : mkV t b = redV t b := if_neg (by simp [h0, h1, h2])
theorem mkV_no {t b : Int} (h : b = 0 ∨ ¬ inB t (-1000000000000) 1000000000000 = true ∨ ¬ inB b (-1000000000000) 1000000000000 = true) : mkV t b = frZ := if_pos h
def addV (a b c d : Int) : Value := if frB a b = true ∧ frB c d = true then redV (a * d + c * b) (b * d) else frZ
def timV (a b c d : Int) : Value := if frB a b = true ∧ frB c d = true then redV (a * c) (b * d) else frZ
theorem addV_yes {a b c d : Int} (h1 : frB a b = true) (h2 : frB c d = true) : addV a b c d = redV (a * d + c * b) (b * d) := if_pos ⟨h1, h2⟩
theorem addV_no {a b c d : Int} (h : ¬ (frB a b = true ∧ frB c d = true)) : addV a b c d = frZ := if_neg h
theorem timV_yes {a b c d : Int} (h1 : frB a b = true) (h2 : frB c d = true) : timV a b c d = redV (a * c) (b * d) := if_pos ⟨h1, h2⟩
theorem timV_no {a b c d : Int} (h : ¬ (frB a b = true ∧ frB c d = true)) : timV a b c d = frZ := if_neg h
theorem mul6 {x y : Int} (hx : -1000000 ≤ x ∧ x ≤ 1000000) (hy : 1 ≤ y ∧ y ≤ 1000000) : -1000000000000 ≤ x * y ∧ x * y ≤ 1000000000000 := by
  obtain ⟨n, rfl⟩ : ∃ n : Nat, y = n := ⟨y.toNat, by omega⟩
  have h1 : x * (n : Int) ≤ 1000000 * n := Int.mul_le_mul_of_nonneg_right (by omega) (by omega)
  have h2 : -1000000 * (n : Int) ≤ x * n := Int.mul_le_mul_of_nonneg_right (by omega) (by omega)
  omega
theorem mul66 {x y : Int} (hx : -1000000 ≤ x ∧ x ≤ 1000000) (hy : -1000000 ≤ y ∧ y ≤ 1000000) : -1000000000000 ≤ x * y ∧ x * y ≤ 1000000000000 := by
  rcases Int.lt_or_le 0 y with h | h
  · exact mul6 hx (by omega)
  · rcases Int.lt_or_le y 0 with h2 | h2
    · have := mul6 hx (y := -y) (by omega)
      rw [Int.mul_neg] at this; omega
    · obtain rfl : y = 0 := by omega
      simp
theorem mul_pos6 {x y : Int} (hx : 1 ≤ x ∧ x ≤ 1000000) (hy : 1 ≤ y ∧ y ≤ 1000000) : 1 ≤ x * y ∧ x * y ≤ 1000000000000 := by
  have h1 := mul6 (x := x) (y := y) (by omega) hy
  have h2 : 0 < x * y := Int.mul_pos (by omega) (by omega)
  omega
theorem impl_Times (a b c d : Int) (w : World) : Calls Try.prog 27 #[.agg #[.int .i64 a, .int .i64 b], .agg #[.int .i64 c, .int .i64 d]] w fun e w' => e = .returned (timV a b c d) ∧ Below w.heap.size w w' := by
  have hO1 := fun w => impl_FracOk a b w
  have hO2 := fun w => impl_FracOk c d w
  by_cases h1 : frB a b = true
  · by_cases h2 : frB c d = true
    · rw [timV_yes h1 h2]
      obtain ⟨r1, r2, _⟩ := frB_iff.1 h1
      obtain ⟨r3, r4, _⟩ := frB_iff.1 h2
      have m1 := mul66 r1 r3
      have m3 := mul_pos6 r2 r4
      have hR := fun w => impl_reduced (a * c) (b * d) (by omega) (by omega) (by omega) w
      obtain ⟨X, Y, O, hv⟩ := redV_form (a * c) (b * d)
      simp only [hv] at hR ⊢
      simp only [h1, h2] at hO1 hO2
      clear hv h1 h2
      obtain ⟨W, hW⟩ : ∃ W, W = (((w.alloc (.cells #[.int .i64 a, .int .i64 b] 32)).alloc (.cells #[.int .i64 c, .int .i64 d] 32)).alloc (.cells #[.int .i64 0, .int .i64 0] 32)) := ⟨_, rfl⟩
      have c0 : W.cell? ⟨w.heap.size, 0, none⟩ = some (.int .i64 a) := by rw [hW]; simp [go_sem]
      have c1 : W.cell? ⟨w.heap.size, 1, none⟩ = some (.int .i64 b) := by rw [hW]; simp [go_sem]
      have c2 : W.cell? ⟨w.heap.size + 1, 0, none⟩ = some (.int .i64 c) := by rw [hW]; simp [go_sem]
      have c3 : W.cell? ⟨w.heap.size + 1, 1, none⟩ = some (.int .i64 d) := by rw [hW]; simp [go_sem]
      have c4 : W.cell? ⟨w.heap.size + 2, 0, none⟩ = some (.int .i64 0) := by rw [hW]; simp [go_sem]
      have z4 : W.frozen? ⟨w.heap.size + 2, 0, none⟩ = false := by rw [hW]; simp [go_sem]
      have c5 : W.cell? ⟨w.heap.size + 2, 1, none⟩ = some (.int .i64 0) := by rw [hW]; simp [go_sem]
      have z5 : W.frozen? ⟨w.heap.size + 2, 1, none⟩ = false := by rw [hW]; simp [go_sem]
      have hB : Below w.heap.size w W := by rw [hW]; exact ((((Below.refl _ _).alloc (by simp <;> omega) _).alloc (by simp <;> omega) _).alloc (by simp <;> omega) _)
      subst hW
      go_enter Try.func27, Try.ntmps27
      ((go_wp2_with fail); (with_reducible refine (hO1 _).mono ?_); rintro _ w1 ⟨rfl, hb⟩; replace z4 := below_frozen hb (lt_of_cell c4) z4; replace z5 := below_frozen hb (lt_of_cell c5) z5; replace c0 := below_cell hb c0; replace c1 := below_cell hb c1; replace c2 := below_cell hb c2; replace c3 := below_cell hb c3; replace c4 := below_cell hb c4; replace c5 := below_cell hb c5; replace hB := below_step hB hb; clear hb)
      ((go_wp2_with fail); (with_reducible refine (hO2 _).mono ?_); rintro _ w1 ⟨rfl, hb⟩; replace z4 := below_frozen hb (lt_of_cell c4) z4; replace z5 := below_frozen hb (lt_of_cell c5) z5; replace c0 := below_cell hb c0; replace c1 := below_cell hb c1; replace c2 := below_cell hb c2; replace c3 := below_cell hb c3; replace c4 := below_cell hb c4; replace c5 := below_cell hb c5; replace hB := below_step hB hb; clear hb)
      ((go_wp2_with fail); (with_reducible refine (hR _).mono ?_); rintro _ w1 ⟨rfl, hb⟩; replace z4 := below_frozen hb (lt_of_cell c4) z4; replace z5 := below_frozen hb (lt_of_cell c5) z5; replace c0 := below_cell hb c0; replace c1 := below_cell hb c1; replace c2 := below_cell hb c2; replace c3 := below_cell hb c3; replace c4 := below_cell hb c4; replace c5 := below_cell hb c5; replace hB := below_step hB hb; clear hb)
      go_wp2_with fail
      refine bodyPost_ret (by first | (simp [results, Try.results27, go_sem, *]; done) | (simp [results, Try.results27, go_sem, *]; rfl)) rfl ⟨rfl, by (repeat (first | exact Below.refl _ _ | assumption | (refine Below.drew ?_) | (refine below_alloc ?_ _) | (refine Below.setCell ?_ (by first | (simp; done) | (simp; omega) | omega | (have hq := hB.size; (try simp at hq ⊢); omega)) _) | (refine Below.alloc ?_ (by first | (simp; done) | (simp; omega) | omega | (have hq := hB.size; (try simp at hq ⊢); omega)) _) | (refine below_step ?_ (by assumption))))⟩
    · rw [timV_no (fun h => h2 h.2)]
      have h2' : frB c d = false := by simpa using h2
      simp only [h1, h2'] at hO1 hO2
      clear h1 h2 h2'
      obtain ⟨W, hW⟩ : ∃ W, W = (((w.alloc (.cells #[.int .i64 a, .int .i64 b] 32)).alloc (.cells #[.int .i64 c, .int .i64 d] 32)).alloc (.cells #[.int .i64 0, .int .i64 0] 32)) := ⟨_, rfl⟩
      have c0 : W.cell? ⟨w.heap.size, 0, none⟩ = some (.int .i64 a) := by rw [hW]; simp [go_sem]
      have c1 : W.cell? ⟨w.heap.size, 1, none⟩ = some (.int .i64 b) := by rw [hW]; simp [go_sem]
      have c2 : W.cell? ⟨w.heap.size + 1, 0, none⟩ = some (.int .i64 c) := by rw [hW]; simp [go_sem]
      have c3 : W.cell? ⟨w.heap.size + 1, 1, none⟩ = some (.int .i64 d) := by rw [hW]; simp [go_sem]
      have c4 : W.cell? ⟨w.heap.size + 2, 0, none⟩ = some (.int .i64 0) := by rw [hW]; simp [go_sem]
      have z4 : W.frozen? ⟨w.heap.size + 2, 0, none⟩ = false := by rw [hW]; simp [go_sem]
      have c5 : W.cell? ⟨w.heap.size + 2, 1, none⟩ = some (.int .i64 0) := by rw [hW]; simp [go_sem]
      have z5 : W.frozen? ⟨w.heap.size + 2, 1, none⟩ = false := by rw [hW]; simp [go_sem]
      have hB : Below w.heap.size w W := by rw [hW]; exact ((((Below.refl _ _).alloc (by simp <;> omega) _).alloc (by simp <;> omega) _).alloc (by simp <;> omega) _)
      subst hW
      go_enter Try.func27, Try.ntmps27
      ((go_wp2_with fail); (with_reducible refine (hO1 _).mono ?_); rintro _ w1 ⟨rfl, hb⟩; replace z4 := below_frozen hb (lt_of_cell c4) z4; replace z5 := below_frozen hb (lt_of_cell c5) z5; replace c0 := below_cell hb c0; replace c1 := below_cell hb c1; replace c2 := below_cell hb c2; replace c3 := below_cell hb c3; replace c4 := below_cell hb c4; replace c5 := below_cell hb c5; replace hB := below_step hB hb; clear hb)
      ((go_wp2_with fail); (with_reducible refine (hO2 _).mono ?_); rintro _ w1 ⟨rfl, hb⟩; replace z4 := below_frozen hb (lt_of_cell c4) z4; replace z5 := below_frozen hb (lt_of_cell c5) z5; replace c0 := below_cell hb c0; replace c1 := below_cell hb c1; replace c2 := below_cell hb c2; replace c3 := below_cell hb c3; replace c4 := below_cell hb c4; replace c5 := below_cell hb c5; replace hB := below_step hB hb; clear hb)
      go_wp2_with fail
      refine bodyPost_ret (by first | (simp [results, Try.results27, go_sem, *]; done) | (simp [results, Try.results27, go_sem, *]; rfl)) rfl ⟨rfl, by (repeat (first | exact Below.refl _ _ | assumption | (refine Below.drew ?_) | (refine below_alloc ?_ _) | (refine Below.setCell ?_ (by first | (simp; done) | (simp; omega) | omega | (have hq := hB.size; (try simp at hq ⊢); omega)) _) | (refine Below.alloc ?_ (by first | (simp; done) | (simp; omega) | omega | (have hq := hB.size; (try simp at hq ⊢); omega)) _) | (refine below_step ?_ (by assumption))))⟩
  · rw [timV_no (fun h => h1 h.1)]
    have h1' : frB a b = false := by simpa using h1
    simp only [h1'] at hO1
    clear h1 h1'
    obtain ⟨W, hW⟩ : ∃ W, W = (((w.alloc (.cells #[.int .i64 a, .int .i64 b] 32)).alloc (.cells #[.int .i64 c, .int .i64 d] 32)).alloc (.cells #[.int .i64 0, .int .i64 0] 32)) := ⟨_, rfl⟩
    have c0 : W.cell? ⟨w.heap.size, 0, none⟩ = some (.int .i64 a) := by rw [hW]; simp [go_sem]
    have c1 : W.cell? ⟨w.heap.size, 1, none⟩ = some (.int .i64 b) := by rw [hW]; simp [go_sem]
    have c2 : W.cell? ⟨w.heap.size + 1, 0, none⟩ = some (.int .i64 c) := by rw [hW]; simp [go_sem]
    have c3 : W.cell? ⟨w.heap.size + 1, 1, none⟩ = some (.int .i64 d) := by rw [hW]; simp [go_sem]
    have c4 : W.cell? ⟨w.heap.size + 2, 0, none⟩ = some (.int .i64 0) := by rw [hW]; simp [go_sem]
    have z4 : W.frozen? ⟨w.heap.size + 2, 0, none⟩ = false := by rw [hW]; simp [go_sem]
    have c5 : W.cell? ⟨w.heap.size + 2, 1, none⟩ = some (.int .i64 0) := by rw [hW]; simp [go_sem]
    have z5 : W.frozen? ⟨w.heap.size + 2, 1, none⟩ = false := by rw [hW]; simp [go_sem]
    have hB : Below w.heap.size w W := by rw [hW]; exact ((((Below.refl _ _).alloc (by simp <;> omega) _).alloc (by simp <;> omega) _).alloc (by simp <;> omega) _)
    subst hW
    go_enter Try.func27, Try.ntmps27
    ((go_wp2_with fail); (with_reducible refine (hO1 _).mono ?_); rintro _ w1 ⟨rfl, hb⟩; replace z4 := below_frozen hb (lt_of_cell c4) z4; replace z5 := below_frozen hb (lt_of_cell c5) z5; replace c0 := below_cell hb c0; replace c1 := below_cell hb c1; replace c2 := below_cell hb c2; replace c3 := below_cell hb c3; replace c4 := below_cell hb c4; replace c5 := below_cell hb c5; replace hB := below_step hB hb; clear hb)
    go_wp2_with fail
    refine bodyPost_ret (by first | (simp [results, Try.results27, go_sem, *]; done) | (simp [results, Try.results27, go_sem, *]; rfl)) rfl ⟨rfl, by (repeat (first | exact Below.refl _ _ | assumption | (refine Below.drew ?_) | (refine below_alloc ?_ _) | (refine Below.setCell ?_ (by first | (simp; done) | (simp; omega) | omega | (have hq := hB.size; (try simp at hq ⊢); omega)) _) | (refine Below.alloc ?_ (by first | (simp; done) | (simp; omega) | omega | (have hq := hB.size; (try simp at hq ⊢); omega)) _) | (refine below_step ?_ (by assumption))))⟩
end Go.Proofs.Ytfgkglbhbdfpfaa
