/- Plain laws of a determined design: no object is known better than by as many readings of it alone. -/
import Derived.Test.YtmnmnkenboejpaaResQ
namespace Go.Proofs.Ytmnmnkenboejpaa
open Go.RowKit
set_option linter.unusedSimpArgs false
set_option linter.unusedVariables false
theorem sq_nonneg (x : Int) : 0 ≤ x * x := by
  rcases Int.le_total 0 x with h | h
  · exact Int.mul_nonneg h h
  · exact Int.mul_nonneg_of_nonpos_of_nonpos h h
theorem sumN_nonneg {f : Nat → Int} : ∀ {n : Nat}, (∀ k, k < n → 0 ≤ f k) → 0 ≤ sumN f n
  | 0, _ => Int.le_refl _
  | n + 1, h => by
    have h1 := sumN_nonneg (n := n) (fun k hk => h k (by omega))
    have h2 := h n (by omega)
    simp only [sumN]; omega
theorem sumN_le {f g : Nat → Int} : ∀ {n : Nat}, (∀ k, k < n → f k ≤ g k) → sumN f n ≤ sumN g n
  | 0, _ => Int.le_refl _
  | n + 1, h => by
    have h1 := sumN_le (n := n) (fun k hk => h k (by omega))
    have h2 := h n (by omega)
    simp only [sumN]; omega
theorem sumN_const (c : Int) : ∀ n : Nat, sumN (fun _ => c) n = n * c
  | 0 => by simp [sumN]
  | n + 1 => by simp only [sumN]; rw [sumN_const c n]; push_cast; rw [Int.add_mul, Int.one_mul]
/-- The expansion behind the inequality. -/
theorem cs_expand (x y : Nat → Int) (b c : Int) (n : Nat) : sumN (fun t => (c * x t - b * y t) * (c * x t - b * y t)) n = c * c * sumN (fun t => x t * x t) n - 2 * (b * c) * sumN (fun t => x t * y t) n + b * b * sumN (fun t => y t * y t) n := by
  rw [← sumN_mulL, ← sumN_mulL, ← sumN_mulL, ← sumN_sub, ← sumN_add]
  exact sumN_congr fun t _ => by grind
theorem cs {x y : Nat → Int} {n : Nat} (hb : sumN (fun t => x t * y t) n ≠ 0) : sumN (fun t => x t * y t) n * sumN (fun t => x t * y t) n ≤ sumN (fun t => x t * x t) n * sumN (fun t => y t * y t) n := by
  have hc0 : 0 ≤ sumN (fun t => y t * y t) n := sumN_nonneg fun k _ => sq_nonneg _
  have hc : 0 < sumN (fun t => y t * y t) n := by
    rcases Int.lt_or_eq_of_le hc0 with h | h
    · exact h
    · exfalso
      have h2 : dotZ y y n = 0 := by rw [dotZ_sum]; exact h.symm
      have h3 := dotZ_sq0 h2
      apply hb
      rw [← sumN_zero n]
      exact sumN_congr fun k hk => by rw [h3 k hk, Int.mul_zero]
  have hx := cs_expand x y (sumN (fun t => x t * y t) n) (sumN (fun t => y t * y t) n) n
  have hp : 0 ≤ sumN (fun t => (sumN (fun t => y t * y t) n * x t - sumN (fun t => x t * y t) n * y t) * (sumN (fun t => y t * y t) n * x t - sumN (fun t => x t * y t) n * y t)) n := sumN_nonneg fun k _ => sq_nonneg _
  rw [hx] at hp
  generalize sumN (fun t => x t * x t) n = a at *
  generalize sumN (fun t => x t * y t) n = b at *
  generalize sumN (fun t => y t * y t) n = c at *
  have e : c * c * a - 2 * (b * c) * b + b * b * c = c * (a * c - b * b) := by grind
  rw [e] at hp
  have h5 : 0 ≤ a * c - b * b := by
    rcases Int.lt_or_le (a * c - b * b) 0 with h | h
    · have := Int.mul_neg_of_pos_of_neg hc h
      omega
    · exact h
  omega
/-- det² ≤ n · det · adj_kk. -/
theorem minor_ge {L : List (List Int)} (h : desB L = true) (hne : detG L ≠ 0) {k : Nat} (hk : k < (L.getD 0 []).length) :
    detG L * detG L ≤ L.length * (detG L * adjZ (L.getD 0 []).length (gramL L) k k) := by
  -- u: column k of the adjugate; y: the design's readings of it
  have hy : ∀ i, i < (L.getD 0 []).length → sumN (fun t => xM L t i * sumN (fun j => xM L t j * adjZ (L.getD 0 []).length (gramL L) j k) (L.getD 0 []).length) L.length = if i = k then detG L else 0 := fun i hi => by
    rw [mat_assoc (fun t => xM L t i) (fun t j => xM L t j)]
    exact adj_right h hi hk
  have hb : sumN (fun t => xM L t k * sumN (fun j => xM L t j * adjZ (L.getD 0 []).length (gramL L) j k) (L.getD 0 []).length) L.length = detG L := by rw [hy k hk, if_pos rfl]
  have hc : sumN (fun t => sumN (fun j => xM L t j * adjZ (L.getD 0 []).length (gramL L) j k) (L.getD 0 []).length * sumN (fun j => xM L t j * adjZ (L.getD 0 []).length (gramL L) j k) (L.getD 0 []).length) L.length = detG L * adjZ (L.getD 0 []).length (gramL L) k k := by
    have e1 : sumN (fun t => sumN (fun j => xM L t j * adjZ (L.getD 0 []).length (gramL L) j k) (L.getD 0 []).length * sumN (fun j => xM L t j * adjZ (L.getD 0 []).length (gramL L) j k) (L.getD 0 []).length) L.length
        = sumN (fun j => sumN (fun t => sumN (fun j => xM L t j * adjZ (L.getD 0 []).length (gramL L) j k) (L.getD 0 []).length * xM L t j) L.length * adjZ (L.getD 0 []).length (gramL L) j k) (L.getD 0 []).length :=
      mat_assoc (fun t => sumN (fun j => xM L t j * adjZ (L.getD 0 []).length (gramL L) j k) (L.getD 0 []).length) (fun t j => xM L t j) (fun j => adjZ (L.getD 0 []).length (gramL L) j k) L.length (L.getD 0 []).length
    rw [e1]
    have e2 : sumN (fun j => sumN (fun t => sumN (fun j => xM L t j * adjZ (L.getD 0 []).length (gramL L) j k) (L.getD 0 []).length * xM L t j) L.length * adjZ (L.getD 0 []).length (gramL L) j k) (L.getD 0 []).length
        = sumN (fun j => (if k = j then detG L else 0) * adjZ (L.getD 0 []).length (gramL L) j k) (L.getD 0 []).length :=
      sumN_congr fun j hj => by
        congr 1
        rw [show (if k = j then detG L else 0) = if j = k then detG L else 0 from by
          by_cases e : j = k
          · rw [if_pos e, if_pos e.symm]
          · rw [if_neg e, if_neg (fun h => e h.symm)], ← hy j hj]
        exact sumN_congr fun t _ => by rw [Int.mul_comm]
    rw [e2, sumN_delta, if_pos hk]
  have ha : sumN (fun t => xM L t k * xM L t k) L.length ≤ L.length := by
    have := sumN_le (f := fun t => xM L t k * xM L t k) (g := fun _ => 1) (n := L.length) (fun t ht => by
      have h1 := des_gl h ht k
      have h2 : (xM L t k * xM L t k).natAbs ≤ 1 * 1 := by rw [Int.natAbs_mul]; exact Nat.mul_le_mul h1 h1
      omega)
    rw [sumN_const] at this
    omega
  have hcs := cs (x := fun t => xM L t k) (y := fun t => sumN (fun j => xM L t j * adjZ (L.getD 0 []).length (gramL L) j k) (L.getD 0 []).length) (n := L.length) (by rw [hb]; exact hne)
  rw [hb, hc] at hcs
  have hc0 : 0 ≤ detG L * adjZ (L.getD 0 []).length (gramL L) k k := by rw [← hc]; exact sumN_nonneg fun t _ => sq_nonneg _
  exact Int.le_trans hcs (Int.mul_le_mul_of_nonneg_right ha hc0)
/-- t / u in lowest terms is at least q / n. -/
theorem red_ge {t u q n : Int} (hu : u ≠ 0) (hq : 0 ≤ q) (ht : t.natAbs ≤ 1000000) (hu6 : u.natAbs ≤ 1000000) (h : q * (u * u) ≤ n * (u * t)) : redO t u = true ∧ q * rB t u ≤ rT t u * n ∧ (rT t u).natAbs ≤ 1000000 ∧ (rB t u).natAbs ≤ 1000000 := by
  have key : redO t u = true ∧ rT t u * u = t * rB t u := by
    rcases Int.lt_or_lt_of_ne hu with h1 | h1
    · have := red_rep2 (t := t) (u := u) (N := -u) (x := -t) hu (by omega) (by omega) (by omega) (by rw [Int.mul_neg, Int.neg_mul])
      refine ⟨this.1, ?_⟩
      have h2 := this.2
      rw [Int.mul_neg, Int.neg_mul] at h2
      omega
    · exact red_rep2 (t := t) (u := u) (N := u) (x := t) hu h1 (by omega) (by omega) rfl
  obtain ⟨ho, hk⟩ := key
  have hf := ho
  unfold redO at hf
  obtain ⟨h1, h2, _⟩ := frB_iff.1 hf
  refine ⟨ho, ?_, by omega, by omega⟩
  have huu : 0 < u * u := by
    have := sq_nonneg u
    have h3 : u * u ≠ 0 := fun e => by rcases Int.mul_eq_zero.1 e with e | e <;> exact hu e
    omega
  generalize rT t u = T at *
  generalize rB t u = B at *
  -- (T n - q B) u² = n u (T u) - q B u² = n u t B - q B u² = B (n u t - q u²) ≥ 0
  have e : (T * n - q * B) * (u * u) = B * (n * (u * t) - q * (u * u)) := by
    have : (T * n - q * B) * (u * u) = n * u * (T * u) - q * B * (u * u) := by grind
    rw [this, hk]; grind
  have h4 : 0 ≤ B * (n * (u * t) - q * (u * u)) := Int.mul_nonneg (by omega) (by omega)
  rw [← e] at h4
  rcases Int.lt_or_le (T * n) (q * B) with h5 | h5
  · have := Int.mul_neg_of_neg_of_pos (show T * n - q * B < 0 by omega) huu
    omega
  · exact h5
end Go.Proofs.Ytmnmnkenboejpaa
