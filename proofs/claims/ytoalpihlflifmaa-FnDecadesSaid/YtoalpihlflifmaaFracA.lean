/- Exact fractions over a common denominator. Plain Lean; no program. -/
import Derived.Test.YtoalpihlflifmaaHalve
import Derived.Test.YtoalpihlflifmaaFracS
namespace Go.Proofs.Ytoalpihlflifmaa
open Go.RowKit
set_option linter.unusedSimpArgs false
set_option linter.unusedVariables false
/-- The fraction a / b is x / N. -/
def Rep (N x a b : Int) : Prop := frB a b = true ∧ a * N = x * b
theorem Rep.of {N N' x x' a b : Int} (h : Rep N x a b) (h1 : N = N') (h2 : x = x') : Rep N' x' a b := by subst h1; subst h2; exact h
theorem rep_frB {N x a b : Int} (h : Rep N x a b) : frB a b = true := h.1
/-- A reduced fraction that is x / N has a bottom that divides N. -/
theorem low_dvd {p q N x : Int} (hco : Nat.gcd p.natAbs q.natAbs = 1) (h : p * N = x * q) : q ∣ N := by
  have h1 : q.natAbs ∣ p.natAbs * N.natAbs := by
    rw [← Int.natAbs_mul, h, Int.natAbs_mul]
    exact Nat.dvd_mul_left _ _
  have h2 : Nat.Coprime q.natAbs p.natAbs := by rw [Nat.coprime_comm]; exact hco
  exact Int.natAbs_dvd_natAbs.1 (h2.dvd_of_dvd_mul_left h1)
theorem low_small {p q N x : Int} (hq : 0 < q) (hN : 0 < N) (hco : Nat.gcd p.natAbs q.natAbs = 1) (h : p * N = x * q) : q ≤ N ∧ p.natAbs ≤ x.natAbs := by
  obtain ⟨k, hk⟩ := low_dvd hco h
  have hk0 : 0 < k := by
    rcases Int.lt_or_le 0 k with h1 | h1
    · exact h1
    · have := Int.mul_nonpos_of_nonneg_of_nonpos (Int.le_of_lt hq) h1
      omega
  have hx : p * k = x := by
    have h2 : (p * k) * q = x * q := by rw [← h, hk, Int.mul_assoc, Int.mul_comm k q]
    exact Int.eq_of_mul_eq_mul_right (by omega) h2
  refine ⟨?_, ?_⟩
  · rw [hk]
    have := Int.mul_le_mul_of_nonneg_left (show 1 ≤ k by omega) (Int.le_of_lt hq)
    rw [Int.mul_one] at this; exact this
  · rw [← hx, Int.natAbs_mul]
    exact Nat.le_mul_of_pos_right _ (by omega)
theorem red_rep {t u N x : Int} (hu : 0 < u) (hN : 0 < N) (hN6 : N ≤ 1000000) (hx : -1000000 ≤ x ∧ x ≤ 1000000) (h : t * N = x * u) : redO t u = true ∧ rT t u * N = x * rB t u := by
  have hg : 0 < gN t u := gN_pos (by omega)
  obtain ⟨t', ht⟩ : ((gN t u : Nat) : Int) ∣ t := by rw [← Int.natAbs_dvd_natAbs]; simpa [gN] using Nat.gcd_dvd_left t.natAbs u.natAbs
  obtain ⟨u', hu'⟩ : ((gN t u : Nat) : Int) ∣ u := by rw [← Int.natAbs_dvd_natAbs]; simpa [gN] using Nat.gcd_dvd_right t.natAbs u.natAbs
  generalize hgg : gN t u = g at hg ht hu'
  have hg0 : (g : Int) ≠ 0 := by omega
  have e1 : rT t u = t' := by
    rw [rT, if_neg (by omega), hgg, ht, Int.mul_tdiv_cancel_left _ hg0]
  have hu0 : 0 < u' := by
    rcases Int.lt_or_le 0 u' with h1 | h1
    · exact h1
    · have := Int.mul_nonpos_of_nonneg_of_nonpos (show (0 : Int) ≤ (g : Int) by omega) h1
      omega
  have e2 : rB t u = u' := by
    rw [rB, hgg, hu', Int.natAbs_mul, Int.natAbs_natCast, Nat.mul_div_cancel_left _ hg]
    omega
  have hco : Nat.gcd t'.natAbs u'.natAbs = 1 := by
    have h1 : gN t u = g * Nat.gcd t'.natAbs u'.natAbs := by
      unfold gN
      rw [ht, hu', Int.natAbs_mul, Int.natAbs_mul, Int.natAbs_natCast, Nat.gcd_mul_left]
    rw [hgg] at h1
    exact Nat.eq_of_mul_eq_mul_left hg (by omega)
  have hv : t' * N = x * u' := by
    have h2 : (g : Int) * (t' * N) = (g : Int) * (x * u') := by
      rw [← Int.mul_assoc, ← ht, h]
      conv => lhs; rw [hu']
      rw [Int.mul_left_comm]
    exact Int.eq_of_mul_eq_mul_left hg0 h2
  obtain ⟨s1, s2⟩ := low_small hu0 hN hco hv
  rw [redO, e1, e2]
  refine ⟨frB_iff.2 ⟨by omega, by omega, hco⟩, hv⟩
theorem Rep.add {N x y a b c d : Int} (h : Rep N x a b) (k : Rep N y c d) (hN : 0 < N) (hN6 : N ≤ 1000000) (hx : -1000000 ≤ x + y ∧ x + y ≤ 1000000) : aO a b c d = true ∧ Rep N (x + y) (aT a b c d) (aB a b c d) := by
  obtain ⟨h1, h2⟩ := h
  obtain ⟨k1, k2⟩ := k
  have hb := (frB_iff.1 h1).2.1
  have hd := (frB_iff.1 k1).2.1
  have hv : (a * d + c * b) * N = (x + y) * (b * d) := by
    rw [Int.add_mul, Int.add_mul, Int.mul_right_comm a d N, h2, Int.mul_right_comm c b N, k2]
    ac_rfl
  obtain ⟨r1, r2⟩ := red_rep (Int.mul_pos (by omega) (by omega)) hN hN6 hx hv
  have ho : aO a b c d = true := by simp [aO, h1, k1, r1]
  refine ⟨ho, ?_, ?_⟩
  · rw [aT, aB, if_pos ho, if_pos ho]; exact r1
  · rw [aT, aB, if_pos ho, if_pos ho]; exact r2
theorem frB_one {k : Int} (hk : 1 ≤ k ∧ k ≤ 1000000) : frB 1 k = true := frB_iff.2 ⟨by omega, by omega, by simp⟩
theorem Rep.part {N x a b : Int} (h : Rep N x a b) (k : Int) (hk : 1 ≤ k ∧ k ≤ 1000000) (hN : 0 < N) (hN6 : N * k ≤ 1000000) (hx : -1000000 ≤ x ∧ x ≤ 1000000) : tO a b 1 k = true ∧ Rep (N * k) x (tT a b 1 k) (tB a b 1 k) := by
  obtain ⟨h1, h2⟩ := h
  have hb := (frB_iff.1 h1).2.1
  have hv : (a * 1) * (N * k) = x * (b * k) := by
    rw [Int.mul_one, ← Int.mul_assoc, h2, Int.mul_assoc]
  obtain ⟨r1, r2⟩ := red_rep (Int.mul_pos (by omega) (by omega)) (Int.mul_pos hN (by omega)) hN6 hx hv
  have ho : tO a b 1 k = true := by unfold tO; rw [h1, frB_one hk, r1]; rfl
  refine ⟨ho, ?_, ?_⟩
  · rw [tT, tB, if_pos ho, if_pos ho]; exact r1
  · rw [tT, tB, if_pos ho, if_pos ho]; exact r2
theorem Rep.scale {N x a b : Int} (h : Rep N x a b) (k : Int) : Rep (N * k) (x * k) a b := by
  refine ⟨h.1, ?_⟩
  rw [← Int.mul_assoc, h.2]; ac_rfl
theorem Rep.neg {N x c d : Int} (h : Rep N x c d) : Rep N (-x) (ng c) d := by
  obtain ⟨h1, h2⟩ := h
  have hb := frB_iff.1 h1
  have e : ng c = -c := by unfold ng wrap64; omega
  rw [e]
  refine ⟨frB_iff.2 ⟨by omega, hb.2.1, by rw [Int.natAbs_neg]; exact hb.2.2⟩, ?_⟩
  rw [Int.neg_mul, h2, Int.neg_mul]
theorem Rep.eq {N x a b c d : Int} (h : Rep N x a b) (k : Rep N x c d) (hN : 0 < N) : a = c ∧ b = d := by
  obtain ⟨h1, h2⟩ := h
  obtain ⟨k1, k2⟩ := k
  obtain ⟨_, hb, hab⟩ := frB_iff.1 h1
  obtain ⟨_, hd, hcd⟩ := frB_iff.1 k1
  have hv : a * d = c * b := by
    have h3 : (a * d) * N = (c * b) * N := by
      rw [Int.mul_right_comm a d N, h2, Int.mul_right_comm c b N, k2]; ac_rfl
    exact Int.eq_of_mul_eq_mul_right (by omega) h3
  have d1 : b ∣ d := low_dvd hab hv
  have d2 : d ∣ b := low_dvd hcd hv.symm
  have hbd : b = d := Int.dvd_antisymm (by omega) (by omega) d1 d2
  subst hbd
  exact ⟨Int.eq_of_mul_eq_mul_right (by omega) hv, rfl⟩
theorem Rep.half {N x y a b c d : Int} (h : Rep N x a b) (k : Rep N y c d) (hN : 0 < N) (hN6 : N * 2 ≤ 1000000) (hx : -1000000 ≤ x + y ∧ x + y ≤ 1000000) : hO a b c d = true ∧ Rep (N * 2) (x + y) (hT a b c d) (hB' a b c d) := by
  obtain ⟨_, h2⟩ := h.add k hN (by omega) hx
  exact h2.part 2 (by omega) hN hN6 hx
theorem Rep.halve {N x y a b c d : Int} (h : Rep N x a b) (k : Rep N y c d) (hN : 0 < N) (hN6 : N * 2 ≤ 1000000) (hx : -1000000 ≤ x + y ∧ x + y ≤ 1000000) (hy : -1000000 ≤ x - y ∧ x - y ≤ 1000000) :
    hvO a b c d = true ∧ Rep (N * 2) (x + y) (hT a b c d) (hB' a b c d) ∧ Rep (N * 2) (x - y) (hT a b (ng c) d) (hB' a b (ng c) d) := by
  obtain ⟨h1, h2⟩ := h.half k hN hN6 hx
  obtain ⟨h3, h4⟩ := h.half k.neg hN hN6 (by omega)
  exact ⟨by simp [hvO, h1, h3], h2, h4.of rfl (by omega)⟩
theorem Rep.zero (N : Int) : Rep N 0 0 1 := ⟨frB_iff.2 ⟨by omega, by omega, by simp⟩, by omega⟩
end Go.Proofs.Ytoalpihlflifmaa
