/- Plain laws of a determined design: the residues have nothing of any object; values that fit come back; the tops are small. -/
import Derived.Test.YtmnmnkenboejpaaAlg
import Derived.Test.YtmnmnkenboejpaaFrO
import Derived.Test.YtmnmnkenboejpaaDrawR
import Derived.Test.YtmnmnkenboejpaaFits
import Derived.Test.YtmnmnkenboejpaaBest
namespace Go.Proofs.Ytmnmnkenboejpaa
open Go.RowKit
set_option linter.unusedSimpArgs false
set_option linter.unusedVariables false
theorem dotZ_sum (x y : Nat → Int) : ∀ n, dotZ x y n = sumN (fun k => x k * y k) n
  | 0 => rfl
  | n + 1 => by simp only [dotZ, sumN]; rw [dotZ_sum x y n]
theorem sumN_add (f g : Nat → Int) : ∀ n, sumN (fun k => f k + g k) n = sumN f n + sumN g n
  | 0 => rfl
  | n + 1 => by simp only [sumN]; rw [sumN_add f g n]; omega
theorem sumN_sub (f g : Nat → Int) : ∀ n, sumN (fun k => f k - g k) n = sumN f n - sumN g n
  | 0 => rfl
  | n + 1 => by simp only [sumN]; rw [sumN_sub f g n]; omega
theorem sumN_mulL (c : Int) (f : Nat → Int) : ∀ n, sumN (fun k => c * f k) n = c * sumN f n
  | 0 => by simp [sumN]
  | n + 1 => by simp only [sumN]; rw [sumN_mulL c f n, Int.mul_add]
theorem sumN_zero : ∀ n, sumN (fun _ => 0) n = 0
  | 0 => rfl
  | n + 1 => by simp only [sumN]; rw [sumN_zero n]; rfl
theorem sumN_swap (f : Nat → Nat → Int) (m : Nat) : ∀ n, sumN (fun i => sumN (fun j => f i j) m) n = sumN (fun j => sumN (fun i => f i j) n) m
  | 0 => by simp only [sumN]; rw [sumN_zero]
  | n + 1 => by simp only [sumN]; rw [sumN_swap f m n, ← sumN_add]
theorem sumN_delta {i : Nat} (d : Int) (r : Nat → Int) : ∀ m, sumN (fun k => (if i = k then d else 0) * r k) m = if i < m then d * r i else 0
  | 0 => by simp [sumN]
  | m + 1 => by
    simp only [sumN]
    rw [sumN_delta d r m]
    by_cases h : i = m
    · subst h; simp
    · rw [if_neg h]
      by_cases h2 : i < m
      · rw [if_pos h2, if_pos (by omega)]; simp
      · rw [if_neg h2, if_neg (by omega)]; simp
theorem mat_assoc (A : Nat → Int) (B : Nat → Nat → Int) (r : Nat → Int) (m m' : Nat) : sumN (fun j => A j * sumN (fun k => B j k * r k) m') m = sumN (fun k => sumN (fun j => A j * B j k) m * r k) m' := by
  have e1 : sumN (fun j => A j * sumN (fun k => B j k * r k) m') m = sumN (fun j => sumN (fun k => A j * B j k * r k) m') m :=
    sumN_congr fun j _ => by rw [← sumN_mulL]; exact sumN_congr fun k _ => by rw [Int.mul_assoc]
  rw [e1, sumN_swap]
  exact sumN_congr fun k _ => by
    rw [Int.mul_comm, ← sumN_mulL]
    exact sumN_congr fun j _ => by rw [Int.mul_comm]
/-- What row t has of object i. -/
def xM (L : List (List Int)) (t i : Nat) : Int := gl (L.getD t []) i
theorem right_sum {L : List (List Int)} {v : Nat → Int} (h : desB L = true) (k : Nat) : rightZ L v k = sumN (fun t => xM L t k * v t) L.length := by
  unfold rightZ
  rw [dotZ_sum]
  exact sumN_congr fun t ht => by rw [(col_gl h k ht).1]; rfl
theorem gram_ex {L : List (List Int)} (h : desB L = true) {i j : Nat} (hi : i < (L.getD 0 []).length) (hj : j < (L.getD 0 []).length) : gl ((gramL L).getD i []) j = sumN (fun t => xM L t i * xM L t j) L.length := by
  have e1 : (gramL L).getD i [] = gramR L i := by unfold gramL; rw [List.getD_eq_getElem?_getD, List.getElem?_map, List.getElem?_range hi]; rfl
  have h8 := (des_at h).1.2
  rw [e1]
  unfold gramR
  rw [gl_map_range _ hj]
  unfold gramV
  rw [(dot_ex (X := 1) (Y := 1) (fun k hk => (col_gl h i hk).2) (fun k hk => (col_gl h j hk).2) (by omega)).1, dotZ_sum]
  exact sumN_congr fun t ht => by rw [(col_gl h i ht).1, (col_gl h j ht).1]; rfl
theorem adj_right {L : List (List Int)} (h : desB L = true) {i k : Nat} (hi : i < (L.getD 0 []).length) (hk : k < (L.getD 0 []).length) :
    sumN (fun j => sumN (fun t => xM L t i * xM L t j) L.length * adjZ (L.getD 0 []).length (gramL L) j k) (L.getD 0 []).length = if i = k then detG L else 0 := by
  rw [(detG_ex h).1, ← (adj_mul (gram_sq h) hi hk).1, dotZ_sum]
  exact sumN_congr fun j hj => by rw [gram_ex h hi hj]
theorem adj_left {L : List (List Int)} (h : desB L = true) {i k : Nat} (hi : i < (L.getD 0 []).length) (hk : k < (L.getD 0 []).length) :
    sumN (fun j => adjZ (L.getD 0 []).length (gramL L) i j * sumN (fun t => xM L t j * xM L t k) L.length) (L.getD 0 []).length = if i = k then detG L else 0 := by
  rw [(detG_ex h).1, ← (adj_mul (gram_sq h) hi hk).2, dotZ_sum]
  exact sumN_congr fun j hj => by rw [gram_ex h hj hk]
theorem top_sum (L : List (List Int)) (v : Nat → Int) (i : Nat) : topZ L v i = sumN (fun k => adjZ (L.getD 0 []).length (gramL L) i k * rightZ L v k) (L.getD 0 []).length := by unfold topZ; rw [dotZ_sum]
/-- The residues have nothing of any object. -/
theorem normal_eq {L : List (List Int)} {v : Nat → Int} (h : desB L = true) {i : Nat} (hi : i < (L.getD 0 []).length) : sumN (fun t => xM L t i * resZ L v t) L.length = 0 := by
  have e1 : sumN (fun t => xM L t i * resZ L v t) L.length = detG L * rightZ L v i - sumN (fun t => xM L t i * sumN (fun j => xM L t j * topZ L v j) (L.getD 0 []).length) L.length := by
    rw [right_sum h, ← sumN_mulL, ← sumN_sub]
    exact sumN_congr fun t _ => by
      unfold resZ
      rw [dotZ_sum, Int.mul_sub]
      congr 1
      rw [Int.mul_left_comm]
  rw [e1, mat_assoc (fun t => xM L t i) (fun t j => xM L t j)]
  have e2 : sumN (fun k => sumN (fun t => xM L t i * xM L t k) L.length * topZ L v k) (L.getD 0 []).length = sumN (fun j => sumN (fun t => xM L t i * xM L t j) L.length * sumN (fun k => adjZ (L.getD 0 []).length (gramL L) j k * rightZ L v k) (L.getD 0 []).length) (L.getD 0 []).length :=
    sumN_congr fun j _ => by rw [top_sum]
  rw [e2, mat_assoc (fun j => sumN (fun t => xM L t i * xM L t j) L.length) (fun j k => adjZ (L.getD 0 []).length (gramL L) j k)]
  have e3 : sumN (fun k => sumN (fun j => sumN (fun t => xM L t i * xM L t j) L.length * adjZ (L.getD 0 []).length (gramL L) j k) (L.getD 0 []).length * rightZ L v k) (L.getD 0 []).length = sumN (fun k => (if i = k then detG L else 0) * rightZ L v k) (L.getD 0 []).length :=
    sumN_congr fun k hk => by rw [adj_right h hi hk]
  rw [e3, sumN_delta, if_pos hi]
  omega
/-- Values that fit come back. -/
theorem fit_top {L : List (List Int)} {v z : Nat → Int} (h : desB L = true) (hv : ∀ t, t < L.length → v t = sumN (fun j => xM L t j * z j) (L.getD 0 []).length) {i : Nat} (hi : i < (L.getD 0 []).length) : topZ L v i = detG L * z i := by
  have e0 : ∀ k, rightZ L v k = sumN (fun j => sumN (fun t => xM L t k * xM L t j) L.length * z j) (L.getD 0 []).length := fun k => by
    rw [right_sum h, ← mat_assoc (fun t => xM L t k) (fun t j => xM L t j)]
    exact sumN_congr fun t ht => by rw [hv t ht]
  rw [top_sum]
  have e1 : sumN (fun k => adjZ (L.getD 0 []).length (gramL L) i k * rightZ L v k) (L.getD 0 []).length = sumN (fun k => adjZ (L.getD 0 []).length (gramL L) i k * sumN (fun j => sumN (fun t => xM L t k * xM L t j) L.length * z j) (L.getD 0 []).length) (L.getD 0 []).length :=
    sumN_congr fun k _ => by rw [e0]
  rw [e1, mat_assoc (fun k => adjZ (L.getD 0 []).length (gramL L) i k) (fun k j => sumN (fun t => xM L t k * xM L t j) L.length)]
  have e2 : sumN (fun j => sumN (fun k => adjZ (L.getD 0 []).length (gramL L) i k * sumN (fun t => xM L t k * xM L t j) L.length) (L.getD 0 []).length * z j) (L.getD 0 []).length = sumN (fun j => (if i = j then detG L else 0) * z j) (L.getD 0 []).length :=
    sumN_congr fun j hj => by rw [adj_left h hi hj]
  rw [e2, sumN_delta, if_pos hi]
theorem fit_res {L : List (List Int)} {v z : Nat → Int} (h : desB L = true) (hv : ∀ t, t < L.length → v t = sumN (fun j => xM L t j * z j) (L.getD 0 []).length) {t : Nat} (ht : t < L.length) : resZ L v t = 0 := by
  unfold resZ
  rw [dotZ_sum, hv t ht, ← sumN_mulL]
  have e : sumN (fun k => gl (L.getD t []) k * topZ L v k) (L.getD 0 []).length = sumN (fun k => detG L * (xM L t k * z k)) (L.getD 0 []).length :=
    sumN_congr fun k hk => by
      rw [fit_top h hv hk]
      unfold xM
      rw [Int.mul_left_comm]
  rw [e]
  omega
/-- A reduced fraction that is x / N has a bottom that divides N. -/
theorem low_dvd {p q N x : Int} (hco : Nat.gcd p.natAbs q.natAbs = 1) (h : p * N = x * q) : q ∣ N := by
  have h1 : q.natAbs ∣ p.natAbs * N.natAbs := by
    rw [← Int.natAbs_mul, h, Int.natAbs_mul]
    exact Nat.dvd_mul_left _ _
  have h2 : Nat.Coprime q.natAbs p.natAbs := by rw [Nat.coprime_comm]; exact hco
  exact Int.natAbs_dvd_natAbs.1 (h2.dvd_of_dvd_mul_left h1)
theorem low_small {p q N x : Int} (hq : 0 < q) (hN : 0 < N) (hco : Nat.gcd p.natAbs q.natAbs = 1) (h : p * N = x * q) : q ≤ N ∧ p.natAbs ≤ x.natAbs := by
  obtain ⟨k, hk⟩ := low_dvd hco h
  have hk0 : 0 < k := by
    rcases Int.lt_or_le 0 k with h1 | h1
    · exact h1
    · have := Int.mul_nonpos_of_nonneg_of_nonpos (Int.le_of_lt hq) h1
      omega
  have hx : p * k = x := by
    have h2 : (p * k) * q = x * q := by rw [← h, hk, Int.mul_assoc, Int.mul_comm k q]
    exact Int.eq_of_mul_eq_mul_right (by omega) h2
  refine ⟨?_, ?_⟩
  · rw [hk]
    have := Int.mul_le_mul_of_nonneg_left (show 1 ≤ k by omega) (Int.le_of_lt hq)
    rw [Int.mul_one] at this; exact this
  · rw [← hx, Int.natAbs_mul]
    exact Nat.le_mul_of_pos_right _ (by omega)
theorem red_rep {t u N x : Int} (hu : 0 < u) (hN : 0 < N) (hN6 : N ≤ 1000000) (hx : -1000000 ≤ x ∧ x ≤ 1000000) (h : t * N = x * u) : redO t u = true ∧ rT t u * N = x * rB t u := by
  have hg : 0 < gN t u := gN_pos (by omega)
  obtain ⟨t', ht⟩ : ((gN t u : Nat) : Int) ∣ t := by rw [← Int.natAbs_dvd_natAbs]; simpa [gN] using Nat.gcd_dvd_left t.natAbs u.natAbs
  obtain ⟨u', hu'⟩ : ((gN t u : Nat) : Int) ∣ u := by rw [← Int.natAbs_dvd_natAbs]; simpa [gN] using Nat.gcd_dvd_right t.natAbs u.natAbs
  generalize hgg : gN t u = g at hg ht hu'
  have hg0 : (g : Int) ≠ 0 := by omega
  have e1 : rT t u = t' := by
    rw [rT, if_neg (by omega), hgg, ht, Int.mul_tdiv_cancel_left _ hg0]
  have hu0 : 0 < u' := by
    rcases Int.lt_or_le 0 u' with h1 | h1
    · exact h1
    · have := Int.mul_nonpos_of_nonneg_of_nonpos (show (0 : Int) ≤ (g : Int) by omega) h1
      omega
  have e2 : rB t u = u' := by
    rw [rB, hgg, hu', Int.natAbs_mul, Int.natAbs_natCast, Nat.mul_div_cancel_left _ hg]
    omega
  have hco : Nat.gcd t'.natAbs u'.natAbs = 1 := by
    have h1 : gN t u = g * Nat.gcd t'.natAbs u'.natAbs := by
      unfold gN
      rw [ht, hu', Int.natAbs_mul, Int.natAbs_mul, Int.natAbs_natCast, Nat.gcd_mul_left]
    rw [hgg] at h1
    exact Nat.eq_of_mul_eq_mul_left hg (by omega)
  have hv : t' * N = x * u' := by
    have h2 : (g : Int) * (t' * N) = (g : Int) * (x * u') := by
      rw [← Int.mul_assoc, ← ht, h]
      conv => lhs; rw [hu']
      rw [Int.mul_left_comm]
    exact Int.eq_of_mul_eq_mul_left hg0 h2
  obtain ⟨s1, s2⟩ := low_small hu0 hN hco hv
  rw [redO, e1, e2]
  refine ⟨frB_iff.2 ⟨by omega, by omega, hco⟩, hv⟩
theorem neg_tdiv' (t : Int) (g : Nat) : (-t).tdiv g = -(t.tdiv g) := Int.neg_tdiv ..
theorem rT_neg2 {t b : Int} (h : b ≠ 0) : rT (-t) (-b) = rT t b := by
  have hg : gN (-t) (-b) = gN t b := by unfold gN; rw [Int.natAbs_neg, Int.natAbs_neg]
  unfold rT
  rw [hg, neg_tdiv']
  rcases Int.lt_or_lt_of_ne h with h1 | h1
  · rw [if_neg (by omega), if_pos h1]
  · rw [if_pos (by omega), if_neg (by omega)]; omega
theorem rB_neg2 (t b : Int) : rB (-t) (-b) = rB t b := by
  have hg : gN (-t) (-b) = gN t b := by unfold gN; rw [Int.natAbs_neg, Int.natAbs_neg]
  unfold rB
  rw [hg, Int.natAbs_neg]
theorem redO_neg2 {t b : Int} (h : b ≠ 0) : redO (-t) (-b) = redO t b := by unfold redO; rw [rT_neg2 h, rB_neg2]
/-- x / N in lowest terms, where t / u is x / N: it can be made, and it is x / N. -/
theorem red_rep2 {t u N x : Int} (hu : u ≠ 0) (hN : 0 < N) (hN6 : N ≤ 1000000) (hx : -1000000 ≤ x ∧ x ≤ 1000000) (h : t * N = x * u) : redO t u = true ∧ rT t u * N = x * rB t u := by
  rcases Int.lt_or_lt_of_ne hu with h1 | h1
  · have := red_rep (t := -t) (u := -u) (N := N) (x := x) (by omega) hN hN6 hx (by rw [Int.neg_mul, Int.mul_neg, h])
    rw [redO_neg2 hu, rT_neg2 hu, rB_neg2] at this
    exact this
  · exact red_rep h1 hN hN6 hx h
theorem red_self {t u : Int} (hu : u ≠ 0) (hu6 : u.natAbs ≤ 1000000) (ht : t.natAbs ≤ 1000000) : redO t u = true := by
  rcases Int.lt_or_lt_of_ne hu with h1 | h1
  · have := red_rep2 (t := t) (u := u) (N := -u) (x := -t) hu (by omega) (by omega) (by omega) (by rw [Int.mul_neg, Int.neg_mul])
    exact this.1
  · exact (red_rep2 (t := t) (u := u) (N := u) (x := t) hu h1 (by omega) (by omega) rfl).1
theorem red_int {u x : Int} (hu : u ≠ 0) (hx : x.natAbs ≤ 1000000) : redO (u * x) u = true ∧ rT (u * x) u = x * rB (u * x) u := by
  have := red_rep2 (t := u * x) (u := u) (N := 1) (x := x) hu (by omega) (by omega) (by omega) (by rw [Int.mul_one, Int.mul_comm])
  rw [Int.mul_one] at this
  exact this
end Go.Proofs.Ytmnmnkenboejpaa
