/- Plain laws on signs: what Eliminates counts; signs followed by their opposites cancel one degree more. -/
import Derived.Test.YtmgfejdgjfldfaaDrift
import Derived.Test.YtmgfejdgjfldfaaThue
import Derived.Test.YtmgfejdgjfldfaaShort
namespace Go.Proofs.Ytmgfejdgjfldfaa
open Go.RowKit
set_option linter.unusedSimpArgs false
set_option linter.unusedVariables false
theorem sumN_split (f : Nat → Int) (a : Nat) : ∀ b, sumN f (a + b) = sumN f a + sumN (fun j => f (a + j)) b
  | 0 => by simp [sumN]
  | b + 1 => by
    rw [← Nat.add_assoc]
    simp only [sumN]
    rw [sumN_split f a b]
    omega
theorem sumN_lin (f g : Nat → Int) (c : Int) : ∀ n, sumN (fun j => f j + c * g j) n = sumN f n + c * sumN g n
  | 0 => by simp [sumN]
  | n + 1 => by
    simp only [sumN]
    rw [sumN_lin f g c n, Int.mul_add]
    omega
theorem sumN_nil : ∀ n, sumN (fun _ => 0) n = 0
  | 0 => rfl
  | n + 1 => by
    simp only [sumN]
    rw [sumN_nil n]
    rfl
theorem sumN_neg (f : Nat → Int) : ∀ n, sumN (fun j => -(f j)) n = -(sumN f n)
  | 0 => by simp [sumN]
  | n + 1 => by
    simp only [sumN]
    rw [sumN_neg f n]
    omega
theorem elimN_zero (f : Nat → Int) : ∀ r d i, d ≤ i → i < elimN f r d → f i = 0
  | 0, d, i, h1, h2 => by simp only [elimN] at h2; omega
  | r + 1, d, i, h1, h2 => by
    simp only [elimN] at h2
    split at h2
    · rename_i h3
      rcases Nat.lt_or_ge d i with h | h
      · exact elimN_zero f r (d + 1) i h h2
      · obtain rfl : i = d := by omega
        simpa using h3
    · omega
theorem elimN_ge (f : Nat → Int) : ∀ r d m, d ≤ m → m ≤ d + r → (∀ i, d ≤ i → i < m → f i = 0) → m ≤ elimN f r d
  | 0, d, m, h1, h2, h => by simp only [elimN]; omega
  | r + 1, d, m, h1, h2, h => by
    simp only [elimN]
    rcases Nat.lt_or_ge d m with h3 | h3
    · have h4 := h d (Nat.le_refl _) h3
      rw [if_pos (by simpa using h4)]
      exact elimN_ge f r (d + 1) m h3 (by omega) (fun i h5 h6 => h i (by omega) h6)
    · split
      · have := (elimN_bd f r (d + 1)).1
        omega
      · omega
/-- Mixed powers of the place and of the place behind n. -/
def mixS (z : Nat → Int) (n i d : Nat) : Int := sumN (fun j => z j * ((pw j i * pw (n + j) d : Nat) : Int)) n
theorem mixS_succ (z : Nat → Int) (n i d : Nat) : mixS z n i (d + 1) = mixS z n (i + 1) d + n * mixS z n i d := by
  unfold mixS
  rw [← sumN_lin]
  refine sumN_congr fun j _ => ?_
  rw [pw_succ, pw_succ]
  have e : pw j i * (pw (n + j) d * (n + j)) = pw j i * j * pw (n + j) d + n * (pw j i * pw (n + j) d) := by
    rw [Nat.mul_add, Nat.mul_add]
    rw [show pw j i * (pw (n + j) d * n) = n * (pw j i * pw (n + j) d) by ac_rfl, show pw j i * (pw (n + j) d * j) = pw j i * j * pw (n + j) d by ac_rfl]
    omega
  rw [e]
  push_cast
  rw [Int.mul_add]
  congr 1
  ac_rfl
theorem mixS_zero (z : Nat → Int) (n i : Nat) : mixS z n i 0 = sumN (sgT z i) n := by
  unfold mixS
  refine sumN_congr fun j _ => ?_
  simp [sgT, pw_zero]
theorem mixS_eq {z : Nat → Int} {n m : Nat} (h : ∀ i, i < m → sumN (sgT z i) n = 0) : ∀ d i, i + d ≤ m → mixS z n i d = sumN (sgT z (i + d)) n
  | 0, i, _ => mixS_zero z n i
  | d + 1, i, hi => by
    rw [mixS_succ, mixS_eq h d (i + 1) (by omega), mixS_eq h d i (by omega), h (i + d) (by omega)]
    rw [show i + 1 + d = i + (d + 1) by omega]
    simp
/-- Signs and behind them their opposites cancel every degree up to the count of the signs' own. -/
theorem both_zero {z v : Nat → Int} {n m : Nat} (h : ∀ i, i < m → sumN (sgT z i) n = 0) (h1 : ∀ j, j < n → v j = z j) (h2 : ∀ j, j < n → v (n + j) = -(z j)) (d : Nat) (hd : d ≤ m) : sumN (sgT v d) (n + n) = 0 := by
  rw [sumN_split]
  have e1 : sumN (sgT v d) n = sumN (sgT z d) n := sumN_congr fun j hj => by simp only [sgT]; rw [h1 j hj]
  have e2 : sumN (fun j => sgT v d (n + j)) n = -(mixS z n 0 d) := by
    unfold mixS
    rw [← sumN_neg]
    refine sumN_congr fun j hj => ?_
    simp only [sgT]
    rw [h2 j hj, pw_zero, Nat.one_mul, Int.neg_mul]
  rw [e1, e2, mixS_eq h d 0 (by omega), Nat.zero_add]
  omega
theorem elimV_bd (n : Nat) (v : Nat → Int) : 0 ≤ elimV n v ∧ elimV n v ≤ 6 := by
  unfold elimV; split
  · have := elimN_bd (fun d => sumN (sgT v d) n) 6 0; omega
  · omega
theorem elimV_zero {n : Nat} {v : Nat → Int} {i : Nat} (h : (i : Int) < elimV n v) : sumN (sgT v i) n = 0 := by
  unfold elimV at h
  split at h
  · exact elimN_zero (fun d => sumN (sgT v d) n) 6 0 i (Nat.zero_le _) (by omega)
  · omega
theorem elimV_ge {n m : Nat} {v : Nat → Int} (hs : sgnB n v = true) (hn : n ≠ 0) (hm : m ≤ 6) (h : ∀ i, i < m → sumN (sgT v i) n = 0) : (m : Int) ≤ elimV n v := by
  unfold elimV
  rw [if_pos ⟨hs, hn⟩]
  have := elimN_ge (fun d => sumN (sgT v d) n) 6 0 m (Nat.zero_le _) (by omega) (fun i _ hi => h i hi)
  omega
theorem both_law {z v : Nat → Int} {n : Nat} (hs : sgnB n z = true) (hn : n ≠ 0) (hn2 : n + n ≤ 32) (h6 : elimV n z ≠ 6) (h1 : ∀ j, j < n → v j = z j) (h2 : ∀ j, j < n → v (n + j) = -(z j)) : elimV n z + 1 ≤ elimV (n + n) v := by
  obtain ⟨b0, b6⟩ := elimV_bd n z
  obtain ⟨E, hE⟩ := Int.eq_ofNat_of_zero_le b0
  have hpm := (sgnB_inv hs).2
  have hsv : sgnB (n + n) v = true := by
    simp only [sgnB, Bool.and_eq_true, decide_eq_true_eq, allN_iff]
    refine ⟨hn2, fun k hk => ?_⟩
    simp only [signP, decide_eq_true_eq]
    rcases Nat.lt_or_ge k n with h | h
    · rw [h1 k h]; exact hpm k h
    · have := h2 (k - n) (by omega)
      rw [show n + (k - n) = k by omega] at this
      have := hpm (k - n) (by omega)
      omega
  have := elimV_ge (m := E + 1) hsv (by omega) (by omega) (fun i hi => both_zero (m := E) (fun i hi => elimV_zero (by omega)) h1 h2 i (by omega))
  omega
theorem sgnV_zero {n : Nat} {z : Nat → Int} {d : Nat} (h : (d : Int) < elimV n z) : sgnV n z d = 0 := by
  unfold sgnV; split
  · exact elimV_zero h
  · rfl
theorem driftV_zero {n m : Nat} {z u : Nat → Int} (h : (m : Int) ≤ elimV n z) : driftV n z m u = 0 := by
  unfold driftV; split
  · have e : sumN (drT n z u) m = sumN (fun _ => 0) m := sumN_congr fun j hj => by simp only [drT]; rw [elimV_zero (by omega)]; simp
    rw [e, sumN_nil]
  · rfl
theorem thue_law : ∀ k, k < 6 → elimV (thI k).length (fun j => (thI k).getD j 0) = k := by decide +kernel
end Go.Proofs.Ytmgfejdgjfldfaa
