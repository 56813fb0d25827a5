/- Plain laws on spans: the common span, the points, the most agreeing. -/
import Derived.Test.YtjkakoflfhjodaaPairs
import Derived.Test.YtjkakoflfhjodaaCommon
import Derived.Test.YtjkakoflfhjodaaMost
import Derived.Test.YtjkakoflfhjodaaOdd
import Derived.Test.YtjkakoflfhjodaaFew
namespace Go.Proofs.Ytjkakoflfhjodaa
open Go.RowKit
set_option linter.unusedSimpArgs false
set_option linter.unusedVariables false
theorem loN_ge (v : Nat → Int) : ∀ n k, k < n → v (k * 2) ≤ loN v n
  | 0, k, h => by omega
  | n + 1, k, h => by
    simp only [loN]
    rcases Nat.lt_or_ge k n with h1 | h1
    · have := loN_ge v n k h1; omega
    · obtain rfl : k = n := by omega
      omega
theorem hiN_le (v : Nat → Int) : ∀ n k, k < n → hiN v n ≤ v (k * 2 + 1)
  | 0, k, h => by omega
  | n + 1, k, h => by
    simp only [hiN]
    rcases Nat.lt_or_ge k n with h1 | h1
    · have := hiN_le v n k h1; omega
    · obtain rfl : k = n := by omega
      omega
theorem loN_at (v : Nat → Int) : ∀ n, 1 ≤ n → ∃ k, k < n ∧ loN v n = v (k * 2)
  | 1, _ => ⟨0, by omega, by simp [loN]⟩
  | n + 2, _ => by
    obtain ⟨k, h1, h2⟩ := loN_at v (n + 1) (by omega)
    rw [loN]
    rcases Int.le_total (loN v (n + 1)) (v ((n + 1) * 2)) with h3 | h3
    · exact ⟨n + 1, by omega, by omega⟩
    · exact ⟨k, by omega, by omega⟩
theorem hiN_at (v : Nat → Int) : ∀ n, 1 ≤ n → ∃ k, k < n ∧ hiN v n = v (k * 2 + 1)
  | 1, _ => ⟨0, by omega, by simp [hiN]⟩
  | n + 2, _ => by
    obtain ⟨k, h1, h2⟩ := hiN_at v (n + 1) (by omega)
    rw [hiN]
    rcases Int.le_total (hiN v (n + 1)) (v ((n + 1) * 2 + 1)) with h3 | h3
    · exact ⟨k, by omega, by omega⟩
    · exact ⟨n + 1, by omega, by omega⟩
theorem pair_iff {n : Nat} {v : Nat → Int} (hs : spansB n v = true) (hn : 1 ≤ n) : pairB n v = decide (loN v n ≤ hiN v n) := by
  rw [Bool.eq_iff_iff]
  simp only [pairB, hs, Bool.true_and, allN_iff, rowB, decide_eq_true_eq]
  constructor
  · intro h
    obtain ⟨a, ha, ea⟩ := loN_at v n hn
    obtain ⟨b, hb, eb⟩ := hiN_at v n hn
    rw [ea, eb]
    exact h a ha b hb
  · intro h a ha b hb
    have := loN_ge v n a ha
    have := hiN_le v n b hb
    omega
theorem cnt_all {v : Nat → Int} {x : Int} : ∀ n, cnt v x n = n ↔ ∀ k, k < n → inB x (v (k * 2)) (v (k * 2 + 1)) = true
  | 0 => by simp [cnt]
  | n + 1 => by
    have ih := cnt_all (v := v) (x := x) n
    have hle := cnt_le v x n
    simp only [cnt]
    constructor
    · intro h k hk
      have hx : inB x (v (n * 2)) (v (n * 2 + 1)) = true := by
        apply Classical.byContradiction
        intro hx
        rw [if_neg hx] at h
        omega
      rw [if_pos hx] at h
      rcases Nat.lt_or_ge k n with h1 | h1
      · exact ih.1 (by omega) k h1
      · obtain rfl : k = n := by omega
        exact hx
    · intro h
      rw [if_pos (h n (by omega)), ih.2 fun k hk => h k (by omega)]
theorem cnt_pos {v : Nat → Int} {x : Int} {k : Nat} (h : inB x (v (k * 2)) (v (k * 2 + 1)) = true) : ∀ n, k < n → 1 ≤ cnt v x n
  | 0, h => by omega
  | n + 1, hk => by
    simp only [cnt]
    rcases Nat.lt_or_ge k n with h1 | h1
    · have := cnt_pos h n h1; omega
    · obtain rfl : k = n := by omega
      rw [if_pos h]; omega
theorem mo_ge (v : Nat → Int) (n : Nat) : ∀ m k, k < m → cnt v (v (k * 2)) n ≤ (mo v n m).1
  | 0, k, h => by omega
  | m + 1, k, h => by
    rw [mo]
    rcases Nat.lt_or_ge k m with h1 | h1
    · have := mo_ge v n m k h1
      split
      · rename_i h2; simp only; omega
      · omega
    · obtain rfl : k = m := by omega
      split
      · simp only; omega
      · rename_i h2; omega
theorem mo_cnt (v : Nat → Int) (n : Nat) : ∀ m, 1 ≤ m → 1 ≤ cnt v (v 0) n → (mo v n m).1 = cnt v (mo v n m).2 n
  | 1, _, h => by
    rw [mo_yes (Or.inl (by simp only [mo, Nat.zero_mul]; omega))]
  | m + 2, _, h => by
    have ih := mo_cnt v n (m + 1) (by omega) h
    rw [mo]
    split
    · rfl
    · exact ih
theorem odd_len (v : Nat → Int) (x : Int) : ∀ n, (oddN v x n).length + cnt v x n = n
  | 0 => by simp [oddN, cnt]
  | n + 1 => by
    have ih := odd_len v x n
    simp only [oddN, cnt]
    split
    · simp; omega
    · simp; omega
theorem odd_mem (v : Nat → Int) (x : Int) : ∀ (n k : Nat), (k : Int) ∈ oddN v x n ↔ k < n ∧ ¬ inB x (v (k * 2)) (v (k * 2 + 1)) = true
  | 0, k => by simp [oddN]
  | n + 1, k => by
    have ih := odd_mem v x n k
    simp only [oddN, List.mem_append, ih]
    by_cases hx : inB x (v (n * 2)) (v (n * 2 + 1)) = true
    · rw [if_pos hx]
      constructor
      · rintro (h | h)
        · exact ⟨by omega, h.2⟩
        · simp at h
      · rintro ⟨h1, h2⟩
        left
        refine ⟨?_, h2⟩
        rcases Nat.lt_or_ge k n with h3 | h3
        · exact h3
        · obtain rfl : k = n := by omega
          exact absurd hx h2
    · rw [if_neg hx]
      constructor
      · rintro (h | h)
        · exact ⟨by omega, h.2⟩
        · simp at h
          obtain rfl : k = n := by omega
          exact ⟨by omega, hx⟩
      · rintro ⟨h1, h2⟩
        rcases Nat.lt_or_ge k n with h3 | h3
        · exact Or.inl ⟨h3, h2⟩
        · right; simp; omega
theorem nx_neg {v : Nat → Int} {d : Nat → Bool} : ∀ {n : Nat}, nx v d n < 0 → ∀ j, j < n → d j = true
  | 0, _, j, hj => by omega
  | n + 1, h, j, hj => by
    rw [nx] at h
    split at h
    · omega
    · rename_i h2
      rcases Nat.lt_or_ge j n with h3 | h3
      · exact nx_neg h j h3
      · obtain rfl : j = n := by omega
        cases hd : d j with
        | true => rfl
        | false => exact absurd ⟨hd, Or.inl h⟩ h2
theorem few_hits {n : Nat} {v : Nat → Int} (hv : ∀ k, k < n → v (k * 2) ≤ v (k * 2 + 1)) : ∀ (f : Nat) (d : Nat → Bool), und d n ≤ f → ∀ k, k < n → d k = false → ∃ p ∈ few v n f d, v (k * 2) ≤ p ∧ p ≤ v (k * 2 + 1)
  | 0, d, hf, k, hk, hd => by
    have h1 := und_lt (d := d) (d' := fun _ => true) (k := n) (I := k) (fun _ _ _ => rfl) hk hd rfl
    omega
  | f + 1, d, hf, k, hk, hd => by
    rcases (by omega : nx v d n < 0 ∨ 0 ≤ nx v d n) with h | h
    · have := nx_neg h k hk
      rw [hd] at this
      cases this
    · obtain ⟨I, hI⟩ := Int.eq_ofNat_of_zero_le h
      have hb := nx_bd v d n
      rw [hI] at hb
      rw [few_go hI]
      by_cases hp : inB (v (I * 2 + 1)) (v (k * 2)) (v (k * 2 + 1)) = true
      · have := inB_iff.1 hp
        exact ⟨_, List.mem_cons_self, this.1, this.2⟩
      · have hu := und_hit hI (hv I (by omega))
        obtain ⟨p, h1, h2⟩ := few_hits hv f (hit v (v (I * 2 + 1)) d n) (by omega) k hk (by simp only [hit, hk, if_true, hd, Bool.false_or]; simpa using hp)
        exact ⟨p, List.mem_cons_of_mem _ h1, h2⟩
end Go.Proofs.Ytjkakoflfhjodaa
