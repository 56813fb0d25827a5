/- Plain laws of drawn readings: they are valid, they can be solved, they fit exactly just if the squares are nought; the worst row, the best exchange. -/
import Derived.Test.YtmnmnkenboejpaaResP
namespace Go.Proofs.Ytmnmnkenboejpaa
open Go.RowKit
set_option linter.unusedSimpArgs false
set_option linter.unusedVariables false
theorem rdL_at {L : List (List Int)} {x : Nat → Int} (h : desB L = true) (hx : ∀ i, i < (L.getD 0 []).length → (x i).natAbs ≤ 20) {t : Nat} (ht : t < L.length) : gl (rdL L x) t = sumN (fun j => xM L t j * x j) (L.getD 0 []).length ∧ (gl (rdL L x) t).natAbs ≤ 80 := by
  have h4 := (des_at h).2.1.2
  have e := dot_ex (x := gl (L.getD t [])) (y := x) (X := 1) (Y := 20) (n := (L.getD 0 []).length) (fun j _ => des_gl h ht j) hx (by omega)
  unfold rdL
  rw [gl_map_range _ ht, e.1]
  exact ⟨by rw [dotZ_sum]; rfl, Nat.le_trans e.2 (by omega)⟩
theorem ok_rng {L : List (List Int)} {l : List Int} (h : desB L = true) (ho : RdOk L l) : rngB L.length (gl l) = true := by
  refine allN_iff.2 fun t ht => inB_iff.2 ?_
  rcases ho.2 with h1 | ⟨x, hx, rfl⟩
  · have := gl_mem h1 t; omega
  · have := (rdL_at h hx ht).2; omega
theorem ok_rd {L : List (List Int)} {l : List Int} (h : detB L = true) (ho : RdOk L l) : rdB L L.length (gl l) = true := by
  have hd : desB L = true := by unfold detB at h; simp only [Bool.and_eq_true] at h; exact h.1
  unfold rdB
  simp only [Bool.and_eq_true, decide_eq_true_eq]
  exact ⟨⟨h, trivial⟩, ok_rng hd ho⟩
theorem mkO_yes {t b : Int} (h0 : b ≠ 0) (ht : t.natAbs ≤ 1000000000000) (hb : b.natAbs ≤ 1000000000000) (hr : redO t b = true) : mkO t b = true := by
  unfold mkO
  simp only [Bool.and_eq_true, decide_eq_true_eq]
  exact ⟨⟨⟨h0, inB_iff.2 (by omega)⟩, inB_iff.2 (by omega)⟩, hr⟩
theorem top_small {L : List (List Int)} {v : Nat → Int} (h : desB L = true) (hv : ∀ t, t < L.length → (v t).natAbs ≤ 10) {i : Nat} (hi : i < (L.getD 0 []).length) : (topZ L v i).natAbs ≤ 983040 := by
  have h4 := (des_at h).2.1.2
  have h8 := (des_at h).1.2
  have hr : ∀ k, k < (L.getD 0 []).length → (rightZ L v k).natAbs ≤ 80 := fun k hk =>
    Nat.le_trans (dot_ex (x := gl (colL L k)) (y := v) (X := 1) (Y := 10) (n := L.length) (fun j hj => (col_gl h k hj).2) hv (by omega)).2 (by omega)
  exact Nat.le_trans (dot_ex (x := adjZ (L.getD 0 []).length (gramL L) i) (y := rightZ L v) (X := 3072) (Y := 80) (n := (L.getD 0 []).length) (fun j hj => (adj_ex h i j).2) hr (by omega)).2 (by omega)
theorem fit_so {L : List (List Int)} {v z : Nat → Int} (h : rdB L L.length v = true) (hz : ∀ i, i < (L.getD 0 []).length → (z i).natAbs ≤ 1000000) (hv : ∀ t, t < L.length → v t = sumN (fun j => xM L t j * z j) (L.getD 0 []).length) : soB L L.length v = true := by
  obtain ⟨hd, hne, _, hr⟩ := rdB_all h
  unfold soB
  rw [h, Bool.true_and]
  refine allN_iff.2 fun k hk => ?_
  show mkO (gl (topsL L v) k) (detG L) = true
  have hdb := (detG_ex hd).2
  have ht := (top_ex hd hr hk)
  rw [ht.1]
  refine mkO_yes hne (by omega) (by omega) ?_
  rw [fit_top hd hv hk]
  exact (red_int hne (by have := hz k hk; omega)).1
theorem ok_so {L : List (List Int)} {l : List Int} (h : detB L = true) (ho : RdOk L l) : soB L L.length (gl l) = true := by
  have hrd := ok_rd h ho
  obtain ⟨hd, hne, _, hr⟩ := rdB_all hrd
  rcases ho.2 with h1 | ⟨x, hx, rfl⟩
  · unfold soB
    rw [hrd, Bool.true_and]
    refine allN_iff.2 fun k hk => ?_
    show mkO (gl (topsL L (gl l)) k) (detG L) = true
    have hdb := (detG_ex hd).2
    have ht := (top_ex hd hr hk)
    have hs := top_small hd (v := gl l) (fun t _ => gl_mem h1 t) hk
    rw [ht.1]
    exact mkO_yes hne (by omega) (by omega) (red_self hne (by omega) (by omega))
  · exact fit_so hrd (fun i hi => by have := hx i hi; omega) (fun t ht => (rdL_at hd hx ht).1)
theorem dotZ_sq0 {x : Nat → Int} : ∀ {n : Nat}, dotZ x x n = 0 → ∀ k, k < n → x k = 0
  | 0, _, k, hk => by omega
  | n + 1, h, k, hk => by
    have h1 := dotZ_sq x n
    have h2 : 0 ≤ x n * x n := by
      rcases Int.le_total 0 (x n) with h | h
      · exact Int.mul_nonneg h h
      · exact Int.mul_nonneg_of_nonpos_of_nonpos h h
    simp only [dotZ] at h
    rcases Nat.lt_or_ge k n with h3 | h3
    · exact dotZ_sq0 (n := n) (by omega) k h3
    · have : k = n := by omega
      subst this
      have h4 : x k * x k = 0 := by omega
      rcases Int.mul_eq_zero.1 h4 with h5 | h5 <;> exact h5
theorem dotZ_zero {x : Nat → Int} : ∀ {n : Nat}, (∀ k, k < n → x k = 0) → dotZ x x n = 0
  | 0, _ => rfl
  | n + 1, h => by simp only [dotZ]; rw [dotZ_zero (n := n) (fun k hk => h k (by omega)), h n (by omega)]; rfl
theorem res_at {L : List (List Int)} {v : Nat → Int} (h : rdB L L.length v = true) {t : Nat} (ht : t < L.length) : gl (resV L L.length v) t = resZ L v t ∧ (gl (resV L L.length v) t).natAbs ≤ 268435456 := by
  obtain ⟨hd, hne, _, hr⟩ := rdB_all h
  have e := res_ex hd hr ht
  unfold resV
  rw [if_pos h, e.1]
  exact ⟨rfl, e.2⟩
theorem fit_sq {L : List (List Int)} {v : Nat → Int} (h : soB L L.length v = true) : fitB L L.length v = decide (sqV L L.length v = 0) := by
  have hrd : rdB L L.length v = true := by unfold soB at h; simp only [Bool.and_eq_true] at h; exact h.1
  have e := (sq_ex hrd).1
  unfold fitB
  rw [h, Bool.true_and, Bool.eq_iff_iff, allN_iff, decide_eq_true_eq, e]
  constructor
  · intro h1
    exact dotZ_zero fun k hk => by
      have := h1 k hk
      simp only [fitP, decide_eq_true_eq] at this
      rw [← (res_at hrd hk).1]; exact this
  · intro h1 k hk
    simp only [fitP, decide_eq_true_eq]
    rw [(res_at hrd hk).1]
    exact dotZ_sq0 h1 k hk
theorem sq_dot {L : List (List Int)} {n : Nat} {v : Nat → Int} (h : rdB L n v = true) : dotV (gl (resV L n v)) (gl (resV L n v)) n = sqV L n v := by
  unfold sqV; rw [if_pos h, res_len h]
theorem normal_dot {L : List (List Int)} {v : Nat → Int} (h : rdB L L.length v = true) {i : Nat} (hi : i < (L.getD 0 []).length) : dotV (fun k => xM L k i) (gl (resV L L.length v)) L.length = 0 := by
  obtain ⟨hd, hne, _, hr⟩ := rdB_all h
  have h8 := (des_at hd).1.2
  rw [(dot_ex (x := fun k => xM L k i) (y := gl (resV L L.length v)) (X := 1) (Y := 268435456) (fun k hk => des_gl hd hk i) (fun k hk => (res_at h hk).2) (by omega)).1, dotZ_sum, ← normal_eq (v := v) hd hi]
  exact sumN_congr fun k hk => by rw [(res_at h hk).1]
/-- The worst row's number, without its sign, is the greatest. -/
theorem wj_max {l : Nat → Int} : ∀ {k : Nat} (j : Nat), j < k → mxv (l j) ≤ mxv (l (wj l k))
  | 0, j, h => by omega
  | k + 1, j, h => by
    simp only [wj]
    rcases Nat.lt_or_ge j k with h1 | h1
    · have ih := wj_max (l := l) (k := k) j h1
      split
      · exact Int.le_of_lt (Int.lt_of_le_of_lt ih (by assumption))
      · exact ih
    · have : j = k := by omega
      subst this
      split
      · exact Int.le_refl _
      · omega
/-- What the search for the best exchange keeps. -/
def bsI (S : Nat → Nat → Int) (n : Nat) (m0 : Int) (s : Int × Int × Int) : Prop := (s = (-1, -1, m0)) ∨ ∃ i k : Nat, i < k ∧ k < n ∧ s = ((i : Int), (k : Int), S i k) ∧ S i k < m0
theorem bi_keep {S : Nat → Nat → Int} {n i : Nat} {m0 : Int} {s : Int × Int × Int} (h : bsI S n m0 s) : ∀ j, i + 1 + j ≤ n → bsI S n m0 (bi S i j s)
  | 0, _ => h
  | j + 1, hj => by
    have ih := bi_keep (n := n) (i := i) h j (by omega)
    simp only [bi, stp]
    split
    · rename_i hlt
      refine Or.inr ⟨i, i + 1 + j, by omega, by omega, rfl, ?_⟩
      rcases ih with e | ⟨a, b, _, _, e, hab⟩
      · rw [e] at hlt; exact hlt
      · rw [e] at hlt; exact Int.lt_trans hlt hab
    · exact ih
theorem bo_keep {S : Nat → Nat → Int} {n : Nat} {m0 : Int} : ∀ i, i ≤ n → bsI S n m0 (bo S n m0 i)
  | 0, _ => Or.inl rfl
  | i + 1, hi => by
    simp only [bo]
    exact bi_keep (n := n) (bo_keep i (by omega)) _ (by omega)
theorem bs_at {L : List (List Int)} {n : Nat} {v : Nat → Int} (h : rdB L n v = true) : bsV L n v = (-1, -1) ∨ ∃ i k : Nat, i < k ∧ k < n ∧ bsV L n v = ((i : Int), (k : Int)) ∧ sqV L n (swp v i k) < sqV L n v := by
  have hk := bo_keep (S := fun i k => sqV L n (swp v i k)) (n := n) (m0 := sqV L n v) n (Nat.le_refl _)
  unfold bsV
  rw [if_pos h]
  rcases hk with e | ⟨i, k, h1, h2, e, h3⟩
  · rw [e]; exact Or.inl rfl
  · rw [e]; exact Or.inr ⟨i, k, h1, h2, rfl, h3⟩
end Go.Proofs.Ytmnmnkenboejpaa
