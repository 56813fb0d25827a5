/- Plain laws: readings of values are solved by the values; the spreads. -/
import Derived.Test.YtmnmnkenboejpaaSolP
namespace Go.Proofs.Ytmnmnkenboejpaa
open Go.RowKit
set_option linter.unusedSimpArgs false
set_option linter.unusedVariables false
theorem frL_at (T : Nat → Int) (D : Int) : ∀ (m k : Nat), k < m → (frL T D m).getD (k * 2) 0 = mkT (T k) D ∧ (frL T D m).getD (k * 2 + 1) 0 = mkB (T k) D
  | 0, k, h => by omega
  | m + 1, k, h => by
    have hl := frL_len T D m
    simp only [frL, List.getD_eq_getElem?_getD]
    rcases Nat.lt_or_ge k m with h1 | h1
    · have ih := frL_at T D m k h1
      simp only [List.getD_eq_getElem?_getD] at ih
      rw [List.getElem?_append_left (by omega), List.getElem?_append_left (by omega)]
      exact ih
    · have : k = m := by omega
      subst this
      rw [List.getElem?_append_right (by omega), List.getElem?_append_right (by omega), hl, show k * 2 - k * 2 = 0 by omega, show k * 2 + 1 - k * 2 = 1 by omega]
      exact ⟨rfl, rfl⟩
theorem rB_one {u x : Int} (hu : u ≠ 0) : rB (u * x) u = 1 := by
  unfold rB gN
  rw [Int.natAbs_mul, Nat.gcd_comm, Nat.gcd_mul_right_right, Nat.div_self (by omega)]
  rfl
theorem fit_vals {L : List (List Int)} {X : Nat → Int} (h : detB L = true) (hX : ∀ i, i < (L.getD 0 []).length → (X i).natAbs ≤ 20) :
    RdOk L (rdL L X) ∧ fitB L L.length (gl (rdL L X)) = true ∧ ∀ k, k < (L.getD 0 []).length → mkT (gl (topsL L (gl (rdL L X))) k) (detG L) = X k ∧ mkB (gl (topsL L (gl (rdL L X))) k) (detG L) = 1 := by
  have hok : RdOk L (rdL L X) := ⟨by simp [rdL], Or.inr ⟨X, hX, rfl⟩⟩
  have hrd := ok_rd h hok
  have hso := ok_so h hok
  obtain ⟨hd, hne, _, hr⟩ := rdB_all hrd
  have hv : ∀ t, t < L.length → gl (rdL L X) t = sumN (fun j => xM L t j * X j) (L.getD 0 []).length := fun t ht => (rdL_at hd hX ht).1
  refine ⟨hok, ?_, fun k hk => ?_⟩
  · rw [fit_sq hso, decide_eq_true_eq, (sq_ex hrd).1]
    exact dotZ_zero fun t ht => fit_res hd hv ht
  · have ht := top_ex hd hr hk
    have hdb := (detG_ex hd).2
    have hx := hX k hk
    rw [ht.1]
    have htb := ht.2
    rw [fit_top hd hv hk] at htb ⊢
    have hri := red_int (u := detG L) (x := X k) hne (by omega)
    have hmo : mkO (detG L * X k) (detG L) = true := mkO_yes hne (by omega) (by omega) hri.1
    unfold mkT mkB
    rw [if_pos hmo, if_pos hmo, hri.2, rB_one hne, Int.mul_one]
    exact ⟨rfl, rfl⟩
theorem spread_vals {L : List (List Int)} (h : detB L = true) {k : Nat} (hk : k < (L.getD 0 []).length) :
    mkO (adjV (L.getD 0 []).length (gramL L) k k) (detG L) = true ∧ mkB (adjV (L.getD 0 []).length (gramL L) k k) (detG L) ≤ mkT (adjV (L.getD 0 []).length (gramL L) k k) (detG L) * L.length ∧ (mkT (adjV (L.getD 0 []).length (gramL L) k k) (detG L)).natAbs ≤ 1000000 ∧ (mkB (adjV (L.getD 0 []).length (gramL L) k k) (detG L)).natAbs ≤ 1000000 := by
  unfold detB at h
  simp only [Bool.and_eq_true, bne_iff_ne] at h
  obtain ⟨hd, hne⟩ := h
  have hdb := (detG_ex hd).2
  have ha := adj_ex hd k k
  have hm := minor_ge hd hne hk
  rw [← ha.1] at hm
  have hab := ha.2
  rw [← ha.1] at hab
  generalize adjV (L.getD 0 []).length (gramL L) k k = t at *
  have hr := red_ge (t := t) (u := detG L) (q := 1) (n := L.length) hne (by omega) (by omega) (by omega) (by omega)
  have hmo : mkO t (detG L) = true := mkO_yes hne (by omega) (by omega) hr.1
  unfold mkT mkB
  rw [if_pos hmo, if_pos hmo]
  exact ⟨hmo, by have := hr.2.1; omega, hr.2.2.1, hr.2.2.2⟩
theorem total_vals {L : List (List Int)} (h : detB L = true) :
    mkO (sumN (fun q => adjV (L.getD 0 []).length (gramL L) q q) (L.getD 0 []).length) (detG L) = true ∧ (L.getD 0 []).length * mkB (sumN (fun q => adjV (L.getD 0 []).length (gramL L) q q) (L.getD 0 []).length) (detG L) ≤ mkT (sumN (fun q => adjV (L.getD 0 []).length (gramL L) q q) (L.getD 0 []).length) (detG L) * L.length ∧ (mkT (sumN (fun q => adjV (L.getD 0 []).length (gramL L) q q) (L.getD 0 []).length) (detG L)).natAbs ≤ 1000000 ∧ (mkB (sumN (fun q => adjV (L.getD 0 []).length (gramL L) q q) (L.getD 0 []).length) (detG L)).natAbs ≤ 1000000 := by
  unfold detB at h
  simp only [Bool.and_eq_true, bne_iff_ne] at h
  obtain ⟨hd, hne⟩ := h
  have hdb := (detG_ex hd).2
  have h4 := (des_at hd).2.1.2
  have hs := sumN_bd (f := fun q => adjV (L.getD 0 []).length (gramL L) q q) (n := (L.getD 0 []).length) (a := -3072) (b := 3072) (fun k _ => by have := adj_ex hd k k; rw [this.1]; have := this.2; omega)
  have hle : ((L.getD 0 []).length : Int) * (detG L * detG L) ≤ L.length * (detG L * sumN (fun q => adjV (L.getD 0 []).length (gramL L) q q) (L.getD 0 []).length) := by
    rw [← sumN_const, ← sumN_mulL, ← sumN_mulL]
    refine sumN_le fun k hk => ?_
    have := minor_ge hd hne hk
    rw [← (adj_ex hd k k).1] at this
    exact this
  generalize sumN (fun q => adjV (L.getD 0 []).length (gramL L) q q) (L.getD 0 []).length = t at *
  have hr := red_ge (t := t) (u := detG L) (q := (L.getD 0 []).length) (n := L.length) hne (by omega) (by omega) (by omega) hle
  have hmo : mkO t (detG L) = true := mkO_yes hne (by omega) (by omega) hr.1
  unfold mkT mkB
  rw [if_pos hmo, if_pos hmo]
  exact ⟨hmo, hr.2⟩
end Go.Proofs.Ytmnmnkenboejpaa
