/- Plain laws of drawn ratios: the factor between united units; sizes that agree with ratios that agree; products of factors. -/
import Derived.Test.YtfgkglbhbdfpfaaUniP
import Derived.Test.YtfgkglbhbdfpfaaCons
namespace Go.Proofs.Ytfgkglbhbdfpfaa
open Go.RowKit
set_option linter.unusedSimpArgs false
set_option linter.unusedVariables false
theorem u9_in {a : Int} (h : U9 a) : inB a 0 9 = true := inB_iff.2 h
theorem fac_no {v : Nat → Int} {n : Nat} {a b : Int} (hr : ratB n v = true) (ha : U9 a) (hb : U9 b) (h : reachB v n a b = false) : facV n v a b = .tuple #[.agg #[.int .i64 0, .int .i64 0], .bool false] := by
  unfold facV
  rw [uniB_yes hr (u9_in ha) (u9_in hb), h]
  rfl
theorem fac_yes {v : Nat → Int} {n : Nat} {sz : Int → Int} {w : Nat} {a b : Int} (H : Dr v n sz w) (ha : U9 a) (hb : U9 b) (h : reachB v n a b = true) :
    ∃ X Y, facV n v a b = .tuple #[.agg #[.int .i64 X, .int .i64 Y], .bool true] ∧ frB X Y = true ∧ 0 < X ∧ ∀ φ, Pot v n φ → X * φ b = Y * φ a := by
  obtain ⟨d, D, h0⟩ := reachB_iff.1 h
  have hg := facP_at D (ratB_U H.rat) ha h0
  have hs := H.szb a
  have hst : St v w sz d (sz a) a 1 1 := ⟨1, 1, frB_iff.2 ⟨by omega, by omega, by simp⟩, by omega, Or.inl ⟨rfl, rfl⟩⟩
  obtain ⟨X, Y, e1, e2, e3⟩ := fol_ok H hs _ a 1 1 hg hst
  refine ⟨X, Y, ?_, e2, e3, fun φ P => ?_⟩
  · unfold facV
    rw [uniB_yes H.rat (u9_in ha) (u9_in hb), h, if_pos rfl, e1]
    rfl
  · have := fol_pot H.rat P _ a 1 1 X Y hg e1
    rw [Int.one_mul, Int.one_mul] at this
    exact this
open Classical in
theorem pot_of {v : Nat → Int} {n : Nat} {sz : Int → Int} {w : Nat} (H : Dr v n sz w) : ∀ k, k ≤ n → (∀ j, j < k → conP v j = true) → ∃ φ, Pot v k φ
  | 0, _, _ => ⟨fun _ => 1, fun _ => by show (0 : Int) < 1; omega, fun i hi => by omega⟩
  | k + 1, hk, hc => by
    obtain ⟨φ, P⟩ := pot_of H k (by omega) (fun j hj => hc j (by omega))
    have Hk := H.less (k := k) (by omega)
    obtain ⟨hf, ht, hne, hfr, hpos⟩ := ratB_at H.rat (show k < n by omega)
    have hfb := (frB_iff.1 hfr).2.1
    have uf : U9 (v (k * 4)) := hf
    have ut : U9 (v (k * 4 + 1)) := ht
    rcases Bool.eq_false_or_eq_true (reachB v k (v (k * 4)) (v (k * 4 + 1))) with hrc | hrc
    · obtain ⟨X, Y, e1, _, _, e4⟩ := fac_yes Hk uf ut hrc
      have hcp := hc k (by omega)
      rw [conP_of e1] at hcp
      simp only [Bool.not_true, Bool.false_or, Bool.and_eq_true, beq_iff_eq] at hcp
      obtain ⟨rfl, rfl⟩ := hcp
      refine ⟨φ, P.1, fun i hi => ?_⟩
      rcases Nat.lt_or_ge i k with h1 | h1
      · exact P.2 i h1
      · have : i = k := by omega
        subst this
        exact e4 φ P
    · have hnr : ¬ Reach v k (v (k * 4)) (v (k * 4 + 1)) := fun h => by
        rw [reachB_iff.2 h] at hrc; cases hrc
      have hp1 : 0 < v (k * 4 + 2) * φ (v (k * 4 + 1)) := Int.mul_pos hpos (P.1 _)
      have hp2 : 0 < v (k * 4 + 3) * φ (v (k * 4)) := Int.mul_pos (by omega) (P.1 _)
      refine ⟨fun u => if U9 u ∧ Reach v k u (v (k * 4)) then φ u * (v (k * 4 + 2) * φ (v (k * 4 + 1))) else φ u * (v (k * 4 + 3) * φ (v (k * 4))), fun u => ?_, fun i hi => ?_⟩
      · dsimp only
        split
        · exact Int.mul_pos (P.1 u) hp1
        · exact Int.mul_pos (P.1 u) hp2
      · rcases Nat.lt_or_ge i k with h1 | h1
        · obtain ⟨gf, gt, _, _, _⟩ := ratB_at Hk.rat h1
          have ui : U9 (v (i * 4)) := gf
          have uj : U9 (v (i * 4 + 1)) := gt
          have hnx : nxt v (v (i * 4)) i = some (v (i * 4 + 1)) := by
            unfold nxt
            have := (ratB_at Hk.rat h1).2.2.1
            rw [if_neg (by omega), if_pos rfl]
          have hrij : Reach v k (v (i * 4)) (v (i * 4 + 1)) := cn_reach Hk.rat ui uj (Cn.step h1 hnx (Cn.refl _))
          have hiff : (U9 (v (i * 4)) ∧ Reach v k (v (i * 4)) (v (k * 4))) ↔ (U9 (v (i * 4 + 1)) ∧ Reach v k (v (i * 4 + 1)) (v (k * 4))) :=
            ⟨fun h => ⟨uj, reach_trans Hk.rat uj ui uf (reach_symm Hk.rat ui uj hrij) h.2⟩, fun h => ⟨ui, reach_trans Hk.rat ui uj uf hrij h.2⟩⟩
          have hP := P.2 i h1
          dsimp only
          by_cases hq : U9 (v (i * 4)) ∧ Reach v k (v (i * 4)) (v (k * 4))
          · rw [if_pos hq, if_pos (hiff.1 hq), ← Int.mul_assoc, hP, Int.mul_assoc]
          · rw [if_neg hq, if_neg (fun h => hq (hiff.2 h)), ← Int.mul_assoc, hP, Int.mul_assoc]
        · have : i = k := by omega
          subst this
          have hs : Reach v i (v (i * 4)) (v (i * 4)) := cn_reach Hk.rat uf uf (Cn.refl _)
          have hq2 : ¬ (U9 (v (i * 4 + 1)) ∧ Reach v i (v (i * 4 + 1)) (v (i * 4))) := fun h => hnr (reach_symm Hk.rat ut uf h.2)
          dsimp only
          rw [if_neg hq2, if_pos ⟨uf, hs⟩]
          grind
theorem pot_all {v : Nat → Int} {n : Nat} {sz : Int → Int} {w : Nat} (H : Dr v n sz w) (hc : conB n v = true) : ∃ φ, Pot v n φ := by
  simp only [conB, Bool.and_eq_true] at hc
  exact pot_of H n (Nat.le_refl _) (fun j hj => allN_iff.1 hc.2 j hj)
theorem frac_eq {p q z w : Int} (h1 : frB p q = true) (h2 : frB z w = true) (h : p * w = z * q) : p = z ∧ q = w := by
  obtain ⟨_, a1, a2⟩ := frB_iff.1 h1
  obtain ⟨_, b1, b2⟩ := frB_iff.1 h2
  have d1 := (low_small (p := p) (q := q) (N := w) (x := z) (by omega) (by omega) a2 h).1
  have d2 := (low_small (p := z) (q := w) (N := q) (x := p) (by omega) (by omega) b2 h.symm).1
  have : q = w := by omega
  subst this
  exact ⟨Int.eq_of_mul_eq_mul_right (by omega) h, rfl⟩
/-- The product of two fractions that is the fraction Z / W. -/
theorem prod_is {X Y R S Z W : Int} (h1 : frB X Y = true) (h2 : frB R S = true) (h3 : frB Z W = true) (h : (X * R) * W = Z * (Y * S)) : tO X Y R S = true ∧ tT X Y R S = Z ∧ tB X Y R S = W := by
  have b1 := (frB_iff.1 h1).2.1
  have b2 := (frB_iff.1 h2).2.1
  have b3 := frB_iff.1 h3
  obtain ⟨e1, e2⟩ := red_rep (t := X * R) (u := Y * S) (N := W) (x := Z) (Int.mul_pos (by omega) (by omega)) (by omega) (by omega) (by omega) h
  have ho : tO X Y R S = true := by unfold tO; rw [h1, h2, e1]; rfl
  have hfr : frB (tT X Y R S) (tB X Y R S) = true := (tO_at ho).2.2.2.1
  have e3 : tT X Y R S * W = Z * tB X Y R S := by unfold tT tB; rw [if_pos ho, if_pos ho]; exact e2
  obtain ⟨e4, e5⟩ := frac_eq hfr h3 e3
  exact ⟨ho, e4, e5⟩
theorem fr11 : frB 1 1 = true := frB_iff.2 ⟨by omega, by omega, by simp⟩
theorem prod_back {X Y R S a b : Int} (h1 : frB X Y = true) (h2 : frB R S = true) (ha : 0 < a) (hb : 0 < b) (e1 : X * b = Y * a) (e2 : R * a = S * b) : tO X Y R S = true ∧ tT X Y R S = 1 ∧ tB X Y R S = 1 := by
  refine prod_is h1 h2 fr11 ?_
  refine Int.eq_of_mul_eq_mul_right (a := a * b) (by have := Int.mul_pos ha hb; omega) ?_
  have : X * R * 1 * (a * b) = (X * b) * (R * a) := by grind
  rw [this, e1, e2]; grind
theorem prod_on {X Y X2 Y2 Z W a b c : Int} (h1 : frB X Y = true) (h2 : frB X2 Y2 = true) (h3 : frB Z W = true) (ha : 0 < a) (hb : 0 < b) (hc : 0 < c) (e1 : X * b = Y * a) (e2 : X2 * c = Y2 * b) (e3 : Z * c = W * a) : tO X Y X2 Y2 = true ∧ tT X Y X2 Y2 = Z ∧ tB X Y X2 Y2 = W := by
  refine prod_is h1 h2 h3 ?_
  have hp : 0 < a * b * c := Int.mul_pos (Int.mul_pos ha hb) hc
  refine Int.eq_of_mul_eq_mul_right (a := a * b * c) (by omega) ?_
  have h4 : X * X2 * W * (a * b * c) = (X * b) * (X2 * c) * (W * a) := by grind
  rw [h4, e1, e2, ← e3]; grind
theorem prod_one {X Y : Int} (h1 : frB X Y = true) : tO 1 1 X Y = true ∧ tT 1 1 X Y = X ∧ tB 1 1 X Y = Y := prod_is fr11 h1 h1 (by grind)
theorem cn_zero {v : Nat → Int} {a b : Int} (h : Cn v 0 a b) : a = b := by
  cases h with
  | refl => rfl
  | step he _ _ => omega
/-- A list of one ratio agrees. -/
theorem con_short {v : Nat → Int} {n : Nat} (hr : ratB n v = true) (hn : n < 2) : conB n v = true := by
  simp only [conB, Bool.and_eq_true]
  refine ⟨hr, allN_iff.2 fun k hk => ?_⟩
  have : k = 0 := by omega
  subst this
  obtain ⟨hf, ht, hne, _, _⟩ := ratB_at hr hk
  have h0 := ratB_less (k := 0) hr (by omega)
  have hno : reachB v 0 (v (0 * 4)) (v (0 * 4 + 1)) = false := by
    rw [Bool.eq_false_iff, Ne, reachB_iff]
    intro h
    exact hne (cn_zero (reach_cn h0 hf h))
  rw [conP_of (fac_no h0 hf ht hno)]
  rfl
end Go.Proofs.Ytfgkglbhbdfpfaa
