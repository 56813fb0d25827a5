/- Plain laws of drawn ratios: ways go back and join; the factor along a way never grows too great; ratios that agree have a size for each unit. -/
import Derived.Test.YtfgkglbhbdfpfaaFact
namespace Go.Proofs.Ytfgkglbhbdfpfaa
open Go.RowKit
set_option linter.unusedSimpArgs false
set_option linter.unusedVariables false
/-- A chain of ratios from a to b. -/
inductive Cn (v : Nat → Int) (n : Nat) : Int → Int → Prop
  | refl (x : Int) : Cn v n x x
  | step {x y z : Int} {e : Nat} : e < n → nxt v x e = some y → Cn v n y z → Cn v n x z
theorem Cn.trans {v : Nat → Int} {n : Nat} {a b c : Int} (h : Cn v n a b) (k : Cn v n b c) : Cn v n a c := by
  induction h with
  | refl => exact k
  | step he hn _ ih => exact Cn.step he hn (ih k)
theorem Cn.symm {v : Nat → Int} {n : Nat} {a b : Int} (h : Cn v n a b) : Cn v n b a := by
  induction h with
  | refl => exact Cn.refl _
  | step he hn _ ih => exact ih.trans (Cn.step he (nxt_sym hn).1 (Cn.refl _))
theorem dist_some {v : Nat → Int} {n : Nat} {b : Int} (hr : ratB n v = true) (hb : U9 b) : ∃ d, Dist v n b d := by
  obtain ⟨d, hd⟩ := (DInv.some (ratB_U hr) (ratB_U2 hr) hb 10).1
  exact ⟨d, hd.done⟩
theorem cn_reach {v : Nat → Int} {n : Nat} {a b : Int} (hr : ratB n v = true) (ha : U9 a) (hb : U9 b) (h : Cn v n a b) : Reach v n a b := by
  obtain ⟨d, D⟩ := dist_some hr hb
  refine ⟨d, D, ?_⟩
  induction h with
  | refl => rw [D.zero]; exact Int.le_refl _
  | step he hn _ ih =>
    have hy := ratB_U hr _ _ _ ha he hn
    exact (D.full _ _ _ hy he (nxt_sym hn).1 (ih hy hb D)).1
theorem gr_cn {v : Nat → Int} {n : Nat} {t : Int} {d : Nat → Int} : ∀ {p : List Int} {x : Int}, Gr v n t d x p → Cn v n x t
  | [], x, h => by
    have h : x = t := h
    subst h; exact Cn.refl _
  | i :: p, x, h => by
    obtain ⟨e, y, _, he, hn, _, _, _, _, h2⟩ := h
    exact Cn.step he hn (gr_cn h2)
theorem reach_cn {v : Nat → Int} {n : Nat} {a b : Int} (hr : ratB n v = true) (ha : U9 a) (h : Reach v n a b) : Cn v n a b := by
  obtain ⟨d, D, h0⟩ := h
  obtain ⟨p, hp⟩ := D.path (ratB_U hr) (d a.toNat).toNat a ha (by omega)
  exact gr_cn hp
theorem reach_symm {v : Nat → Int} {n : Nat} {a b : Int} (hr : ratB n v = true) (ha : U9 a) (hb : U9 b) (h : Reach v n a b) : Reach v n b a := cn_reach hr hb ha (reach_cn hr ha h).symm
theorem reach_trans {v : Nat → Int} {n : Nat} {a b c : Int} (hr : ratB n v = true) (ha : U9 a) (hb : U9 b) (hc : U9 c) (h : Reach v n a b) (k : Reach v n b c) : Reach v n a c := cn_reach hr ha hc ((reach_cn hr ha h).trans (reach_cn hr hb k))
theorem reachB_symm {v : Nat → Int} {n : Nat} {a b : Int} (hr : ratB n v = true) (ha : U9 a) (hb : U9 b) : reachB v n a b = reachB v n b a := by
  rw [Bool.eq_iff_iff, reachB_iff, reachB_iff]
  exact ⟨reach_symm hr ha hb, reach_symm hr hb ha⟩
theorem ratB_less {v : Nat → Int} {n k : Nat} (hr : ratB n v = true) (hk : k ≤ n) : ratB k v = true := by
  simp only [ratB, Bool.and_eq_true, decide_eq_true_eq] at hr ⊢
  exact ⟨by omega, allN_iff.2 fun i hi => allN_iff.1 hr.2 i (by omega)⟩
theorem rT_rB {t u : Int} (hu : 0 < u) : rT t u * u = t * rB t u := by
  have hg : 0 < gN t u := gN_pos (by omega)
  obtain ⟨t', ht⟩ : ((gN t u : Nat) : Int) ∣ t := by rw [← Int.natAbs_dvd_natAbs]; simpa [gN] using Nat.gcd_dvd_left t.natAbs u.natAbs
  obtain ⟨u', hu'⟩ : ((gN t u : Nat) : Int) ∣ u := by rw [← Int.natAbs_dvd_natAbs]; simpa [gN] using Nat.gcd_dvd_right t.natAbs u.natAbs
  generalize hgg : gN t u = g at hg ht hu'
  have hg0 : (g : Int) ≠ 0 := by omega
  have e1 : rT t u = t' := by rw [rT, if_neg (by omega), hgg, ht, Int.mul_tdiv_cancel_left _ hg0]
  have hu0 : 0 < u' := by
    rcases Int.lt_or_le 0 u' with h1 | h1
    · exact h1
    · have := Int.mul_nonpos_of_nonneg_of_nonpos (show (0 : Int) ≤ (g : Int) by omega) h1
      omega
  have e2 : rB t u = u' := by
    rw [rB, hgg, hu', Int.natAbs_mul, Int.natAbs_natCast, Nat.mul_div_cancel_left _ hg]
    omega
  rw [e1, e2]
  conv => lhs; rw [hu']
  conv => rhs; rw [ht]
  rw [← Int.mul_assoc, Int.mul_comm t' g]
/-- A reduced fraction that is x / N has a bottom that divides N. -/
theorem low_dvd {p q N x : Int} (hco : Nat.gcd p.natAbs q.natAbs = 1) (h : p * N = x * q) : q ∣ N := by
  have h1 : q.natAbs ∣ p.natAbs * N.natAbs := by
    rw [← Int.natAbs_mul, h, Int.natAbs_mul]
    exact Nat.dvd_mul_left _ _
  have h2 : Nat.Coprime q.natAbs p.natAbs := by rw [Nat.coprime_comm]; exact hco
  exact Int.natAbs_dvd_natAbs.1 (h2.dvd_of_dvd_mul_left h1)
theorem low_small {p q N x : Int} (hq : 0 < q) (hN : 0 < N) (hco : Nat.gcd p.natAbs q.natAbs = 1) (h : p * N = x * q) : q ≤ N ∧ p.natAbs ≤ x.natAbs := by
  obtain ⟨k, hk⟩ := low_dvd hco h
  have hk0 : 0 < k := by
    rcases Int.lt_or_le 0 k with h1 | h1
    · exact h1
    · have := Int.mul_nonpos_of_nonneg_of_nonpos (Int.le_of_lt hq) h1
      omega
  have hx : p * k = x := by
    have h2 : (p * k) * q = x * q := by rw [← h, hk, Int.mul_assoc, Int.mul_comm k q]
    exact Int.eq_of_mul_eq_mul_right (by omega) h2
  refine ⟨?_, ?_⟩
  · rw [hk]
    have := Int.mul_le_mul_of_nonneg_left (show 1 ≤ k by omega) (Int.le_of_lt hq)
    rw [Int.mul_one] at this; exact this
  · rw [← hx, Int.natAbs_mul]
    exact Nat.le_mul_of_pos_right _ (by omega)
theorem red_rep {t u N x : Int} (hu : 0 < u) (hN : 0 < N) (hN6 : N ≤ 1000000) (hx : -1000000 ≤ x ∧ x ≤ 1000000) (h : t * N = x * u) : redO t u = true ∧ rT t u * N = x * rB t u := by
  have hg : 0 < gN t u := gN_pos (by omega)
  obtain ⟨t', ht⟩ : ((gN t u : Nat) : Int) ∣ t := by rw [← Int.natAbs_dvd_natAbs]; simpa [gN] using Nat.gcd_dvd_left t.natAbs u.natAbs
  obtain ⟨u', hu'⟩ : ((gN t u : Nat) : Int) ∣ u := by rw [← Int.natAbs_dvd_natAbs]; simpa [gN] using Nat.gcd_dvd_right t.natAbs u.natAbs
  generalize hgg : gN t u = g at hg ht hu'
  have hg0 : (g : Int) ≠ 0 := by omega
  have e1 : rT t u = t' := by
    rw [rT, if_neg (by omega), hgg, ht, Int.mul_tdiv_cancel_left _ hg0]
  have hu0 : 0 < u' := by
    rcases Int.lt_or_le 0 u' with h1 | h1
    · exact h1
    · have := Int.mul_nonpos_of_nonneg_of_nonpos (show (0 : Int) ≤ (g : Int) by omega) h1
      omega
  have e2 : rB t u = u' := by
    rw [rB, hgg, hu', Int.natAbs_mul, Int.natAbs_natCast, Nat.mul_div_cancel_left _ hg]
    omega
  have hco : Nat.gcd t'.natAbs u'.natAbs = 1 := by
    have h1 : gN t u = g * Nat.gcd t'.natAbs u'.natAbs := by
      unfold gN
      rw [ht, hu', Int.natAbs_mul, Int.natAbs_mul, Int.natAbs_natCast, Nat.gcd_mul_left]
    rw [hgg] at h1
    exact Nat.eq_of_mul_eq_mul_left hg (by omega)
  have hv : t' * N = x * u' := by
    have h2 : (g : Int) * (t' * N) = (g : Int) * (x * u') := by
      rw [← Int.mul_assoc, ← ht, h]
      conv => lhs; rw [hu']
      rw [Int.mul_left_comm]
    exact Int.eq_of_mul_eq_mul_left hg0 h2
  obtain ⟨s1, s2⟩ := low_small hu0 hN hco hv
  rw [redO, e1, e2]
  refine ⟨frB_iff.2 ⟨by omega, by omega, hco⟩, hv⟩
/-- What a product that can be made is. -/
theorem tO_at {T B s u : Int} (h : tO T B s u = true) : 0 < B ∧ 0 < u ∧ tT T B s u * (B * u) = (T * s) * tB T B s u ∧ frB (tT T B s u) (tB T B s u) = true ∧ 0 < tB T B s u := by
  have h0 := h
  unfold tO at h0
  simp only [Bool.and_eq_true] at h0
  obtain ⟨⟨h1, h2⟩, h3⟩ := h0
  have b1 := (frB_iff.1 h1).2.1
  have b2 := (frB_iff.1 h2).2.1
  have hbu : 0 < B * u := Int.mul_pos (by omega) (by omega)
  unfold tT tB
  rw [if_pos h, if_pos h]
  refine ⟨by omega, by omega, rT_rB hbu, h3, ?_⟩
  have := (frB_iff.1 h3).2.1
  omega
/-- Ratio i, seen from unit x: the step's fraction. -/
def stT (v : Nat → Int) (x : Int) (e : Nat) : Int := if v (e * 4) = x then v (e * 4 + 2) else v (e * 4 + 3)
def stB (v : Nat → Int) (x : Int) (e : Nat) : Int := if v (e * 4) = x then v (e * 4 + 3) else v (e * 4 + 2)
theorem fol_step {v : Nat → Int} {n e : Nat} {p : List Int} {x y T B : Int} (hr : ratB n v = true) (he : e < n) (hn : nxt v x e = some y) : fol v ((e : Int) :: p) x T B = if tO T B (stT v x e) (stB v x e) = true then fol v p y (tT T B (stT v x e) (stB v x e)) (tB T B (stT v x e) (stB v x e)) else none := by
  have hne := (ratB_at hr he).2.2.1
  unfold stT stB
  by_cases h : v (e * 4) = x
  · rw [fol_fwd h, if_pos h, if_pos h]
    have : y = v (e * 4 + 1) := by
      unfold nxt at hn
      rw [if_neg (by omega), if_pos h] at hn
      exact (Option.some.inj hn).symm
    rw [this]
  · rw [fol_bwd h, if_neg h, if_neg h]
    have : y = v (e * 4) := by
      unfold nxt at hn
      by_cases h2 : v (e * 4 + 1) = x
      · rw [if_pos h2] at hn; exact (Option.some.inj hn).symm
      · rw [if_neg h2, if_neg h] at hn; cases hn
    rw [this]
/-- The sizes φ agree with the first n ratios. -/
def Pot (v : Nat → Int) (n : Nat) (φ : Int → Int) : Prop := (∀ u, 0 < φ u) ∧ ∀ i, i < n → v (i * 4 + 2) * φ (v (i * 4 + 1)) = v (i * 4 + 3) * φ (v (i * 4))
theorem Pot.st {v : Nat → Int} {n e : Nat} {φ : Int → Int} {x y : Int} (P : Pot v n φ) (he : e < n) (hn : nxt v x e = some y) : stT v x e * φ y = stB v x e * φ x := by
  have h := P.2 e he
  unfold stT stB
  unfold nxt at hn
  by_cases h1 : v (e * 4) = x
  · rw [if_pos h1, if_pos h1]
    by_cases h2 : v (e * 4 + 1) = x
    · rw [if_pos h2] at hn
      have e1 := Option.some.inj hn
      rw [← e1, h1]; rw [h1, h2] at h; exact h
    · rw [if_neg h2, if_pos h1] at hn
      have e1 := Option.some.inj hn
      rw [← e1, ← h1]; exact h
  · rw [if_neg h1, if_neg h1]
    by_cases h2 : v (e * 4 + 1) = x
    · rw [if_pos h2] at hn
      have e1 := Option.some.inj hn
      rw [← e1, ← h2]; exact h.symm
    · rw [if_neg h2, if_neg h1] at hn; cases hn
theorem fol_pot {v : Nat → Int} {n : Nat} {t : Int} {d : Nat → Int} {φ : Int → Int} (hr : ratB n v = true) (P : Pot v n φ) : ∀ (p : List Int) (x T B X Y : Int), Gr v n t d x p → fol v p x T B = some (X, Y) → X * (B * φ t) = Y * (T * φ x)
  | [], x, T, B, X, Y, h, hf => by
    have h : x = t := h
    subst h
    simp only [fol, Option.some.injEq, Prod.mk.injEq] at hf
    obtain ⟨rfl, rfl⟩ := hf
    rw [← Int.mul_assoc, ← Int.mul_assoc, Int.mul_comm T B]
  | i :: p, x, T, B, X, Y, h, hf => by
    obtain ⟨e, y, rfl, he, hn, _, _, _, _, h2⟩ := h
    rw [fol_step hr he hn] at hf
    by_cases ho : tO T B (stT v x e) (stB v x e) = true
    · rw [if_pos ho] at hf
      have ih := fol_pot hr P p y _ _ X Y h2 hf
      obtain ⟨b1, b2, e1, _, b3⟩ := tO_at ho
      have e2 := P.st he hn
      generalize tT T B (stT v x e) (stB v x e) = T' at *
      generalize tB T B (stT v x e) (stB v x e) = B' at *
      generalize stT v x e = s at *
      generalize stB v x e = u at *
      generalize φ t = ft at *
      generalize φ x = fx at *
      generalize φ y = fy at *
      have hp : 0 < B' * u := Int.mul_pos b3 b2
      refine Int.eq_of_mul_eq_mul_right (a := B' * u) (by omega) ?_
      -- X B ft B' u = Y T fx B' u
      have h3 : X * (B * ft) * (B' * u) = X * (B' * ft) * (B * u) := by grind
      have h4 : Y * (T * fx) * (B' * u) = Y * fy * ((T * s) * B') := by
        have : Y * (T * fx) * (B' * u) = Y * T * B' * (u * fx) := by grind
        rw [this, ← e2]; grind
      rw [h3, h4, ih, ← e1]; grind
    · rw [if_neg ho] at hf; cases hf
/-- Drawn ratios: sizes of the units, and at most one ratio, w, that is wrong. -/
structure Dr (v : Nat → Int) (n : Nat) (sz : Int → Int) (w : Nat) : Prop where
  rat : ratB n v = true
  szb : ∀ u, 1 ≤ sz u ∧ sz u ≤ 12
  reg : ∀ i, i < n → i ≠ w → v (i * 4 + 2) * sz (v (i * 4 + 1)) = v (i * 4 + 3) * sz (v (i * 4))
  wrg : w < n → v (w * 4 + 2) * sz (v (w * 4 + 1)) = v (w * 4 + 3) * (sz (v (w * 4)) + 1)
theorem Dr.less {v : Nat → Int} {n k : Nat} {sz : Int → Int} {w : Nat} (H : Dr v n sz w) (hk : k ≤ n) : Dr v k sz w :=
  ⟨ratB_less H.rat hk, H.szb, fun i hi => H.reg i (by omega), fun hw => H.wrg (by omega)⟩
theorem step_rep {N z T B s u p q N' z' : Int} (hTB : frB T B = true) (h : T * N = z * B) (hf : frB s u = true) (e : s * q = u * p) (hq : 0 < q) (hN : 0 < N) (hN' : 0 < N' ∧ N' ≤ 1000000) (hz' : -1000000 ≤ z' ∧ z' ≤ 1000000) (r : N' * (z * p) = z' * (q * N)) :
    tO T B s u = true ∧ tT T B s u * N' = z' * tB T B s u := by
  have b1 := (frB_iff.1 hTB).2.1
  have b2 := (frB_iff.1 hf).2.1
  have hk : (T * s) * N' = z' * (B * u) := by
    have hp : 0 < q * N := Int.mul_pos hq hN
    refine Int.eq_of_mul_eq_mul_right (a := q * N) (by omega) ?_
    have h1 : T * s * N' * (q * N) = (T * N) * (s * q) * N' := by grind
    have h2 : z' * (B * u) * (q * N) = z' * (q * N) * (B * u) := by grind
    rw [h1, h2, h, e, ← r]; grind
  obtain ⟨h1, h2⟩ := red_rep (t := T * s) (u := B * u) (N := N') (x := z') (Int.mul_pos (by omega) (by omega)) hN'.1 hN'.2 hz' hk
  have ho : tO T B s u = true := by unfold tO; rw [hTB, hf, h1]; rfl
  refine ⟨ho, ?_⟩
  unfold tT tB
  rw [if_pos ho, if_pos ho]
  exact h2
/-- Ratio e's step is a fraction. -/
theorem st_fr {v : Nat → Int} {n e : Nat} (hr : ratB n v = true) (he : e < n) (x : Int) : frB (stT v x e) (stB v x e) = true := by
  obtain ⟨_, _, _, hf, hp⟩ := ratB_at hr he
  unfold stT stB
  by_cases h : v (e * 4) = x
  · rw [if_pos h, if_pos h]; exact hf
  · rw [if_neg h, if_neg h]
    obtain ⟨h1, h2, h3⟩ := frB_iff.1 hf
    exact frB_iff.2 ⟨by omega, by omega, by rw [Nat.gcd_comm]; exact h3⟩
/-- The product on the way at unit x: the ratio of two sizes, but for the wrong ratio's part. -/
def St (v : Nat → Int) (w : Nat) (sz : Int → Int) (d : Nat → Int) (A x T B : Int) : Prop := ∃ c1 c2 : Int, frB T B = true ∧ T * (sz x * c2) = (A * c1) * B ∧
  ((c1 = 1 ∧ c2 = 1) ∨ ((d x.toNat < d (v (w * 4)).toNat ∨ d x.toNat < d (v (w * 4 + 1)).toNat) ∧ (c1 = sz (v (w * 4)) + 1 ∧ c2 = sz (v (w * 4)) ∨ c1 = sz (v (w * 4)) ∧ c2 = sz (v (w * 4)) + 1)))
theorem mul_le2 {a b m k : Int} (ha : 1 ≤ a ∧ a ≤ m) (hb : 1 ≤ b ∧ b ≤ k) : 1 ≤ a * b ∧ a * b ≤ m * k := by
  refine ⟨?_, Int.mul_le_mul ha.2 hb.2 (by omega) (by omega)⟩
  have := Int.mul_pos (show 0 < a by omega) (show 0 < b by omega)
  omega
theorem fol_ok {v : Nat → Int} {n : Nat} {t : Int} {d : Nat → Int} {sz : Int → Int} {w : Nat} {A : Int} (H : Dr v n sz w) (hA : 1 ≤ A ∧ A ≤ 12) : ∀ (p : List Int) (x T B : Int), Gr v n t d x p → St v w sz d A x T B → ∃ X Y, fol v p x T B = some (X, Y) ∧ frB X Y = true ∧ 0 < X
  | [], x, T, B, h, hs => by
    obtain ⟨c1, c2, hf, he, hc⟩ := hs
    refine ⟨T, B, rfl, hf, ?_⟩
    have b1 := (frB_iff.1 hf).2.1
    have s1 := H.szb (v (w * 4))
    have s2 := H.szb x
    have hc1 : 1 ≤ c1 ∧ 1 ≤ c2 := by omega
    have hr : 0 < A * c1 * B := Int.mul_pos (Int.mul_pos (by omega) (by omega)) (by omega)
    have hl : 0 < sz x * c2 := Int.mul_pos (by omega) (by omega)
    rw [← he] at hr
    exact Int.pos_of_mul_pos_left hr hl
  | i :: p, x, T, B, h, hs => by
    obtain ⟨e, y, rfl, he, hn, hy, hd, _, _, h2⟩ := h
    rw [fol_step H.rat he hn]
    obtain ⟨c1, c2, hf, heq, hc⟩ := hs
    have hsf := st_fr H.rat he x
    have s1 := H.szb (v (w * 4))
    have sx := H.szb x
    have sy := H.szb y
    have hc1 : (1 ≤ c1 ∧ c1 ≤ 13) ∧ (1 ≤ c2 ∧ c2 ≤ 13) := by omega
    by_cases hw : e = w
    · -- the wrong ratio: it was not met before
      subst hw
      have hc0 : c1 = 1 ∧ c2 = 1 := by
        rcases hc with hc | ⟨hc, _⟩
        · exact hc
        · exfalso
          rcases (nxt_sym hn).2 with ⟨e1, e2⟩ | ⟨e1, e2⟩ <;> rw [← e1, ← e2] at hc <;> omega
      obtain ⟨rfl, rfl⟩ := hc0
      have hwr := H.wrg he
      by_cases hfw : v (e * 4) = x
      · have hyv : y = v (e * 4 + 1) := by
          have := (ratB_at H.rat he).2.2.1
          rcases (nxt_sym hn).2 with ⟨_, e2⟩ | ⟨e1, _⟩
          · exact e2
          · omega
        have hst : stT v x e * sz y = stB v x e * (sz x + 1) := by
          unfold stT stB; rw [if_pos hfw, if_pos hfw, hyv, ← hfw]; exact hwr
        have hb1 := mul_le2 (m := 12) (k := 12) sy sx
        have hb2 := mul_le2 (m := 12) (k := 13) (b := sz x + 1) hA (by omega)
        obtain ⟨o1, o2⟩ := step_rep (N' := sz y * sz x) (z' := A * (sz x + 1)) hf heq hsf hst (by omega) (by omega) (by omega) (by omega) (by grind)
        rw [if_pos o1]
        refine fol_ok H hA p y _ _ h2 ⟨sz x + 1, sz x, (tO_at o1).2.2.2.1, o2, Or.inr ⟨Or.inl ?_, Or.inl ?_⟩⟩
        · rw [hfw]; omega
        · rw [hfw]; exact ⟨rfl, rfl⟩
      · have hyx : x = v (e * 4 + 1) ∧ y = v (e * 4) := by
          rcases (nxt_sym hn).2 with ⟨e1, _⟩ | h3
          · exact absurd e1.symm hfw
          · exact h3
        have hst : stT v x e * (sz y + 1) = stB v x e * sz x := by
          unfold stT stB; rw [if_neg hfw, if_neg hfw, hyx.1, hyx.2]; exact hwr.symm
        have hb1 := mul_le2 (m := 12) (k := 13) (b := sz y + 1) sy (by omega)
        have hb2 := mul_le2 (m := 12) (k := 12) hA sy
        obtain ⟨o1, o2⟩ := step_rep (N' := sz y * (sz y + 1)) (z' := A * sz y) hf heq hsf hst (by omega) (by omega) (by omega) (by omega) (by grind)
        rw [if_pos o1]
        refine fol_ok H hA p y _ _ h2 ⟨sz y, sz y + 1, (tO_at o1).2.2.2.1, o2, Or.inr ⟨Or.inr ?_, Or.inr ?_⟩⟩
        · rw [← hyx.1]; omega
        · rw [← hyx.2]; exact ⟨rfl, rfl⟩
    · have hrg := H.reg e he hw
      have hst : stT v x e * sz y = stB v x e * sz x := by
        unfold stT stB
        rcases (nxt_sym hn).2 with ⟨e1, e2⟩ | ⟨e1, e2⟩
        · rw [if_pos e1.symm, if_pos e1.symm, e1, e2]; exact hrg
        · have := (ratB_at H.rat he).2.2.1
          rw [if_neg (by omega), if_neg (by omega), e1, e2]; exact hrg.symm
      have hb0 := mul_le2 (m := 12) (k := 13) sx hc1.2
      have hb1 := mul_le2 (m := 12) (k := 13) sy hc1.2
      have hb2 := mul_le2 (m := 12) (k := 13) hA hc1.1
      obtain ⟨o1, o2⟩ := step_rep (N' := sz y * c2) (z' := A * c1) hf heq hsf hst (by omega) (by omega) (by omega) (by omega) (by grind)
      rw [if_pos o1]
      refine fol_ok H hA p y _ _ h2 ⟨c1, c2, (tO_at o1).2.2.2.1, o2, ?_⟩
      rcases hc with hc | ⟨hc, hc3⟩
      · exact Or.inl hc
      · exact Or.inr ⟨by omega, hc3⟩
end Go.Proofs.Ytfgkglbhbdfpfaa
