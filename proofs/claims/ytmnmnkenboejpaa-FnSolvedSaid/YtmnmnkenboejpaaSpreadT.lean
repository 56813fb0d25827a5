/- The contract of TotalSpread, for a determined design. -/
import Derived.Test.YtmnmnkenboejpaaSpread
namespace Go.Proofs.Ytmnmnkenboejpaa
open Go.RowKit
set_option linter.unusedSimpArgs false
set_option linter.unusedVariables false
set_option maxHeartbeats 4000000
theorem adj_row {w : World} {A : Option Addr} {G : List (List Int)} {m k : Nat} (fa : Fmc w A (adjL m G)) (hk : k < m) : ∃ b off bj oj cj, A = some ⟨b, off, none⟩ ∧ w.cell? ⟨b, off + k, none⟩ = some (.slice (some ⟨bj, oj, none⟩) m cj) ∧ w.cell? ⟨bj, oj + k, none⟩ = some (.int .i64 (adjV m G k k)) := adj_cells fa hk
set_option maxRecDepth 100000 in
theorem impl_Total (A : Option Addr) (c m : Nat) (L : List (List Int)) (w : World) (hd : detB L = true) (hm : (L.getD 0 []).length = m) (f0 : Fm w A L) :
    Calls Try.prog 35 #[.slice A L.length c] w fun e w' => e = .returned (mkV (sumN (fun q => adjV m (gramL L) q q) m) (detG L)) ∧ Below w.heap.size w w' := by
  have hds : desB L = true := by unfold detB at hd; simp only [Bool.and_eq_true] at hd; exact hd.1
  obtain ⟨⟨hL1, hL8⟩, ⟨hm1, hm4⟩, hrl, _⟩ := des_at hds
  have hDe := fun w f => impl_IsDet A c L w (by omega) (fun r hr => by rw [hrl r hr]; omega) f
  have hG := gram_sq hds
  have hGr := fun w f => impl_GramOf A c L w hds f
  have hAd := fun A c w f => impl_AdjugateOf (L.getD 0 []).length A c (gramL L) w hG f
  have hDt := fun A c w f => impl_det (L.getD 0 []).length A c (gramL L) w hG.len hG.row (by omega) f
  have hglen : (gramL L).length = (L.getD 0 []).length := gram_len
  have hdt : detG L = detF (L.getD 0 []).length (gramL L) := rfl
  have hab : ∀ q, (adjV (L.getD 0 []).length (gramL L) q q).natAbs ≤ 3072 := fun q => by have := adj_ex hds q q; rw [this.1]; exact this.2
  rw [← hdt] at hDt
  rw [hm] at hm1 hm4 hrl hAd hDt hglen hab
  rw [hd] at hDe
  have hsb : ∀ j, j ≤ m → -12288 ≤ sumN (fun q => adjV m (gramL L) q q) j ∧ sumN (fun q => adjV m (gramL L) q q) j ≤ 12288 := fun j hj => by
    have := sumN_bd (f := fun q => adjV m (gramL L) q q) (n := j) (a := -3072) (b := 3072) (fun k _ => by have := hab k; omega)
    omega
  have hMk := fun w => impl_Make (sumN (fun q => adjV m (gramL L) q q) m) (detG L) w
  simp only [mkV_eq] at hMk ⊢
  generalize mkT (sumN (fun q => adjV m (gramL L) q q) m) (detG L) = X at *
  generalize mkB (sumN (fun q => adjV m (gramL L) q q) m) (detG L) = Y at *
  generalize mkO (sumN (fun q => adjV m (gramL L) q q) m) (detG L) = O at *
  generalize detG L = D at *
  have HGL := Lib.hid hglen
  have HAB := Lib.hid hab
  have HSB := Lib.hid hsb
  have hal : (adjL m (gramL L)).length = m := by simp [adjL]
  have HAL := Lib.hid hal
  obtain ⟨n, hnL⟩ : ∃ l, l = L.length := ⟨_, rfl⟩
  rw [← hnL] at hL1 hL8 hDe hGr ⊢
  clear hd hds hm hdt hnL hG hglen hrl hab hsb hal
  obtain ⟨W, hW⟩ : ∃ W, W = (w.alloc (.cells #[.int .i64 0, .int .i64 0] 45)) := ⟨_, rfl⟩
  have c0 : W.cell? ⟨w.heap.size, 0, none⟩ = some (.int .i64 0) := by rw [hW]; simp [go_sem]
  have z0 : W.frozen? ⟨w.heap.size, 0, none⟩ = false := by rw [hW]; simp [go_sem]
  have c1 : W.cell? ⟨w.heap.size, 1, none⟩ = some (.int .i64 0) := by rw [hW]; simp [go_sem]
  have z1 : W.frozen? ⟨w.heap.size, 1, none⟩ = false := by rw [hW]; simp [go_sem]
  have hB : Below w.heap.size w W := by rw [hW]; exact ((Below.refl _ _).alloc (by simp <;> omega) _)
  subst hW
  have fm := f0.below hB
  go_enter Try.func35, Try.ntmps35
  go_wp2_with fail
  with_reducible refine (hDe _ fm).mono ?_
  rintro _ w1 ⟨rfl, hb⟩
  replace z0 := below_frozen hb (lt_of_cell c0) z0
  replace z1 := below_frozen hb (lt_of_cell c1) z1
  replace c0 := below_cell hb c0
  replace c1 := below_cell hb c1
  replace fm := fm.below hb
  replace hB := below_step hB hb
  clear hb hDe
  go_wp2_with fail
  with_reducible refine (hGr _ fm).mono ?_
  rintro _ w2 ⟨sg, rfl, og, hb⟩
  replace z0 := below_frozen hb (lt_of_cell c0) z0
  replace z1 := below_frozen hb (lt_of_cell c1) z1
  replace c0 := below_cell hb c0
  replace c1 := below_cell hb c1
  replace hB := below_step hB hb
  obtain ⟨Ag, cg, rfl, fg, _⟩ := og.outc
  rw [HGL.out]
  clear hb hGr og fm
  go_wp2_with fail
  with_reducible refine (hAd _ _ _ fg).mono ?_
  rintro _ w3 ⟨sa, rfl, oa, hb⟩
  replace z0 := below_frozen hb (lt_of_cell c0) z0
  replace z1 := below_frozen hb (lt_of_cell c1) z1
  replace c0 := below_cell hb c0
  replace c1 := below_cell hb c1
  replace hB := below_step hB hb
  replace fg := fg.below hb
  obtain ⟨Aa, ca, rfl, fa, _⟩ := oa.outc
  rw [HAL.out]
  have FA := Lib.hid fa
  clear hb oa hAd fa
  go_wp2_with fail
  go_loopw [5, 17] (fun t x wr => ∃ j : Nat, j ≤ m ∧ x = .int .i64 j ∧ t = .int .i64 (sumN (fun q => adjV m (gramL L) q q) j) ∧ wr = w3) (fun _ x _ => m - (intOf x).toNat)
  case atStart => exact ⟨0, Nat.zero_le _, rfl, rfl, rfl⟩
  case round =>
    obtain ⟨j, hj, rfl, rfl, rfl⟩ := hrel
    by_cases hjm : j < m
    · obtain ⟨bq, oq, bj, oj, cj, rfl, c6, c7⟩ := adj_cells FA.out hjm
      have hs1 := HSB.out j (by omega)
      have hx1 := HAB.out j
      have hst : sumN (fun q => adjV m (gramL L) q q) (j + 1) = sumN (fun q => adjV m (gramL L) q q) j + adjV m (gramL L) j j := rfl
      have HST := Lib.hid hst; clear hst
      generalize sumN (fun q => adjV m (gramL L) q q) j = s at *
      generalize adjV m (gramL L) j j = a at *
      have hx2 : -3072 ≤ a ∧ a ≤ 3072 := by omega
      clear hx1
      have hj0 : (0 : Int) ≤ (j : Int) := Int.natCast_nonneg _
      have hj1 : (j : Int) < (m : Int) := by omega
      go_wp2_with fail
      go_roundw
      case rel => exact ⟨j + 1, by omega, by go_num, by rw [HST.out], trivial⟩
      case measure => simp [intOf]; omega
    · obtain rfl : j = m := by omega
      go_wp2_with fail
      with_reducible refine (hDt _ _ _ fg).mono ?_
      rintro _ w4 ⟨rfl, hb⟩
      replace z0 := below_frozen hb (lt_of_cell c0) z0
      replace z1 := below_frozen hb (lt_of_cell c1) z1
      replace c0 := below_cell hb c0
      replace c1 := below_cell hb c1
      replace hB := below_step hB hb
      clear hb fg hDt
      go_wp2_with fail
      with_reducible refine (hMk _).mono ?_
      rintro _ w5 ⟨rfl, hb⟩
      replace z0 := below_frozen hb (lt_of_cell c0) z0
      replace z1 := below_frozen hb (lt_of_cell c1) z1
      replace c0 := below_cell hb c0
      replace c1 := below_cell hb c1
      replace hB := below_step hB hb
      clear hb hMk
      go_wp2_with fail
      refine bodyPost_ret (by first | (simp [results, Try.results35, go_sem, *]; done) | (simp [results, Try.results35, go_sem, *]; rfl)) rfl ⟨rfl, by (repeat (first | exact Below.refl _ _ | assumption | (refine Below.drew ?_) | (refine below_alloc ?_ _) | (refine Below.setCell ?_ (by first | (simp; done) | (simp; omega) | omega | (have hq := hB.size; (try simp at hq ⊢); omega)) _) | (refine Below.alloc ?_ (by first | (simp; done) | (simp; omega) | omega | (have hq := hB.size; (try simp at hq ⊢); omega)) _) | (refine below_step ?_ (by assumption))))⟩
end Go.Proofs.Ytmnmnkenboejpaa
