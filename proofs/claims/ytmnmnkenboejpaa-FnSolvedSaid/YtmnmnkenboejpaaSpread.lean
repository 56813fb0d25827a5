/- The contracts of SpreadOf and TotalSpread, for a determined design. -/
import Derived.Test.YtmnmnkenboejpaaResP
import Derived.Test.YtmnmnkenboejpaaFrO
import Derived.BigRegion
namespace Go.Proofs.Ytmnmnkenboejpaa
open Go.RowKit
set_option linter.unusedSimpArgs false
set_option linter.unusedVariables false
set_option maxHeartbeats 4000000
/-- The adjugate's cell. -/
theorem adj_cells {w : World} {A : Option Addr} {G : List (List Int)} {m k : Nat} (fa : Fmc w A (adjL m G)) (hk : k < m) : ∃ b off bj oj cj, A = some ⟨b, off, none⟩ ∧ w.cell? ⟨b, off + k, none⟩ = some (.slice (some ⟨bj, oj, none⟩) m cj) ∧ w.cell? ⟨bj, oj + k, none⟩ = some (.int .i64 (adjV m G k k)) := by
  obtain ⟨b, off, e, hc⟩ := fa (by simp [adjL]; omega)
  have hr : (adjL m G)[k]? = some (adjR m G k) := by simp [adjL, hk]
  have hl : (adjR m G k).length = m := by simp [adjR]
  obtain ⟨Aj, cj, h1, h2, _⟩ := hc k _ hr
  rw [hl] at h1 h2
  obtain ⟨bj, oj, rfl, h3⟩ := h2 (by omega)
  refine ⟨b, off, bj, oj, cj, e, h1, ?_⟩
  rw [h3 k (by omega)]
  unfold adjR
  rw [gl_map_range _ hk]
set_option maxRecDepth 100000 in
theorem impl_Spread (A : Option Addr) (c k m : Nat) (L : List (List Int)) (w : World) (hd : detB L = true) (hm : (L.getD 0 []).length = m) (hk : k < m) (f0 : Fm w A L) :
    Calls Try.prog 34 #[.slice A L.length c, .int .i64 k] w fun e w' => e = .returned (mkV (adjV m (gramL L) k k) (detG L)) ∧ Below w.heap.size w w' := by
  have hds : desB L = true := by unfold detB at hd; simp only [Bool.and_eq_true] at hd; exact hd.1
  obtain ⟨⟨hL1, hL8⟩, ⟨hm1, hm4⟩, hrl, _⟩ := des_at hds
  have hDe := fun w f => impl_IsDet A c L w (by omega) (fun r hr => by rw [hrl r hr]; omega) f
  have hG := gram_sq hds
  have hGr := fun w f => impl_GramOf A c L w hds f
  have hAd := fun A c w f => impl_AdjugateOf (L.getD 0 []).length A c (gramL L) w hG f
  have hDt := fun A c w f => impl_det (L.getD 0 []).length A c (gramL L) w hG.len hG.row (by omega) f
  have hglen : (gramL L).length = (L.getD 0 []).length := gram_len
  have hdt : detG L = detF (L.getD 0 []).length (gramL L) := rfl
  rw [← hdt] at hDt
  rw [hm] at hm1 hm4 hrl hAd hDt hglen
  rw [hd] at hDe
  obtain ⟨r0, hr0⟩ : ∃ r, L[0]? = some r := ⟨_, List.getElem?_eq_getElem (by omega)⟩
  have hr0l := hrl r0 (List.mem_of_getElem? hr0)
  have hMk := fun w => impl_Make (adjV m (gramL L) k k) (detG L) w
  simp only [mkV_eq] at hMk ⊢
  generalize mkT (adjV m (gramL L) k k) (detG L) = X at *
  generalize mkB (adjV m (gramL L) k k) (detG L) = Y at *
  generalize mkO (adjV m (gramL L) k k) (detG L) = O at *
  generalize detG L = D at *
  have hin : inB (k : Int) 0 ((m : Int) - 1) = true := inB_iff.2 (by omega)
  have HGL := Lib.hid hglen
  have HR0 := Lib.hid hr0
  obtain ⟨n, hnL⟩ : ∃ l, l = L.length := ⟨_, rfl⟩
  rw [← hnL] at hL1 hL8 hDe hGr ⊢
  have HNL := Lib.hid hnL
  have hp0 : (0 : Int) < (n : Int) := by omega
  have hk0 : (0 : Int) ≤ (k : Int) := Int.natCast_nonneg _
  have hk1 : (k : Int) < (m : Int) := by omega
  have HF := Lib.hid f0
  clear hd hds hm hdt hr0 hnL hG hglen f0 hrl
  obtain ⟨b, off, rfl, hc⟩ := id HF.out (by have := HNL.out; omega)
  obtain ⟨Ai, ci, c5, _⟩ := hc 0 r0 HR0.out
  rw [hr0l, Nat.add_zero] at c5
  clear hc
  obtain ⟨W, hW⟩ : ∃ W, W = (w.alloc (.cells #[.int .i64 0, .int .i64 0] 45)) := ⟨_, rfl⟩
  have c0 : W.cell? ⟨w.heap.size, 0, none⟩ = some (.int .i64 0) := by rw [hW]; simp [go_sem]
  have z0 : W.frozen? ⟨w.heap.size, 0, none⟩ = false := by rw [hW]; simp [go_sem]
  have c1 : W.cell? ⟨w.heap.size, 1, none⟩ = some (.int .i64 0) := by rw [hW]; simp [go_sem]
  have z1 : W.frozen? ⟨w.heap.size, 1, none⟩ = false := by rw [hW]; simp [go_sem]
  have hB : Below w.heap.size w W := by rw [hW]; exact ((Below.refl _ _).alloc (by simp <;> omega) _)
  subst hW
  replace c5 := below_cell hB c5
  have fm := HF.out.below hB
  go_enter Try.func34, Try.ntmps34
  go_wp2_with fail
  with_reducible refine (hDe _ fm).mono ?_
  rintro _ w1 ⟨rfl, hb⟩
  replace z0 := below_frozen hb (lt_of_cell c0) z0
  replace z1 := below_frozen hb (lt_of_cell c1) z1
  replace c0 := below_cell hb c0
  replace c1 := below_cell hb c1
  replace c5 := below_cell hb c5
  replace fm := fm.below hb
  replace hB := below_step hB hb
  clear hb hDe
  go_wp2_with (go_at_call 51; (with_reducible refine (in_any _ _ _ _).mono ?_); rintro _ _ ⟨rfl, rfl⟩)
  with_reducible refine (hGr _ fm).mono ?_
  rintro _ w2 ⟨sg, rfl, og, hb⟩
  replace z0 := below_frozen hb (lt_of_cell c0) z0
  replace z1 := below_frozen hb (lt_of_cell c1) z1
  replace c0 := below_cell hb c0
  replace c1 := below_cell hb c1
  replace hB := below_step hB hb
  obtain ⟨Ag, cg, rfl, fg, _⟩ := og.outc
  rw [HGL.out]
  clear hb hGr og fm c5
  go_wp2_with fail
  have hb : Below w2.heap.size w2 w2.drew := (Below.refl _ _).drew
  replace z0 := below_frozen hb (lt_of_cell c0) z0; replace z1 := below_frozen hb (lt_of_cell c1) z1; replace c0 := below_cell hb c0; replace c1 := below_cell hb c1; replace hB := below_step hB hb
  replace fg := fg.below hb
  have hal : (adjL m (gramL L)).length = m := by simp [adjL]
  have HAL := Lib.hid hal
  clear hb hal
  go_region_with (first
    | (go_at_call 56; with_reducible refine (hAd _ _ _ fg).mono ?_; rintro _ wa ⟨sa, rfl, oa, hb⟩; replace z0 := below_frozen hb (lt_of_cell c0) z0; replace z1 := below_frozen hb (lt_of_cell c1) z1; replace c0 := below_cell hb c0; replace c1 := below_cell hb c1; replace hB := below_step hB hb; replace fg := fg.below hb; obtain ⟨Aa, ca, rfl, fa, _⟩ := oa.outc; rw [HAL.out]; obtain ⟨bq, oq, bj, oj, cj, rfl, c6, c7⟩ := adj_cells fa hk; clear hb fa oa)
    | (go_at_call 57; with_reducible refine (hDt _ _ _ fg).mono ?_; rintro _ wd ⟨rfl, hb⟩; replace z0 := below_frozen hb (lt_of_cell c0) z0; replace z1 := below_frozen hb (lt_of_cell c1) z1; replace c0 := below_cell hb c0; replace c1 := below_cell hb c1; replace hB := below_step hB hb; replace fg := fg.below hb; (try replace c6 := below_cell hb c6); (try replace c7 := below_cell hb c7); clear hb)
    | (go_at_call 53; with_reducible refine (hMk _).mono ?_; rintro _ wm ⟨rfl, hb⟩; replace z0 := below_frozen hb (lt_of_cell c0) z0; replace z1 := below_frozen hb (lt_of_cell c1) z1; replace c0 := below_cell hb c0; replace c1 := below_cell hb c1; replace hB := below_step hB hb; clear hb))
  all_goals
    go_wp2_with fail
    refine bodyPost_ret (by first | (simp [results, Try.results34, go_sem, *]; done) | (simp [results, Try.results34, go_sem, *]; rfl)) rfl ⟨rfl, by (repeat (first | exact Below.refl _ _ | assumption | (refine Below.drew ?_) | (refine below_alloc ?_ _) | (refine Below.setCell ?_ (by first | (simp; done) | (simp; omega) | omega | (have hq := hB.size; (try simp at hq ⊢); omega)) _) | (refine Below.alloc ?_ (by first | (simp; done) | (simp; omega) | omega | (have hq := hB.size; (try simp at hq ⊢); omega)) _) | (refine below_step ?_ (by assumption))))⟩
end Go.Proofs.Ytmnmnkenboejpaa
