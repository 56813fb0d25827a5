/- The contract of l24Tops. -/
import Derived.Test.YtmnmnkenboejpaaSolv
namespace Go.Proofs.Ytmnmnkenboejpaa
open Go.RowKit
set_option linter.unusedSimpArgs false
set_option linter.unusedVariables false
set_option maxHeartbeats 4000000
/-- A list of products under way: k terms of the number i. -/
def pw (X : Nat → Nat → Int) (Y : Nat → Int) (n i k : Nat) : Nat → Int := fun q => if q < i then dotV (X q) Y n else if q = i then dotV (X i) Y k else 0
theorem pw_step (X : Nat → Nat → Int) (Y : Nat → Int) (n i k q : Nat) : pw X Y n i (k + 1) q = if q = i then wrap64 (dotV (X i) Y k + wrap64 (X i k * Y k)) else pw X Y n i k q := by
  unfold pw
  by_cases e : q = i
  · subst e
    rw [if_pos rfl, if_neg (by omega), if_pos rfl, dotV]
  · rw [if_neg e, if_neg e]
    split <;> rfl
theorem pw_next (X : Nat → Nat → Int) (Y : Nat → Int) (n i q : Nat) : pw X Y n i n q = pw X Y n (i + 1) 0 q := by
  unfold pw
  by_cases e : q = i
  · subst e
    rw [if_neg (by omega), if_pos rfl, if_pos (by omega)]
  · by_cases e2 : q < i
    · rw [if_pos e2, if_pos (by omega)]
    · rw [if_neg e2, if_neg e, if_neg (by omega)]
      by_cases e3 : q = i + 1
      · rw [if_pos e3]; rfl
      · rw [if_neg e3]
theorem pw_zero (X : Nat → Nat → Int) (Y : Nat → Int) (n q : Nat) : (0 : Int) = pw X Y n 0 0 q := by
  unfold pw; rw [if_neg (by omega)]; split <;> rfl
theorem pw_at (X : Nat → Nat → Int) (Y : Nat → Int) (n i k : Nat) : pw X Y n i k i = dotV (X i) Y k := by
  unfold pw; rw [if_neg (by omega), if_pos rfl]
theorem pw_done (X : Nat → Nat → Int) (Y : Nat → Int) (n m q : Nat) (h : q < m) : pw X Y n m 0 q = gl ((List.range m).map fun i => dotV (X i) Y n) q := by
  unfold pw; rw [if_pos h, gl_map_range _ h]
set_option maxRecDepth 100000 in
theorem spec_Tops (A B : Option Addr) (c d n : Nat) (L : List (List Int)) (v : Nat → Int) (w : World) (hd : desB L = true) (hnL : n = L.length) (f0 : Fm w A L) (f1 : Fl w B n 1 v) :
    Calls Try.prog 43 #[.slice A n c, .slice B n d] w fun e w' => ∃ A' c', e = .returned (.slice A' (L.getD 0 []).length c') ∧ Fl w' A' (L.getD 0 []).length 1 (gl (topsL L v)) ∧ (∀ b off, A' = some ⟨b, off, none⟩ → w.heap.size ≤ b) ∧ Below w.heap.size w w' := by
  obtain ⟨⟨hL1, hL8⟩, ⟨hm1, hm4⟩, hrl, _⟩ := des_at hd
  have hG := gram_sq hd
  have hGr := fun w f => spec_GramOf A c L w hd f
  rw [← hnL] at hGr
  have hAd := fun A c w f => spec_Adjugate (L.getD 0 []).length A c (gramL L) w hG f
  have hglen : (gramL L).length = (L.getD 0 []).length := gram_len
  obtain ⟨m, hm⟩ : ∃ m, m = (L.getD 0 []).length := ⟨_, rfl⟩
  have hrt : rightL L v = (List.range m).map fun k => dotV (gl (colL L k)) v n := by unfold rightL; rw [← hm, ← hnL]
  have htp : topsL L v = (List.range m).map fun i => dotV (gl (adjR m (gramL L) i)) (gl (rightL L v)) m := by unfold topsL; rw [← hm]
  rw [← hm] at hAd hm1 hm4 hrl hglen ⊢
  have hmk := fun W => run_make_rowN (P := Try.prog) 23 3 _ _ _ Try.underlying23 infoInt .i64 .i64 m (by omega) (by omega) W
  have HF := Lib.hid f0
  have HF1 := Lib.hid f1
  have HRT := Lib.hid hrt; clear hrt
  have HTP := Lib.hid htp; clear htp
  have HGL := Lib.hid hglen; clear hglen
  have HNL := Lib.hid hnL
  have HRL := Lib.hid hrl
  obtain ⟨b, off, e0, hc⟩ := f0 (by omega)
  obtain ⟨r0, hr0⟩ : ∃ r, L[0]? = some r := ⟨_, List.getElem?_eq_getElem (by omega)⟩
  obtain ⟨Ai, ci, c0, _⟩ := hc 0 r0 hr0
  have hr0m : r0.length = m := hrl r0 (List.mem_of_getElem? hr0)
  rw [Nat.add_zero, hr0m] at c0
  rw [← hnL] at hL1 hL8
  have hn0 : (0 : Int) < (n : Int) := by omega
  have hn0' : 0 < n := by omega
  clear hc hr0 hr0m hrl hm hnL hd hG f1
  subst e0
  go_enter Try.func43, Try.ntmps43
  go_wp2_with fail
  with_reducible refine (hGr _ f0).mono ?_
  rintro _ W ⟨sg, rfl, og, hB⟩
  clear hGr f0 c0
  obtain ⟨Ag, cg, rfl, fg, _⟩ := og.outc
  rw [HGL.out]
  go_wp2_with fail
  with_reducible refine (hAd _ _ _ fg).mono ?_
  rintro _ W2 ⟨sa, rfl, oa, hb⟩
  replace hB := below_step hB hb
  obtain ⟨Aa, ca, rfl, fa, _⟩ := oa.outc
  have halen : (adjL m (gramL L)).length = m := by simp [adjL]
  rw [halen]
  have HA := Lib.hid fa
  have HB := Lib.hid hB; clear hB
  clear hAd hb oa halen fa fg og
  have p0 : Own (W2.alloc (.cells (madeCells #[.int .i64 0] (m * 1)) 3)) W2.heap.size 3 (m * 1) (pw (fun i => gl (colL L i)) v n 0 0) := (own_madeN (z := #[.int .i64 0]) (by decide) (by intro i hi; match i, hi with | 0, _ => rfl)).congr (fun q _ => pw_zero _ _ _ _)
  have hB1 := below_alloc (Below.refl W2.heap.size W2) (.cells (madeCells #[.int .i64 0] (m * 1)) 3)
  have HP0 := Lib.hid p0; clear p0
  have HB1 := Lib.hid hB1; clear hB1
  go_wp2_with fail
  go_loopw [8] (fun x w' => ∃ k : Nat, k ≤ m ∧ x = .int .i64 k ∧ Own w' W2.heap.size 3 (m * 1) (pw (fun i => gl (colL L i)) v n k 0) ∧ Below W2.heap.size W2 w') (fun x _ => m - (intOf x).toNat)
  case atStart => exact ⟨0, Nat.zero_le _, rfl, by first | exact HP0.out | simpa using HP0.out, by first | exact HB1.out | simpa using HB1.out⟩
  case round =>
    clear HP0 HB1
    obtain ⟨k, hk, rfl, p0, hB⟩ := hrel
    by_cases hkm : k < m
    · go_wp2_with fail
      go_loopw [9] (fun x w' => ∃ q : Nat, q ≤ n ∧ x = .int .i64 q ∧ Own w' W2.heap.size 3 (m * 1) (pw (fun i => gl (colL L i)) v n k q) ∧ Below W2.heap.size W2 w') (fun x _ => n - (intOf x).toNat)
      case atStart => exact ⟨0, Nat.zero_le _, rfl, p0, hB⟩
      case round =>
        clear p0 hB
        obtain ⟨q, hq, rfl, p0, hB⟩ := hrel
        rename World => wr
        by_cases hqn : q < n
        · obtain ⟨r, hrq⟩ : ∃ r, L[q]? = some r := ⟨_, List.getElem?_eq_getElem (by have := HNL.out; omega)⟩
          have hrm : r.length = m := HRL.out r (List.mem_of_getElem? hrq)
          obtain ⟨b2, off2, e2, hc⟩ := HF.out.below (below_step HB.out hB) (by have := HNL.out; omega)
          injection e2 with e2; injection e2 with e2 e3
          subst e2 e3
          obtain ⟨Ar, cr, c1, f1⟩ := hc q r hrq
          rw [hrm] at c1 f1
          obtain ⟨br, or, rfl, hcr⟩ := f1 (by omega)
          have c2 := hcr k (by omega)
          obtain ⟨bv, ov, rfl, hcv⟩ := HF1.out.below (below_step HB.out hB) (by omega)
          have c3 := hcv q (by omega)
          have c4 := p0.cell (j := k) (by omega)
          have z4 := p0.frozen k
          have hstep := pw_step (fun i => gl (colL L i)) v n k q
          simp only [colL_at hrq] at hstep
          rw [pw_at] at c4
          obtain ⟨D, hD⟩ : ∃ D, D = dotV (gl (colL L k)) v q := ⟨_, rfl⟩
          simp only [← hD] at c4 hstep
          have HS := Lib.hid hstep; clear hstep
          have HP := Lib.hid p0; clear p0
          clear hD hrq hrm hc hcr f1 hcv
          have hk0 : (0 : Int) ≤ (k : Int) := Int.natCast_nonneg _
          have hk1 : (k : Int) < (m : Int) := by omega
          have hq0 : (0 : Int) ≤ (q : Int) := Int.natCast_nonneg _
          have hq1 : (q : Int) < (n : Int) := by omega
          go_wp2_with fail
          go_still_tail 20, (by kernel_rfl)
          change wpList _ _ _ _ _ wr.drew
          go_wp2_with fail
          go_roundw
          case rel => exact ⟨q + 1, by omega, by go_num, (Own.set (w := wr.drew) (HP.out.of_block rfl) k _).congr (fun x hx => by rw [HS.out]), by (repeat (first | exact Below.refl _ _ | assumption | (refine Below.drew ?_) | (refine below_alloc ?_ _) | (refine Below.setCell ?_ (by first | (simp; done) | (simp; omega) | omega | (have hq := hB.size; (try simp at hq ⊢); omega)) _) | (refine Below.alloc ?_ (by first | (simp; done) | (simp; omega) | omega | (have hq := hB.size; (try simp at hq ⊢); omega)) _) | (refine below_step ?_ (by assumption))))⟩
          case measure => simp [intOf]; omega
        · obtain rfl : q = n := by omega
          go_wp2_with fail
          go_roundw
          case rel => exact ⟨k + 1, by omega, by go_num, p0.congr (fun x _ => pw_next _ _ _ _ _), hB⟩
          case measure => simp [intOf]; omega
    · obtain rfl : k = m := by omega
      replace p0 := p0.congr (v' := gl (rightL L v)) (fun q hq => by rw [HRT.out]; exact pw_done _ _ _ _ _ (by omega))
      have HR := Lib.hid (p0.fl (n := k) (m := 1) (Nat.le_refl _))
      have hA2 := HA.out.below hB
      have HA2 := Lib.hid hA2; clear hA2
      have HB2 := Lib.hid (below_step HB.out hB)
      clear p0 hB HA HB HF HF1 HRL
      rename World => W3
      have p0 : Own (W3.alloc (.cells (madeCells #[.int .i64 0] (k * 1)) 3)) W3.heap.size 3 (k * 1) (pw (fun i => gl (adjR k (gramL L) i)) (gl (rightL L v)) k 0 0) := (own_madeN (z := #[.int .i64 0]) (by decide) (by intro i hi; match i, hi with | 0, _ => rfl)).congr (fun q _ => pw_zero _ _ _ _)
      have hB1 := below_alloc (Below.refl W3.heap.size W3) (.cells (madeCells #[.int .i64 0] (k * 1)) 3)
      have HP0 := Lib.hid p0; clear p0
      have HB1 := Lib.hid hB1; clear hB1
      go_wp2_with fail
      go_loopw [11] (fun x w' => ∃ j : Nat, j ≤ k ∧ x = .int .i64 j ∧ Own w' W3.heap.size 3 (k * 1) (pw (fun i => gl (adjR k (gramL L) i)) (gl (rightL L v)) k j 0) ∧ Below W3.heap.size W3 w') (fun x _ => k - (intOf x).toNat)
      case atStart => exact ⟨0, Nat.zero_le _, rfl, by first | exact HP0.out | simpa using HP0.out, by first | exact HB1.out | simpa using HB1.out⟩
      case round =>
        clear HP0 HB1
        obtain ⟨j, hj, rfl, p0, hB⟩ := hrel
        by_cases hjm : j < k
        · go_wp2_with fail
          go_loopw [12] (fun x w' => ∃ q : Nat, q ≤ k ∧ x = .int .i64 q ∧ Own w' W3.heap.size 3 (k * 1) (pw (fun i => gl (adjR k (gramL L) i)) (gl (rightL L v)) k j q) ∧ Below W3.heap.size W3 w') (fun x _ => k - (intOf x).toNat)
          case atStart => exact ⟨0, Nat.zero_le _, rfl, p0, hB⟩
          case round =>
            clear p0 hB
            obtain ⟨q, hq, rfl, p0, hB⟩ := hrel
            rename World => wr
            by_cases hqn : q < k
            · obtain ⟨ba, oa, e2, hca⟩ := HA2.out.below hB (by simp [adjL]; omega)
              subst e2
              obtain ⟨Aj, cj, c1, fj, _⟩ := hca j (adjR k (gramL L) j) (by simp [adjL, hjm])
              have hrl : (adjR k (gramL L) j).length = k := by simp [adjR]
              rw [hrl] at c1 fj
              obtain ⟨br, or, rfl, hcr⟩ := fj (by omega)
              have c2 := hcr q (by omega)
              obtain ⟨bv, ov, e3, hcv⟩ := HR.out.below hB (by omega)
              injection e3 with e3; injection e3 with e3 e4
              subst e3 e4
              have c3 := hcv q (by omega)
              rw [Nat.zero_add] at c3
              have c4 := p0.cell (j := j) (by omega)
              have z4 := p0.frozen j
              have hstep := pw_step (fun i => gl (adjR k (gramL L) i)) (gl (rightL L v)) k j q
              rw [pw_at] at c4
              obtain ⟨D, hD⟩ : ∃ D, D = dotV (gl (adjR k (gramL L) j)) (gl (rightL L v)) q := ⟨_, rfl⟩
              simp only [← hD] at c4 hstep
              obtain ⟨x, hx⟩ : ∃ x, x = gl (adjR k (gramL L) j) q := ⟨_, rfl⟩
              obtain ⟨y, hy⟩ : ∃ y, y = gl (rightL L v) q := ⟨_, rfl⟩
              rw [← hx] at c2 hstep
              rw [← hy] at c3 hstep
              have HS := Lib.hid hstep; clear hstep
              have HP := Lib.hid p0; clear p0
              clear hD hrl hca hcr hcv hx hy
              have hj0 : (0 : Int) ≤ (j : Int) := Int.natCast_nonneg _
              have hj1 : (j : Int) < (k : Int) := by omega
              have hq0 : (0 : Int) ≤ (q : Int) := Int.natCast_nonneg _
              have hq1 : (q : Int) < (k : Int) := by omega
              go_wp2_with fail
              go_still_tail 20, (by kernel_rfl)
              change wpList _ _ _ _ _ wr.drew
              go_wp2_with fail
              go_roundw
              case rel => exact ⟨q + 1, by omega, by go_num, (Own.set (w := wr.drew) (HP.out.of_block rfl) j _).congr (fun x hx => by rw [HS.out]), by (repeat (first | exact Below.refl _ _ | assumption | (refine Below.drew ?_) | (refine below_alloc ?_ _) | (refine Below.setCell ?_ (by first | (simp; done) | (simp; omega) | omega | (have hq := hB.size; (try simp at hq ⊢); omega)) _) | (refine Below.alloc ?_ (by first | (simp; done) | (simp; omega) | omega | (have hq := hB.size; (try simp at hq ⊢); omega)) _) | (refine below_step ?_ (by assumption))))⟩
              case measure => simp [intOf]; omega
            · obtain rfl : q = k := by omega
              go_wp2_with fail
              go_roundw
              case rel => exact ⟨j + 1, by omega, by go_num, p0.congr (fun x _ => pw_next _ _ _ _ _), hB⟩
              case measure => simp [intOf]; omega
        · obtain rfl : j = k := by omega
          replace p0 := p0.congr (v' := gl (topsL L v)) (fun q hq => by rw [HTP.out]; exact pw_done _ _ _ _ _ (by omega))
          have HT := Lib.hid (p0.fl (n := j) (m := 1) (Nat.le_refl _))
          have HB3 := Lib.hid (below_step HB2.out hB)
          clear p0 hB
          go_wp2_with fail
          go_ret
          exact ⟨_, _, rfl, HT.out, fun b off e => by injection e with e; injection e with e; have := HB2.out.size; omega, HB3.out⟩
end Go.Proofs.Ytmnmnkenboejpaa
