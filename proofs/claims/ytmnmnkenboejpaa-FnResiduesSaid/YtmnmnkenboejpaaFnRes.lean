/- The walk of the law FnResidues: it returns true. No conditions. -/
import Derived.Test.YtmnmnkenboejpaaResQ
import Derived.Test.YtmnmnkenboejpaaDrawR
namespace Go.Proofs.Ytmnmnkenboejpaa
open Go.RowKit
set_option linter.unusedSimpArgs false
set_option linter.unusedVariables false
set_option maxHeartbeats 4000000
set_option maxRecDepth 100000 in
theorem walkFnRes (A0 : Option Addr) (n0 k0 : Nat) (v0 : Nat → Int) (w : World) (hm : n0 ≤ maxLen) (hF : Fb w A0 n0 v0) : Calls Try.prog 7 #[.slice A0 n0 k0] w fun e w' => e = .returned (.bool true) ∧ Below w.heap.size w w' := by
  have hs : ∀ w, _ := fun w => laws_big A0 n0 k0 w hm
  by_cases hn : n0 ≤ 1048576
  · rw [show decide (1048576 < n0) = false by simp; omega] at hs
    have HF := Lib.hid hF; clear hF
    go_enter Try.func7, Try.ntmps7
    ((go_wp2_with fail); (with_reducible refine (hs _).mono ?_); rintro _ _ ⟨rfl, rfl⟩)
    go_wp2_with fail
    with_reducible refine (spec_DrawReadings A0 n0 k0 v0 _ hn HF.out).mono ?_
    rintro _ w1 ⟨A, c, L, B, d, l, rfl, ⟨fm, fl, hd, hok⟩, hb⟩
    have HB := Lib.hid hb
    have hrd := ok_rd hd hok
    have hso := ok_so hd hok
    obtain ⟨hds, _, _, _⟩ := rdB_all hrd
    obtain ⟨⟨hL1, hL8⟩, ⟨hm1, hm4⟩, hrl, _⟩ := des_at hds
    have hL2 : L.length ≤ 1048576 := by omega
    have hr2 : ∀ r ∈ L, r.length ≤ 1048576 := fun r hr => by rw [hrl r hr]; omega
    have hRe := fun w f g => impl_Res A B c d L.length L (gl l) w hL2 hr2 hL2 f g
    have hWo := fun w f g => impl_Worst A B c d L.length L (gl l) w hL2 hr2 hL2 f g
    have hSq := fun w f g => impl_Sq A B c d L.length L (gl l) w hL2 hr2 hL2 f g
    have hFi := fun w f g => impl_Fits A B c d L.length L (gl l) w hL2 hr2 hL2 f g
    have hBs := fun w f g => impl_Best A B c d L.length L (gl l) w hL2 hr2 hL2 f g
    have hSw := fun w i k hi hk f => impl_Swap B d L.length i k (gl l) w hL2 hi hk f
    have hS2 := fun w B' d' i k f g => impl_Sq A B' c d' L.length L (swp (gl l) i k) w hL2 hr2 hL2 f g
    rw [fit_sq hso] at hFi
    have hrn := res_len hrd
    have hnd := fun i hi => normal_dot hrd (i := i) hi
    have hsd := sq_dot hrd
    have hbs := bs_at hrd
    have hll := hok.1
    have hwl := wj_lt (l := gl (resV L L.length (gl l))) (k := L.length) (by omega)
    have hwm := fun j hj => wj_max (l := gl (resV L L.length (gl l))) (k := L.length) j hj
    have hws : wstV (gl (resV L L.length (gl l))) (resV L L.length (gl l)).length = (wj (gl (resV L L.length (gl l))) L.length : Int) := by unfold wstV; rw [hrn, if_neg (by omega)]
    rw [hws] at hWo
    rw [hll] at fl ⊢
    clear hws hll hok hso hrd hd hb hs hm
    generalize hQ : sqV L L.length (gl l) = Q at *
    generalize hV : gl l = v at *
    generalize hRV : resV L L.length v = R at *
    generalize hm : (L.getD 0 []).length = m at *
    generalize hW : wj (gl R) L.length = W at *
    generalize hbv : bsV L L.length v = bs at *
    have HRL := Lib.hid hrl
    obtain ⟨r0, hr0⟩ : ∃ r, L[0]? = some r := ⟨_, List.getElem?_eq_getElem (by omega)⟩
    have hr0l := hrl r0 (List.mem_of_getElem? hr0)
    have HR0 := Lib.hid hr0
    generalize hN : L.length = N at *
    have HN := Lib.hid hN.symm
    have HRN := Lib.hid hrn
    have HND := Lib.hid hnd
    have HSD := Lib.hid hsd
    have HWM := Lib.hid hwm
    have HBS := Lib.hid hbs
    clear hQ hV hRV hm hW hbv hrl hr0 hN hrn hnd hsd hwm hbs hds hr2 l
    have F0 := Lib.hid fm
    have F1 := Lib.hid fl
    go_wp2_with fail
    with_reducible refine (hRe _ fm fl).mono ?_
    rintro _ w2 ⟨s, rfl, oR, _, hb⟩
    obtain ⟨AR, cR, rfl, fR, _⟩ := oR.outc
    rw [HRN.out] at fR ⊢
    have FR := Lib.hid fR
    have HB2 := Lib.hid hb
    clear hRe oR fR hb fm fl
    go_wp2_with fail
    go_loopw [6, 7] (fun t x wr => ∃ k : Nat, k ≤ N ∧ x = .int .i64 k ∧ t = .int .i64 (dotV (gl R) (gl R) k) ∧ Below w2.heap.size w2 wr) (fun _ x _ => N - (intOf x).toNat)
    case atStart => exact ⟨0, Nat.zero_le _, rfl, rfl, Below.refl _ _⟩
    case round =>
      obtain ⟨k, hk, rfl, rfl, hB⟩ := hrel
      by_cases hkN : k < N
      · obtain ⟨b, off, rfl, hc⟩ := (FR.out.below hB) (by omega)
        have c0 := hc k (by omega)
        clear hc
        have hk0 : (0 : Int) ≤ (k : Int) := Int.natCast_nonneg _
        have hk1 : (k : Int) < (N : Int) := by omega
        obtain ⟨y, hy⟩ : ∃ y, y = dotV (gl R) (gl R) k := ⟨_, rfl⟩
        have hs1 : dotV (gl R) (gl R) (k + 1) = wrap64 (y + wrap64 (gl R k * gl R k)) := by rw [hy]; rfl
        rw [← hy]
        have HS := Lib.hid hs1; clear hs1 hy
        generalize gl R k = zk at *
        go_wp2_with fail
        (have Ec0 := ext_cell c0; refine calm_lit (by kernel_rfl) (by kernel_rfl) ?_; (repeat (first | go_big_quiet_step (fail) | simp only [TF])); refine wpQuiet_nil ?_; intro w1 hb; clear Ec0; replace c0 := below_cell hb c0; replace hB := below_step hB hb; clear hb)
        go_wp2_with fail
        go_roundw
        case rel => exact ⟨k + 1, by omega, by go_num, by rw [HS.out], by (repeat (first | exact Below.refl _ _ | assumption | (refine Below.drew ?_) | (refine below_alloc ?_ _) | (refine Below.setCell ?_ (by first | (simp; done) | (simp; omega) | omega | (have hq := hB.size; (try simp at hq ⊢); omega)) _) | (refine Below.alloc ?_ (by first | (simp; done) | (simp; omega) | omega | (have hq := hB.size; (try simp at hq ⊢); omega)) _) | (refine below_step ?_ (by assumption))))⟩
        case measure => simp [intOf]; omega
      · obtain rfl : k = N := by omega
        rw [HSD.out]
        have HB3 := Lib.hid hB; clear hB
        go_wp2_with fail
        go_loopw [8, 9, 10] (fun x t q wr => ∃ i : Nat, i ≤ m ∧ x = .int .i64 i ∧ Below w2.heap.size w2 wr) (fun x _ _ _ => m - (intOf x).toNat)
        case atStart => exact ⟨0, Nat.zero_le _, rfl, HB3.out⟩
        case round =>
          clear HB3
          obtain ⟨i, hi, rfl, hB⟩ := hrel
          obtain ⟨b, off, rfl, hc⟩ := (F0.out.below (below_step HB2.out hB)) (by have := HN.out; omega)
          obtain ⟨Ai, ci, c0, _⟩ := hc 0 r0 HR0.out
          rw [hr0l, Nat.add_zero] at c0
          clear hc
          have hN0 : (0 : Int) < (k : Int) := by omega
          by_cases him : i < m
          · have him2 : (i : Int) < (m : Int) := by omega
            obtain ⟨W2, hW2⟩ : ∃ W2, W2 = wr := ⟨_, rfl⟩
            have HBi := Lib.hid hB; clear hB
            go_wp2_with fail
            rw [← hW2] at HBi c0
            rw [← hW2]
            clear hW2
            go_loopw [9, 10] (fun t x wr => ∃ j : Nat, j ≤ k ∧ x = .int .i64 j ∧ t = .int .i64 (dotV (fun q => xM L q i) (gl R) j) ∧ Below W2.heap.size W2 wr) (fun _ x _ => k - (intOf x).toNat)
            case atStart => exact ⟨0, Nat.zero_le _, rfl, rfl, Below.refl _ _⟩
            case round =>
              clear c0
              obtain ⟨j, hj, rfl, rfl, hB⟩ := hrel
              by_cases hjk : j < k
              · obtain ⟨r, hrk⟩ : ∃ r, L[j]? = some r := ⟨_, List.getElem?_eq_getElem (by have := HN.out; omega)⟩
                have hrm : r.length = m := HRL.out r (List.mem_of_getElem? hrk)
                obtain ⟨b', off', e', hc⟩ := (F0.out.below (below_step HB2.out (below_step HBi.out hB))) (by have := HN.out; omega)
                cases e'
                obtain ⟨Ai, ci, c0, f1⟩ := hc j r hrk
                rw [hrm] at c0 f1
                obtain ⟨br, or, rfl, hcr⟩ := f1 (by omega)
                have c1 := hcr i (by omega)
                obtain ⟨bR, oR, rfl, hcR⟩ := (FR.out.below (below_step HBi.out hB)) (by omega)
                have c2 := hcR j (by omega)
                have hxr : xM L j i = gl r i := by unfold xM; rw [getD_of hrk]
                clear hc hcr hcR f1 hrk hrm
                have hj0 : (0 : Int) ≤ (j : Int) := Int.natCast_nonneg _
                have hj1 : (j : Int) < (k : Int) := by omega
                have hi0 : (0 : Int) ≤ (i : Int) := Int.natCast_nonneg _
                obtain ⟨y, hy⟩ : ∃ y, y = dotV (fun q => xM L q i) (gl R) j := ⟨_, rfl⟩
                have hs1 : dotV (fun q => xM L q i) (gl R) (j + 1) = wrap64 (y + wrap64 (gl r i * gl R j)) := by rw [hy, ← hxr]; rfl
                rw [← hy]
                have HS := Lib.hid hs1; clear hs1 hy hxr
                generalize gl R j = zj at *
                generalize gl r i = xi at *
                go_wp2_with fail
                (have Ec0 := ext_cell c0; have Ec1 := ext_cell c1; have Ec2 := ext_cell c2; refine calm_lit (by kernel_rfl) (by kernel_rfl) ?_; (repeat (first | go_big_quiet_step (fail) | simp only [TF])); refine wpQuiet_nil ?_; intro w1 hb; clear Ec0 Ec1 Ec2; replace c0 := below_cell hb c0; replace c1 := below_cell hb c1; replace c2 := below_cell hb c2; replace hB := below_step hB hb; clear hb)
                go_wp2_with fail
                go_roundw
                case rel => exact ⟨j + 1, by omega, by go_num, by rw [HS.out], by (repeat (first | exact Below.refl _ _ | assumption | (refine Below.drew ?_) | (refine below_alloc ?_ _) | (refine Below.setCell ?_ (by first | (simp; done) | (simp; omega) | omega | (have hq := hB.size; (try simp at hq ⊢); omega)) _) | (refine Below.alloc ?_ (by first | (simp; done) | (simp; omega) | omega | (have hq := hB.size; (try simp at hq ⊢); omega)) _) | (refine below_step ?_ (by assumption))))⟩
                case measure => simp [intOf]; omega
              · obtain rfl : j = k := by omega
                rw [HND.out i him]
                have HB4 := Lib.hid (below_step HBi.out hB); clear hB
                go_wp2_with fail
                go_roundw
                case rel => exact ⟨i + 1, by omega, by go_num, HB4.out⟩
                case measure => simp [intOf]; omega
          · have him2 : ¬ (i : Int) < (m : Int) := by omega
            have fm := F0.out.below (below_step HB2.out hB)
            have fl := F1.out.below (below_step HB2.out hB)
            have HB4 := Lib.hid hB; clear hB
            go_wp2_with fail
            with_reducible refine (hWo _ fm fl).mono ?_
            rintro _ w3 ⟨rfl, hb⟩
            replace fm := fm.below hb
            replace fl := fl.below hb
            have HB5 := Lib.hid (below_step HB4.out hb)
            clear hWo hb c0 HB4
            have hW0 : ¬ (W : Int) < 0 := by omega
            have hW1 : ¬ (W : Int) ≥ (k : Int) := by omega
            have hW2 : (W : Int) < (k : Int) := by omega
            go_wp2_with fail
            with_reducible refine (hBs _ fm fl).mono ?_
            rintro _ w4 ⟨rfl, hb⟩
            replace fm := fm.below hb
            replace fl := fl.below hb
            have HB6 := Lib.hid (below_step HB5.out hb)
            clear hBs hb HB5
            obtain ⟨ba, bb⟩ := bs
            dsimp only
            go_wp2_with fail
            with_reducible refine (hSq _ fm fl).mono ?_
            rintro _ w5 ⟨rfl, hb⟩
            replace fm := fm.below hb
            replace fl := fl.below hb
            have HB7 := Lib.hid (below_step HB6.out hb)
            clear hSq hb HB6
            go_wp2_with fail
            with_reducible refine (hFi _ fm fl).mono ?_
            rintro _ w6 ⟨rfl, hb⟩
            replace fm := fm.below hb
            replace fl := fl.below hb
            have HB8 := Lib.hid (below_step HB7.out hb)
            clear hFi hb HB7
            have hqb : (Q == 0) = decide (Q = 0) := rfl
            have HQ := Lib.hid hqb
            generalize decide (Q = 0) = o at hqb ⊢
            have hoo : (o != o) = false := by simp
            go_wp2_with fail
            clear hqb hoo
            go_loopw [14] (fun x wr => ∃ j : Nat, j ≤ k ∧ x = .int .i64 j ∧ Below w2.heap.size w2 wr) (fun x _ => k - (intOf x).toNat)
            case atStart => exact ⟨0, Nat.zero_le _, rfl, HB8.out⟩
            case round =>
              clear HB8 fm fl
              obtain ⟨j, hj, rfl, hB⟩ := hrel
              by_cases hjk : j < k
              · obtain ⟨bR, oR, rfl, hcR⟩ := (FR.out.below hB) (by omega)
                have c0 := hcR j (by omega)
                have c1 := hcR W (by omega)
                have hmx := HWM.out j hjk
                have hj0 : (0 : Int) ≤ (j : Int) := Int.natCast_nonneg _
                have hj1 : (j : Int) < (k : Int) := by omega
                have hw0 : (0 : Int) ≤ (W : Int) := Int.natCast_nonneg _
                clear hcR
                generalize gl R j = zj at *
                generalize gl R W = zW at *
                have HMX := Lib.hid hmx; clear hmx
                go_wp2_with fail
                (have Ec0 := ext_cell c0; have Ec1 := ext_cell c1; refine calm_lit (by kernel_rfl) (by kernel_rfl) ?_; (repeat (first | go_big_quiet_step (fail) | simp only [TF])); refine wpQuiet_nil ?_; intro w1 hb; clear Ec0 Ec1; replace c0 := below_cell hb c0; replace c1 := below_cell hb c1; replace hB := below_step hB hb; clear hb)
                have hmx := HMX.out
                have hnot : ¬ ((if zW < wrap64 (-zW) then wrap64 (-zW) else zW) < (if zj < wrap64 (-zj) then wrap64 (-zj) else zj)) := by unfold mxv at hmx; omega
                have hnot2 : ¬ ((if zj < wrap64 (-zj) then wrap64 (-zj) else zj) > (if zW < wrap64 (-zW) then wrap64 (-zW) else zW)) := hnot
                clear hmx
                go_wp2_with fail
                go_roundw
                case rel => exact ⟨j + 1, by omega, by go_num, by (repeat (first | exact Below.refl _ _ | assumption | (refine Below.drew ?_) | (refine below_alloc ?_ _) | (refine Below.setCell ?_ (by first | (simp; done) | (simp; omega) | omega | (have hq := hB.size; (try simp at hq ⊢); omega)) _) | (refine Below.alloc ?_ (by first | (simp; done) | (simp; omega) | omega | (have hq := hB.size; (try simp at hq ⊢); omega)) _) | (refine below_step ?_ (by assumption))))⟩
                case measure => simp [intOf]; omega
              · obtain rfl : j = k := by omega
                have fm := F0.out.below (below_step HB2.out hB)
                have fl := F1.out.below (below_step HB2.out hB)
                have hBall := below_step HB.out (below_step HB2.out hB)
                have HBA := Lib.hid hBall
                clear hB hBall
                rcases HBS.out with hbs | ⟨ia, ib, h1, h2, hbs, h3⟩
                · injection hbs with e1 e2
                  subst e1 e2
                  go_wp2_with fail
                  go_ret
                  exact ⟨rfl, HBA.out⟩
                · injection hbs with e1 e2
                  subst e1 e2
                  have ha0 : ¬ (ia : Int) < 0 := by omega
                  have hb0 : ¬ (ib : Int) < 0 := by omega
                  have ha1 : (ia : Int) ≥ 0 := by omega
                  have hab : (ia : Int) < (ib : Int) := by omega
                  have hbk : (ib : Int) < (j : Int) := by omega
                  have hsw := hSw _ ia ib h1 h2 fl
                  have hs2 := fun w B' d' f g => hS2 w B' d' ia ib f g
                  generalize sqV L j (swp v ia ib) = q2 at *
                  generalize swp v ia ib = v2 at *
                  clear hSw hS2
                  go_wp2_with fail
                  with_reducible refine hsw.mono ?_
                  rintro _ w7 ⟨g, cg, rfl, _, o7, hb⟩
                  replace fm := fm.below hb
                  have HB9 := Lib.hid (below_step HBA.out hb)
                  clear hsw hb fl
                  go_wp2_with fail
                  with_reducible refine (hs2 _ _ _ fm (o7.fl (Nat.le_refl _))).mono ?_
                  rintro _ w8 ⟨rfl, hb⟩
                  have HB10 := Lib.hid (below_step HB9.out hb)
                  clear hb hs2 o7 fm
                  go_wp2_with fail
                  go_ret
                  exact ⟨rfl, HB10.out⟩
  · rw [show decide (1048576 < n0) = true by simp; omega] at hs
    go_enter Try.func7, Try.ntmps7
    ((go_wp2_with fail); (with_reducible refine (hs _).mono ?_); rintro _ _ ⟨rfl, rfl⟩)
    go_wp2_with fail
    go_ret
    exact ⟨rfl, Below.refl _ _⟩
end Go.Proofs.Ytmnmnkenboejpaa
