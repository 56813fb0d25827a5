/- The walk of the law FnSolved: it returns true. No conditions. -/
import Derived.Test.YtmnmnkenboejpaaSolQ
import Derived.Test.YtmnmnkenboejpaaDrawR
import Derived.Test.YtmnmnkenboejpaaReadI
import Derived.Test.YtmnmnkenboejpaaSpreadT
namespace Go.Proofs.Ytmnmnkenboejpaa
open Go.RowKit
set_option linter.unusedSimpArgs false
set_option linter.unusedVariables false
set_option maxHeartbeats 4000000
set_option maxRecDepth 100000 in
theorem walkFnSol (A0 : Option Addr) (n0 k0 : Nat) (v0 : Nat → Int) (w : World) (hm : n0 ≤ maxLen) (hF : Fb w A0 n0 v0) : Calls Try.prog 8 #[.slice A0 n0 k0] w fun e w' => e = .returned (.bool true) ∧ Below w.heap.size w w' := by
  have hs : ∀ w, _ := fun w => laws_big A0 n0 k0 w hm
  by_cases hn : n0 ≤ 1048576
  · rw [show decide (1048576 < n0) = false by simp; omega] at hs
    have HF := Lib.hid hF
    have hat := fun i hi w hF => laws_at A0 n0 k0 v0 i hi w hn hF
    have hab := fun i => atV_bd hF i
    obtain ⟨X, hX⟩ : ∃ X : Nat → Int, X = fun i => atV n0 v0 i % 41 - 20 := ⟨_, rfl⟩
    have hXb : ∀ i, (X i).natAbs ≤ 20 := fun i => by rw [hX]; show (atV n0 v0 i % 41 - 20).natAbs ≤ 20; omega
    have HX := Lib.hid hX
    have HAB := Lib.hid hab
    clear hF hX hab
    go_enter Try.func8, Try.ntmps8
    ((go_wp2_with fail); (with_reducible refine (hs _).mono ?_); rintro _ _ ⟨rfl, rfl⟩)
    go_wp2_with fail
    with_reducible refine (spec_DrawReadings A0 n0 k0 v0 _ hn HF.out).mono ?_
    rintro _ w1 ⟨A, c, L, B, d, l, rfl, ⟨fm, fl, hd, hok⟩, hb⟩
    have HB := Lib.hid hb
    have hrd := ok_rd hd hok
    obtain ⟨hds, _, _, _⟩ := rdB_all hrd
    obtain ⟨⟨hL1, hL8⟩, ⟨hm1, hm4⟩, hrl, _⟩ := des_at hds
    have hL2 : L.length ≤ 1048576 := by omega
    have hr2 : ∀ r ∈ L, r.length ≤ 1048576 := fun r hr => by rw [hrl r hr]; omega
    obtain ⟨hokx, hfx, hvx⟩ := fit_vals (X := X) hd (fun i _ => hXb i)
    have hrdx := ok_rd hd hokx
    have hsox := ok_so hd hokx
    have hlx := hokx.1
    have hsp := fun k hk => spread_vals hd (k := k) hk
    have hto := total_vals hd
    have hll := hok.1
    have hRo := fun w f g => impl_ReadingsOk A B c d L.length L (gl l) w hL2 hr2 hL2 f g
    rw [hrd] at hRo
    have hSv := fun w B' d' f g => impl_Solve A B' c d' L.length L (gl (rdL L X)) w hL2 hr2 hL2 f g
    rw [hsox] at hSv
    have hFi := fun w B' d' f g => impl_Fits A B' c d' L.length L (gl (rdL L X)) w hL2 hr2 hL2 f g
    rw [hfx] at hFi
    generalize hm : (L.getD 0 []).length = m at *
    have hRe := fun w B' d' f g => impl_Read A B' c d' m L X w hds hm (fun k _ => by have := hXb k; omega) f g
    have hSp := fun w k hk f => impl_Spread A c k m L w hd hm hk f
    have hTo := fun w f => impl_Total A c m L w hd hm f
    simp only [mkV_eq] at hSp hTo
    rw [hto.1] at hTo
    have hSp2 : ∀ w k, k < m → Fm w A L → Calls Try.prog 34 #[.slice A L.length c, .int .i64 k] w fun e w' => e = .returned (.tuple #[.agg #[.int .i64 (mkT (adjV m (gramL L) k k) (detG L)), .int .i64 (mkB (adjV m (gramL L) k k) (detG L))], .bool true]) ∧ Below w.heap.size w w' := fun w k hk f => by
      have := hSp w k hk f
      rw [(hsp k hk).1] at this
      exact this
    rw [hll] at fl ⊢
    have hsp2 := fun k hk => (hsp k hk).2
    have hto2 := hto.2
    clear hsp hto hSp hokx hfx hrdx hsox hok hrd hb hs hm hd hds hll
    generalize gl (topsL L (gl (rdL L X))) = T at *
    generalize detG L = D at *
    generalize rdL L X = R at *
    generalize gl l = v at *
    obtain ⟨r0, hr0⟩ : ∃ r, L[0]? = some r := ⟨_, List.getElem?_eq_getElem (by omega)⟩
    have hr0l := hrl r0 (List.mem_of_getElem? hr0)
    generalize hN : L.length = N at *
    have F0 := Lib.hid fm
    have F1 := Lib.hid fl
    obtain ⟨bA, oA, rfl, hcA⟩ := id fm (by omega)
    obtain ⟨Ai, ci, c5, _⟩ := hcA 0 r0 hr0
    rw [hr0l, Nat.add_zero] at c5
    have hp0 : (0 : Int) < (N : Int) := by omega
    have HVX := Lib.hid hvx
    have HSP := Lib.hid hsp2
    have HTO := Lib.hid hto2
    have HLX := Lib.hid hlx
    clear hcA hr0 hr0l hrl hN hvx hsp2 hto2 hlx hr2 fm fl
    have p0 : OwnS (w1.alloc (.cells #[] 3)) w1.heap.size (.slice (some ⟨w1.heap.size, 0, none⟩) 0 0) [] := OwnS.empty (Nat.le_refl _)
    have hba := below_alloc (Below.refl w1.heap.size w1) (.cells #[] 3)
    have P0 := Lib.hid p0; have HBA := Lib.hid hba
    have FB1 := Lib.hid (HF.out.below HB.out)
    clear p0 hba
    go_wp2_with fail
    go_loopw [6, 7] (fun s x wr => ∃ k : Nat, k ≤ m ∧ x = .int .i64 k ∧ OwnS wr w1.heap.size s (((List.range m).map X).take k) ∧ Below w1.heap.size w1 wr) (fun _ x _ => m - (intOf x).toNat)
    case atStart => exact ⟨0, Nat.zero_le _, rfl, P0.out, HBA.out⟩
    case round =>
      clear P0 HBA c5
      obtain ⟨k, hk, rfl, p0, hB⟩ := hrel
      by_cases hkm : k < m
      · have htk : ((List.range m).map X).take (k + 1) = ((List.range m).map X).take k ++ [X k] := take_map_range _ _ _ hkm
        have hxk : X k = atV n0 v0 k % 41 - 20 := by rw [HX.out]
        have hak := HAB.out k
        have hcall := hat k (by omega) wr (FB1.out.below hB)
        rw [hxk] at htk
        generalize atV n0 v0 k = av at *
        have HTK := Lib.hid htk; clear htk hxk
        have P0 := Lib.hid p0; have HB1 := Lib.hid hB
        clear p0 hB
        go_wp2_with fail
        with_reducible refine hcall.mono ?_
        rintro _ w2 ⟨rfl, hb⟩
        have p0 := P0.out.below hb
        have hB := below_step HB1.out hb
        have htl : (((List.range m).map X).take k).length ≤ 1048576 := by simp; omega
        have hB0 := hB.size
        have hlt := fun q h => (p0.base (g := q) h).1
        have HLT := Lib.hid hlt; clear hlt
        have HB2 := Lib.hid hB
        have P1 := Lib.hid p0
        have hav : 0 ≤ av := hak.1
        clear p0 hB hb hcall P0 HB1
        go_wp2_with (at_builtin; refine push_one rfl (.tmp 33) (.tmp 39) rfl w1.heap.size _ _ (av % 41 - 20) rfl rfl P1.out htl hB0 ?_; intro s' w4 hown hgrow; have HG := Lib.hid hgrow; clear hgrow; have HW := Lib.hid hown; clear hown)
        go_roundw
        case rel => exact ⟨k + 1, by omega, by go_num, by rw [HTK.out]; exact HW.out, HB2.out.grown HG.out hB0 HLT.out⟩
        case measure => simp [intOf]; omega
      · obtain rfl : k = m := by omega
        have htk : ((List.range k).map X).take k = (List.range k).map X := List.take_of_length_le (by simp)
        rw [htk] at p0
        obtain ⟨A1, c1, rfl, f1, _⟩ := p0.out
        have hl1 : ((List.range k).map X).length = k := by simp
        rw [hl1] at f1 ⊢
        have fx : Fl wr A1 k 1 X := f1.congr (fun j hj => (gl_range X k j hj).symm)
        have fm := F0.out.below hB
        have FX := Lib.hid fx
        have HB1 := Lib.hid hB
        have F01 := Lib.hid fm
        have F11 := Lib.hid (F1.out.below hB)
        clear htk p0 f1 hl1 hB hat
        obtain ⟨W, hW⟩ : ∃ W, W = wr := ⟨_, rfl⟩
        rw [← hW] at FX HB1 F01 F11
        have HWW := Lib.hid hW
        clear hW
        go_wp2_with fail
        with_reducible refine (hRe _ _ _ fm fx).mono ?_
        rintro _ w2 ⟨s, rfl, oR, hb⟩
        obtain ⟨AR, cR, rfl, fR, _⟩ := oR.out
        rw [HLX.out] at fR ⊢
        have e0 := HWW.out
        subst e0
        have HB2 := Lib.hid hb
        clear oR hRe fm fx hb
        have fm := F01.out.below HB2.out
        go_wp2_with fail
        with_reducible refine (hSv _ _ _ fm fR).mono ?_
        rintro _ w3 ⟨s, rfl, oF, hb⟩
        have oF2 := oF trivial
        obtain ⟨AF, cF, rfl, fF⟩ := oF2.out
        have HB3 := Lib.hid (below_step HB2.out hb)
        replace fm := fm.below hb
        replace fR := fR.below hb
        have FF := Lib.hid fF
        clear oF oF2 hb fF hSv HB2
        go_wp2_with fail
        with_reducible refine (hFi _ _ _ fm fR).mono ?_
        rintro _ w4 ⟨rfl, hb⟩
        have HB4 := Lib.hid (below_step HB3.out hb)
        have FF4 := Lib.hid (FF.out.below hb)
        replace fm := fm.below hb
        clear hb fR hFi HB3 FF
        have fl := F11.out.below HB4.out
        go_wp2_with fail
        with_reducible refine (hRo _ fm fl).mono ?_
        rintro _ w5 ⟨rfl, hb⟩
        have HB5 := Lib.hid (below_step HB4.out hb)
        have FF5 := Lib.hid (FF4.out.below hb)
        clear hb fl fm hRo HB4 FF4
        go_wp2_with fail
        go_loopw [11] (fun x wr => ∃ j : Nat, j ≤ k ∧ x = .int .i64 j ∧ Below w5.heap.size w5 wr) (fun x _ => k - (intOf x).toNat)
        case atStart => exact ⟨0, Nat.zero_le _, rfl, Below.refl _ _⟩
        case round =>
          obtain ⟨j, hj, rfl, hB⟩ := hrel
          have fm := F01.out.below (below_step HB5.out hB)
          by_cases hjk : j < k
          · have hsj := HSP.out j hjk
            have hcall := hSp2 wr j hjk fm
            obtain ⟨bF, oF, rfl, hcF⟩ := (FF5.out.below hB) (by omega)
            have c0 : wr.cell? ⟨bF, oF + j * 2, none⟩ = some (.int .i64 ((frL T D k).getD (j * 2) 0)) := hcF (j * 2) (by omega)
            have c1 : wr.cell? ⟨bF, oF + (j * 2 + 1), none⟩ = some (.int .i64 ((frL T D k).getD (j * 2 + 1) 0)) := hcF (j * 2 + 1) (by omega)
            rw [(frL_at T D k j hjk).1, (HVX.out j hjk).1] at c0
            rw [(frL_at T D k j hjk).2, (HVX.out j hjk).2, ← Nat.add_assoc] at c1
            obtain ⟨b1, o1, rfl, hc1⟩ := (FX.out.below (below_step HB5.out hB)) (by omega)
            have c2 := hc1 j (by omega)
            generalize mkT (adjV k (gramL L) j j) D = P at *
            generalize mkB (adjV k (gramL L) j j) D = Qb at *
            obtain ⟨hs1, hs2, hs3⟩ := hsj
            have hpn : -8000000 ≤ P * (N : Int) ∧ P * (N : Int) ≤ 8000000 := by
              have : (P * (N : Int)).natAbs ≤ 1000000 * 8 := by rw [Int.natAbs_mul]; exact Nat.mul_le_mul hs2 (by omega)
              omega
            have hlt : ¬ P * (N : Int) < Qb := by omega
            have HB6 := Lib.hid hB
            have hj0 : (0 : Int) ≤ (j : Int) := Int.natCast_nonneg _
            have hj1 : (j : Int) < (k : Int) := by omega
            clear hcF hc1 hB fm hs1
            generalize X j = xj at *
            go_wp2_with fail
            with_reducible refine hcall.mono ?_
            rintro _ w6 ⟨rfl, hb⟩
            have hba := below_alloc hb (.cells #[.int .i64 P, .int .i64 Qb] 45)
            replace c0 := below_cell hba c0
            replace c1 := below_cell hba c1
            replace c2 := below_cell hba c2
            have c3 : (w6.alloc (.cells #[.int .i64 P, .int .i64 Qb] 45)).cell? ⟨w6.heap.size, 0, none⟩ = some (.int .i64 P) := by simp [go_sem]
            have c4 : (w6.alloc (.cells #[.int .i64 P, .int .i64 Qb] 45)).cell? ⟨w6.heap.size, 1, none⟩ = some (.int .i64 Qb) := by simp [go_sem]
            have hB := below_step HB6.out hba
            clear hb hcall hba HB6
            generalize hWW : w6.alloc (.cells #[.int .i64 P, .int .i64 Qb] 45) = W6 at c0 c1 c2 c3 c4 hB
            have HW6 := Lib.hid hWW; clear hWW
            go_wp2_with fail
            rw [HW6.out]
            have hxx : (xj != xj) = false := by simp
            have hdl : decide (P * (N : Int) < Qb) = false := decide_eq_false (by omega)
            (have Ec0 := ext_cell c0; have Ec1 := ext_cell c1; have Ec2 := ext_cell c2; have Ec3 := ext_cell c3; have Ec4 := ext_cell c4; refine calm_lit (by kernel_rfl) (by kernel_rfl) ?_; (repeat (first | go_big_quiet_step (fail) | simp only [TF])); refine wpQuiet_nil ?_; intro w1 hb; clear Ec0 Ec1 Ec2 Ec3 Ec4; replace c0 := below_cell hb c0; replace c1 := below_cell hb c1; replace c2 := below_cell hb c2; replace c3 := below_cell hb c3; replace c4 := below_cell hb c4; replace hB := below_step hB hb; clear hb)
            go_wp2_with fail
            go_roundw
            case rel => exact ⟨j + 1, by omega, by go_num, hB⟩
            case measure => simp [intOf]; omega
          · obtain rfl : j = k := by omega
            have hto := HTO.out
            have hcall := hTo wr fm
            generalize mkT (sumN (fun q => adjV j (gramL L) q q) j) D = P at *
            generalize mkB (sumN (fun q => adjV j (gramL L) q q) j) D = Qb at *
            obtain ⟨hs1, hs2, hs3⟩ := hto
            have hpn : -8000000 ≤ P * (N : Int) ∧ P * (N : Int) ≤ 8000000 := by
              have : (P * (N : Int)).natAbs ≤ 1000000 * 8 := by rw [Int.natAbs_mul]; exact Nat.mul_le_mul hs2 (by omega)
              omega
            have hqn : -8000000 ≤ (j : Int) * Qb ∧ (j : Int) * Qb ≤ 8000000 := by
              have : ((j : Int) * Qb).natAbs ≤ 8 * 1000000 := by rw [Int.natAbs_mul]; exact Nat.mul_le_mul (by omega) hs3
              omega
            have hge : P * (N : Int) ≥ (j : Int) * Qb := hs1
            have HB6 := Lib.hid (below_step HB5.out hB)
            clear hB fm
            go_wp2_with fail
            with_reducible refine hcall.mono ?_
            rintro _ w6 ⟨rfl, hb⟩
            have hB7 := below_step HB6.out hb
            have HB7 := Lib.hid hB7
            clear hb hcall hB7 HB6
            go_wp2_with fail
            go_ret
            exact ⟨rfl, below_alloc (below_step HB.out (below_step HB1.out HB7.out)) _⟩
  · rw [show decide (1048576 < n0) = true by simp; omega] at hs
    go_enter Try.func8, Try.ntmps8
    ((go_wp2_with fail); (with_reducible refine (hs _).mono ?_); rintro _ _ ⟨rfl, rfl⟩)
    go_wp2_with fail
    go_ret
    exact ⟨rfl, Below.refl _ _⟩
end Go.Proofs.Ytmnmnkenboejpaa
