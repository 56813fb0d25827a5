/- The walk of the law FnDrifts: it returns true. No conditions. -/
import Derived.Test.YtmgfejdgjfldfaaDrawD
import Derived.Test.YtmgfejdgjfldfaaDriftP
namespace Go.Proofs.Ytmgfejdgjfldfaa
open Go.RowKit
set_option linter.unusedSimpArgs false
set_option linter.unusedVariables false
set_option maxHeartbeats 4000000
theorem push_len {ops : Array Oper} {rest : List Oper} {o : Oper} {a : Act} {Q : Exit → Act → World → Prop} {wr : World} (hgd : o.guard = none) (s x : Operand)
    (ho : o.op = .call { callee := .builtin .append, args := #[s, x], argTypes := #[22, 22] }) (B : Nat) (sv : Value) (l : List Int) (hs : a.eval s = sv)
    (b off c m : Nat) (ys : List Int) (hy : ys.length = m) (hx : a.eval x = .slice (some ⟨b, off, none⟩) m c) (hc : ∀ j, j < ys.length → wr.cell? ⟨b, off + j, none⟩ = some (.int .i64 (ys.getD j 0)))
    (hown : OwnS wr B sv l) (hlen : l.length + m ≤ 1048576) (hB : B ≤ wr.heap.size)
    (h : ∀ v' w', OwnS w' B v' (l ++ ys) → wr.grownBy w' sv.ownBlock → wpList Try.prog ops Q rest (a.put o.dst v') w') :
    wpList Try.prog ops Q (o :: rest) a wr := by
  subst hy
  exact push_many hgd s x ho B sv l hs b off c ys hx hc hown hlen hB h
set_option maxRecDepth 100000 in
theorem walkDrifts (A : Option Addr) (n k : Nat) (v : Nat → Int) (w : World) (hm : n ≤ maxLen) (hF : Fb w A n v) : Calls Try.prog 8 #[.slice A n k] w fun e w' => e = .returned (.bool true) ∧ Below w.heap.size w w' := by
  have hs : ∀ w, _ := fun w => laws_big A n k w hm
  by_cases hn : n ≤ 1048576
  · rw [show decide (1048576 < n) = false by simp; omega] at hs
    have hat0 : ∀ w, Fb w A n v → _ := fun w f => laws_at A n k v 0 (by decide) w hn f
    have hat1 : ∀ w, Fb w A n v → _ := fun w f => laws_at A n k v 1 (by decide) w hn f
    obtain ⟨x0, hx0⟩ := Int.eq_ofNat_of_zero_le (atV_bd hF 0).1
    obtain ⟨x1, hx1⟩ := Int.eq_ofNat_of_zero_le (atV_bd hF 1).1
    simp only [hx0] at hat0
    simp only [hx1] at hat1
    clear hx0 hx1
    have HAT0 := Lib.hid hat0; clear hat0
    have HAT1 := Lib.hid hat1; clear hat1
    have HF := Lib.hid hF; clear hF
    go_enter Try.func8, Try.ntmps8
    ((go_wp2_with fail); (with_reducible refine (hs _).mono ?_); rintro _ _ ⟨rfl, rfl⟩)
    go_wp2_with fail
    with_reducible refine (spec_DrawDrift A n k v _ hn HF.out).mono ?_
    rintro _ w1 ⟨_, A2, c1, c2, l, u, rfl, ⟨⟨s1, hl, hpm, q1, rfl⟩, s2, hu, htn⟩, hb⟩
    have f0 := s1.fl
    have f1 := s2.fl
    have hB := below_step (Below.refl w.heap.size w) hb
    have hsg : sgnB l.length (fun j => l.getD j 0) = true := by
      simp only [sgnB, Bool.and_eq_true, decide_eq_true_eq, allN_iff]
      refine ⟨hl, fun j hj => ?_⟩
      simp only [signP, decide_eq_true_eq]
      have := hpm (l[j]) (List.getElem_mem hj)
      simpa [List.getD, List.getElem?_eq_getElem hj] using this
    have HP := Lib.hid hpm; clear hpm
    have HT := Lib.hid htn; clear htn
    have HSG := Lib.hid hsg; clear hsg
    clear hb s2
    obtain ⟨N, hN⟩ : ∃ N, l.length = N := ⟨_, rfl⟩
    have HN := Lib.hid hN
    obtain ⟨M, hM⟩ : ∃ M, u.length = M := ⟨_, rfl⟩
    have HM := Lib.hid hM
    have HS1 := Lib.hid s1; clear s1
    rw [hN] at f0 hl
    rw [hM] at f1 hu
    simp only [hN, hM]
    clear hN hM
    obtain ⟨E, hE⟩ := Int.eq_ofNat_of_zero_le (elimV_bd N (fun j => l.getD j 0)).1
    have hE6 := (elimV_bd N (fun j => l.getD j 0)).2
    rw [hE] at hE6
    have hEl := fun w f => impl_Eliminates (some ⟨q1, 0, none⟩) N c1 (fun j => l.getD j 0) w (by omega) f
    simp only [hE] at hEl
    have HE := Lib.hid hE; clear hE
    ((go_wp2_with fail); (with_reducible refine (hEl _ f0).mono ?_); rintro _ _ ⟨rfl, rfl⟩)
    have p0 : OwnS (w1.alloc (.cells #[] 3)) w1.heap.size (.slice (some ⟨w1.heap.size, 0, none⟩) 0 0) [] := OwnS.empty (Nat.le_refl _)
    have hb := below_alloc (Below.refl w1.heap.size w1) (.cells #[] 3)
    have f0' := f0.below hb
    have hB1 := below_step hB hb
    have hlz : ([] : List Int).length ≤ 1048576 := by simp
    have hsz : w1.heap.size ≤ (w1.alloc (.cells #[] 3)).heap.size := hb.size
    clear hb
    have hcell : ∀ j, j < l.length → (w1.alloc (.cells #[] 3)).cell? ⟨q1, 0 + j, none⟩ = some (.int .i64 (l.getD j 0)) := by
      intro j hj
      obtain ⟨b', off', e, hc⟩ := f0' (by rw [← HN.out]; omega)
      injection e with e
      injection e with e1 e2
      subst e1 e2
      exact hc j (by rw [HN.out] at hj; omega)
    have HCELL := Lib.hid hcell; clear hcell
    have HF1 := Lib.hid f0; clear f0
    have HF2 := Lib.hid f0'; clear f0'
    go_wp2_with (at_builtin; refine push_len rfl (.tmp 21) (.tmp 22) rfl w1.heap.size _ [] rfl q1 0 c1 N l HN.out rfl HCELL.out p0 (by simp; omega) hsz ?_; intro s' w2 hown hgrow; have HG := Lib.hid hgrow; clear hgrow; have HO := Lib.hid hown; clear hown)
    have hBw : Below w1.heap.size w1 w2 := (below_alloc (Below.refl w1.heap.size w1) (.cells #[] 3)).grown HG.out hsz (fun q h => (p0.base h).1)
    have HBW := Lib.hid hBw; clear hBw
    clear p0 hB1 hsz HCELL
    have HB := Lib.hid hB; clear hB
    go_loopw [6, 7] (fun s i wr => ∃ j : Nat, j ≤ N ∧ i = .int .i64 j ∧ OwnS wr w1.heap.size s (l ++ negN (fun j => l.getD j 0) j) ∧ Below w1.heap.size w1 wr) (fun _ i _ => N - (intOf i).toNat)
    case atStart => exact ⟨0, Nat.zero_le _, rfl, by simpa [negN] using HO.out, HBW.out⟩
    case round =>
      obtain ⟨j, hj, rfl, p0, hB⟩ := hrel
      have hlen : (l ++ negN (fun j => l.getD j 0) j).length = N + j := by rw [List.length_append, negN_len, HN.out]
      by_cases hjN : j < N
      · have q := (sgnB_inv HSG.out).2 j (by rw [HN.out]; exact hjN)
        have hlen2 : (l ++ negN (fun j => l.getD j 0) j).length ≤ 1048576 := by rw [hlen]; omega
        clear hlen
        have c0 : wr.cell? ⟨q1, j, none⟩ = some (.int .i64 (l.getD j 0)) := by
          obtain ⟨b', off', e, hc⟩ := (HF1.out.below hB) (by omega)
          injection e with e
          injection e with e1 e2
          subst e1 e2
          simpa using hc j (by omega)
        have hsz := hB.size
        have P0 := Lib.hid p0
        have HBB := Lib.hid hB; clear hB
        revert c0 q
        generalize hx : l.getD j 0 = x
        have HX := Lib.hid hx; clear hx
        intro q c0
        go_wp2_with (at_builtin; refine push_one rfl (.tmp 30) (.tmp 36) rfl w1.heap.size _ _ (-x) rfl rfl p0 hlen2 hsz ?_; intro s'' w3 hown hgrow; have HG2 := Lib.hid hgrow; clear hgrow; have HO2 := Lib.hid hown; clear hown)
        go_roundw
        case rel =>
          refine ⟨j + 1, by omega, by go_num, ?_, HBB.out.grown HG2.out hsz (fun q h => (P0.out.base h).1)⟩
          have := HO2.out
          simp only [negN, HX.out]
          rw [← List.append_assoc]
          exact this
        case measure => simp [intOf]; omega
      · obtain rfl : N = j := by omega
        obtain ⟨A3, c3, rfl, f3⟩ := p0.out
        rw [hlen] at f3
        simp only [hlen]
        clear hlen p0
        have hV : N ≠ 0 → N + N ≤ 32 → E ≠ 6 → (E : Int) + 1 ≤ elimV (N + N) (fun j => (l ++ negN (fun j => l.getD j 0) N).getD j 0) := by
          intro g1 g2 g3
          have hz := both_law (n := N) (z := fun j => l.getD j 0) (v := fun j => (l ++ negN (fun j => l.getD j 0) N).getD j 0) (by rw [← HN.out]; rw [HN.out]; have := HSG.out; rw [HN.out] at this; exact this) g1 g2 (by rw [HE.out]; omega)
            (fun j hj => by simp [List.getD, List.getElem?_append, HN.out, hj]) (fun j hj => ?_)
          · rw [HE.out] at hz; exact hz
          · have e := negN_list l
            rw [HN.out] at e
            rw [e]
            have hj' : j < l.length := by rw [HN.out]; exact hj
            have hnl : ¬ N + j < N := by omega
            simp [List.getD, List.getElem?_append, HN.out, hj', List.getElem?_eq_getElem hj', hnl]
        have hZ : ∀ d : Nat, d < E → sgnV N (fun j => l.getD j 0) d = 0 := fun d hd => sgnV_zero (by rw [HE.out]; omega)
        have hD : M ≤ E → driftV N (fun j => l.getD j 0) M (fun j => u.getD j 0) = 0 := fun h => driftV_zero (by rw [HE.out]; omega)
        have hV3 := fun w f => impl_Eliminates A3 (N + N) c3 (fun j => (l ++ negN (fun j => l.getD j 0) N).getD j 0) w (by omega) f
        have hSS := fun (d : Nat) w f => impl_SignSum (some ⟨q1, 0, none⟩) N c1 (fun j => l.getD j 0) d w (by omega) f
        have hDS := fun w f g => impl_DriftedSum (some ⟨q1, 0, none⟩) A2 N c1 M c2 (fun j => l.getD j 0) (fun j => u.getD j 0) w (by omega) (by omega) f g
        revert hV hZ hD hV3 hSS hDS
        generalize elimV (N + N) (fun j => (l ++ negN (fun j => l.getD j 0) N).getD j 0) = V
        generalize driftV N (fun j => l.getD j 0) M (fun j => u.getD j 0) = DD
        intro hV hZ hD hV3 hSS hDS
        have HV := Lib.hid hV; clear hV
        have HZ := Lib.hid hZ; clear hZ
        have HD := Lib.hid hD; clear hD
        have HV3 := Lib.hid hV3; clear hV3
        have HSS := Lib.hid hSS; clear hSS
        have HDS := Lib.hid hDS; clear hDS
        have hb1 := below_step HB.out hB
        have g0 := HF1.out.below hB
        have g1 := f1.below hB
        have FB := Lib.hid (HF.out.below hb1)
        obtain ⟨K, hKe, hK6⟩ : ∃ K : Nat, (x0 : Int) % 6 = K ∧ K < 6 := ⟨x0 % 6, by omega, by omega⟩
        obtain ⟨J, hJe, hJ4, hJn⟩ : ∃ J : Nat, (x1 : Int) % 4 = J ∧ J < 4 ∧ x1 % 4 = J := ⟨x1 % 4, by omega, by omega, rfl⟩
        have HJN := Lib.hid hJn; clear hJn
        have HJE := Lib.hid hJe; clear hJe
        have hat0 := fun w f => HAT0.out w f
        have hat1 := fun w f => HAT1.out w f
        simp only [Int.natCast_zero, Int.natCast_one] at hat0 hat1
        go_wp2_with fail
        with_reducible refine (hat0 _ FB.out).mono ?_
        rintro _ w4 ⟨rfl, hb⟩
        have hb2 := below_step hb1 hb
        have FB4 := Lib.hid (FB.out.below hb)
        replace g0 := g0.below hb
        replace g1 := g1.below hb
        replace f3 := f3.below hb
        clear hb hb1
        go_wp2_with fail
        rw [hKe]
        clear hKe
        with_reducible refine (impl_Thue K _).mono ?_
        rintro _ w5 ⟨A4, c4, rfl, hA4, hb⟩
        have hthl : (thV (K : Int)).length = 2 ^ K := by rw [thV_yes (by rw [inB_iff]; omega), Int.toNat_natCast, thI_len]
        have hth := thue_law K hK6
        rw [show thI K = thV (K : Int) from by rw [thV_yes (by rw [inB_iff]; omega), Int.toNat_natCast]] at hth
        have f4 : Fl w5 A4 (thV (K : Int)).length 1 (fun j => (thV (K : Int)).getD j 0) := IntRes.fl fun hl => by
          obtain ⟨q, e, _, o⟩ := hA4 hl
          exact ⟨q, e, o⟩
        clear hA4
        have hb3 := below_step hb2 hb
        have FB5 := Lib.hid (FB4.out.below hb)
        replace g0 := g0.below hb
        replace g1 := g1.below hb
        replace f3 := f3.below hb
        clear hb hb2
        have hT4 := fun w f => impl_Eliminates A4 (thV (K : Int)).length c4 (fun j => (thV (K : Int)).getD j 0) w (thV_len _) f
        rw [hth] at hT4
        obtain ⟨P, hP⟩ : ∃ P, (thV (K : Int)).length = P := ⟨_, rfl⟩
        rw [hP] at hthl f4 hT4
        simp only [hP]
        have HPE := Lib.hid hthl; clear hthl
        clear hP hth
        have HT4 := Lib.hid hT4; clear hT4
        have hJ2 : shortV (J : Int) = ((2 ^ J : Nat) : Int) := by
          rw [shortV_yes (by rw [inB_iff]; omega)]
          obtain rfl | rfl | rfl | rfl : J = 0 ∨ J = 1 ∨ J = 2 ∨ J = 3 := by omega
          all_goals decide
        have hSh := fun w => impl_Short (J : Int) w
        rw [hJ2] at hSh
        clear hJ2
        obtain ⟨R, hR⟩ : ∃ R, 2 ^ J = R := ⟨_, rfl⟩
        simp only [hR] at hSh
        have HR := Lib.hid hR; clear hR
        have HSH := Lib.hid hSh; clear hSh
        have G0 := Lib.hid g0; clear g0
        have G1 := Lib.hid g1; clear g1
        have G3 := Lib.hid f3; clear f3
        have G4 := Lib.hid f4; clear f4
        clear hB
        go_wp2_with fail
        go_loop [10] (fun x => ∃ d : Nat, d ≤ E ∧ x = .int .i64 d) (fun x => E - (intOf x).toNat)
        case atStart => exact ⟨0, Nat.zero_le _, rfl⟩
        case round =>
          obtain ⟨d, hd, rfl⟩ := hrel
          by_cases hdE : d < E
          · have hS0 := HSS.out d w5 G0.out
            rw [HZ.out d hdE] at hS0
            go_wp2_with ((go_at_call 16; (with_reducible refine (hS0).mono ?_); rintro _ _ ⟨rfl, rfl⟩))
            go_round
            case rel => exact ⟨d + 1, by omega, by go_num⟩
            case measure => simp [intOf]; omega
          · obtain rfl : E = d := by omega
            go_wp2_with fail
            with_reducible refine (hat1 _ FB5.out).mono ?_
            rintro _ w6 ⟨rfl, hb⟩
            have hb4 := below_step hb3 hb
            have FB6 := Lib.hid (FB5.out.below hb)
            have g0 := G0.out.below hb
            have g1 := G1.out.below hb
            have f3 := G3.out.below hb
            have f4 := G4.out.below hb
            clear hb
            go_wp2_with fail
            rw [HJE.out]
            with_reducible refine (HSH.out _).mono ?_
            rintro _ w7 ⟨rfl, hb⟩
            have hb5 := below_step hb4 hb
            have FB7 := Lib.hid (FB6.out.below hb)
            replace g0 := g0.below hb
            replace g1 := g1.below hb
            replace f3 := f3.below hb
            replace f4 := f4.below hb
            clear hb hb4 hb3
            have e3 := HV3.out w7 f3
            have e4 := HT4.out w7 f4
            have e5 := HDS.out w7 g0 g1
            have e6 := hat1 w7 FB7.out
            clear f3 f4 g0 g1
            have HB5 := Lib.hid hb5; clear hb5
            have hcs1 : 32 < N + N ∨ (N + N ≤ 32 ∧ N ≤ 0) ∨ (N + N ≤ 32 ∧ 0 < N ∧ 6 ≤ E) ∨ (N + N ≤ 32 ∧ 0 < N ∧ E < 6 ∧ (E : Int) + 1 ≤ V) := by
              by_cases a1 : N + N ≤ 32
              · by_cases a2 : N = 0
                · right; left; omega
                · by_cases a3 : E = 6
                  · right; right; left; omega
                  · have := HV.out a2 a1 a3
                    right; right; right; omega
              · left; omega
            have hcs2 : E < M ∨ (M ≤ E ∧ DD = 0) := by
              by_cases a1 : M ≤ E
              · right; exact ⟨a1, HD.out a1⟩
              · left; omega
            have w1e : wrap64 ((2 : Int) ^ K) = (P : Int) := by rw [HPE.out]; exact (wrap_pow K (by omega)).1
            have w2e : wrap64 ((2 : Int) ^ (x1 % 4)) = (R : Int) := by rw [HJN.out, ← HR.out]; exact (wrap_pow J (by omega)).1
            clear HSS HZ HD HV HV3 HDS HT4 HSH G0 G1 G3 G4 HF1 HF2 HBW HO HG HSG HP HT HS1 HN HM HE HB HAT0 HAT1 hat0 hat1 FB FB4 FB5 FB6 FB7 HPE HR HJE HJN
            rcases hcs1 with a1 | ⟨a1, a2⟩ | ⟨a1, a2, a3⟩ | ⟨a1, a2, a3, a4⟩
            all_goals
              rcases hcs2 with b1 | ⟨b1, rfl⟩
              all_goals
                go_wp2_with (first | (go_at_call 18; (with_reducible refine (e3).mono ?_); rintro _ _ ⟨rfl, rfl⟩) | (go_at_call 18; (with_reducible refine (e4).mono ?_); rintro _ _ ⟨rfl, rfl⟩) | (go_at_call 20; (with_reducible refine (e5).mono ?_); rintro _ _ ⟨rfl, rfl⟩) | (go_at_call 25; (with_reducible refine (e6).mono ?_); rintro _ w8 ⟨rfl, hb⟩))
                all_goals
                  go_ret
                  exact ⟨by simp, below_step HB5.out hb⟩
  · rw [show decide (1048576 < n) = true by simp; omega] at hs
    have hB := Below.refl w.heap.size w
    go_enter Try.func8, Try.ntmps8
    ((go_wp2_with fail); (with_reducible refine (hs _).mono ?_); rintro _ _ ⟨rfl, rfl⟩)
    go_wp2_with fail
    go_ret
    exact ⟨rfl, hB⟩
end Go.Proofs.Ytmgfejdgjfldfaa
