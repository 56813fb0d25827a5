/- The walk of the law FnChains: it returns true. No conditions. -/
import Derived.Test.YtgmfpdnjeengoaaDrawC
import Derived.Test.YtgmfpdnjeengoaaChainP
namespace Go.Proofs.Ytgmfpdnjeengoaa
open Go.RowKit
set_option linter.unusedSimpArgs false
set_option linter.unusedVariables false
set_option maxHeartbeats 4000000
set_option maxRecDepth 100000 in
theorem walkChains (A : Option Addr) (n k : Nat) (v : Nat → Int) (w : World) (hm : n ≤ maxLen) (hF : Fb w A n v) : Calls Try.prog 9 #[.slice A n k] w fun e w' => e = .returned (.bool true) ∧ Below w.heap.size w w' := by
  have hs : ∀ w, _ := fun w => laws_big A n k w hm
  by_cases hn : n ≤ 1048576
  · rw [show decide (1048576 < n) = false by simp; omega] at hs
    have hat0 : ∀ w, Fb w A n v → _ := fun w f => laws_at A n k v 0 (by decide) w hn f
    obtain ⟨x0, hx0⟩ := Int.eq_ofNat_of_zero_le (atV_bd hF 0).1
    simp only [hx0, Int.natCast_zero] at hat0
    clear hx0
    have HAT0 := Lib.hid hat0; clear hat0
    have HF := Lib.hid hF; clear hF
    go_enter Try.func9, Try.ntmps9
    ((go_wp2_with fail); (with_reducible refine (hs _).mono ?_); rintro _ _ ⟨rfl, rfl⟩)
    go_wp2_with fail
    with_reducible refine (spec_DrawChain A n k v _ hn HF.out).mono ?_
    rintro _ w1 ⟨A1, c1, m, a, b, l, rfl, ⟨f0, hm9, hok, ha, hb9⟩, hb⟩
    have hB := below_step (Below.refl w.heap.size w) hb
    have FB := Lib.hid (HF.out.below hb)
    clear hb
    obtain ⟨u, hu⟩ : ∃ u : Nat → Int, u = fun j => l.getD j 0 := ⟨_, rfl⟩
    have hch : chainB m u = true := by rw [hu]; exact okL_chain hok hm9
    have hoka : (-1 ≤ u (a * 3) ∧ u (a * 3) ≤ (a : Int) - 1) ∧ (-10 ≤ u (a * 3 + 1) ∧ u (a * 3 + 1) ≤ 1000) ∧ 0 ≤ u (a * 3 + 2) ∧ u (a * 3 + 2) ≤ 5 := by
      rw [hu]
      have := hok a ha
      simp only
      omega
    rw [← hu] at f0
    clear hok hu
    obtain ⟨c, hce, hcm⟩ : ∃ c : Nat, (x0 : Int) % (m : Int) = c ∧ c < m := ⟨x0 % m, by simp, Nat.mod_lt _ (by omega)⟩
    have HCE := Lib.hid hce; clear hce
    have hAB := fun w f => impl_DiffError A1 m c1 u a b w (by omega) f
    have hBA := fun w f => impl_DiffError A1 m c1 u b a w (by omega) f
    rw [df_sym hch hb9 ha] at hBA
    have hAC := fun w f => impl_DiffError A1 m c1 u a c w (by omega) f
    have hCB := fun w f => impl_DiffError A1 m c1 u c b w (by omega) f
    have hAA := fun w f => impl_DiffError A1 m c1 u a a w (by omega) f
    rw [df_self hch ha] at hAA
    have hEA := fun w f => impl_ErrorIn A1 m c1 u a w (by omega) f
    have hEB := fun w f => impl_ErrorIn A1 m c1 u b w (by omega) f
    have i1 := df_nonneg hch ha hb9
    have i2 := df_nonneg hch ha hcm
    have i3 := df_nonneg hch hcm hb9
    have i4 := df_tri hch ha hb9 hcm
    have i5 := df_le hch ha hb9
    have i6 := er_bd hch ha
    have i7 := er_bd hch hb9
    have hAP := fun w f => impl_DiffError A1 m c1 u a (u (a * 3)) w (by omega) f
    have hWA := fun w f => impl_WeightIn A1 m c1 u a w (by omega) f
    have hWP := fun w f => impl_WeightIn A1 m c1 u (u (a * 3)) w (by omega) f
    have hDe := fun w f => impl_DepthIn A1 m c1 u w (by omega) f
    have hOk := fun w f => impl_ChainOk A1 m c1 u w f
    rw [hch] at hOk
    have i8 := dep_ge (n := m) (v := u) m a ha
    have i9 := way_in hch ha
    have hL : 1 ≤ (abvL m u a).length := by rw [i9]; simp
    have hL13 := abvL_bd m u a
    have hdp := depN_bd m u m
    have hfst : (abvL m u a).getD 0 0 = (a : Int) := by rw [i9]; rfl
    clear i9
    have hPp : 0 ≤ u (a * 3) → dfV m u a (u (a * 3)) = u (a * 3 + 2) ∧ wtV m u a = wrap64 (wtV m u (u (a * 3)) + u (a * 3 + 1)) := fun hp => by
      refine ⟨df_parent hch ha hp, ?_⟩
      have h1 := wt_parent hch ha hp
      have h2 := wt_bd hch ha
      rw [← h1]
      unfold wrap64
      omega
    have hPn : u (a * 3) < 0 → wtV m u a = u (a * 3 + 1) := fun hp => wt_root hch ha hp
    have hAv := fun w f => impl_AboveIn A1 m c1 u a w (by omega) f
    revert hAB hBA hAC hCB hEA hEB i1 i2 i3 i4 i5 i6 i7 hAP hWA hWP hDe i8 hdp hPp hPn
    generalize dfV m u a b = Dab
    generalize dfV m u a c = Dac
    generalize dfV m u c b = Dcb
    generalize erV m u a = Ea
    generalize erV m u b = Eb
    generalize dfV m u a (u (a * 3)) = Dap
    generalize wtV m u a = Wa
    generalize wtV m u (u (a * 3)) = Wp
    generalize depN m u m = De
    intro hAB hBA hAC hCB hEA hEB i1 i2 i3 i4 i5 i6 i7 hAP hWA hWP hDe i8 hdp hPp hPn
    have HPP := Lib.hid hPp; clear hPp
    have HPN := Lib.hid hPn; clear hPn
    have HFS := Lib.hid hfst; clear hfst
    clear hch
    obtain ⟨blk, off, rfl, hcs⟩ := f0 (by omega)
    have c0 := hcs (a * 3) (by omega)
    have c3 := hcs (a * 3 + 1) (by omega)
    have c4 := hcs (a * 3 + 2) (by omega)
    rw [← Nat.add_assoc] at c3 c4
    clear hcs
    revert c0 c3 c4 hoka hAP hWP HPP HPN
    generalize hP0 : u (a * 3) = P
    generalize hP1 : u (a * 3 + 1) = P1
    generalize hP2 : u (a * 3 + 2) = P2
    clear hP0 hP1 hP2
    intro hoka HPP HPN hAP hWP c0 c3 c4
    obtain ⟨⟨hp1, hp2⟩, ⟨hp3, hp4⟩, hp5, hp6⟩ := hoka
    go_wp2_with fail
    with_reducible refine (HAT0.out _ FB.out).mono ?_
    rintro _ w1 ⟨rfl, hb⟩
    (skip; replace f0 := Fl.below f0 hb; replace c0 := below_cell hb c0; replace c3 := below_cell hb c3; replace c4 := below_cell hb c4; replace hB := below_step hB hb; clear hb)
    go_wp2_with fail
    rw [HCE.out]
    with_reducible refine (hAB _ f0).mono ?_
    rintro _ w1 ⟨rfl, hb⟩
    (skip; replace f0 := Fl.below f0 hb; replace c0 := below_cell hb c0; replace c3 := below_cell hb c3; replace c4 := below_cell hb c4; replace hB := below_step hB hb; clear hb)
    go_wp2_with fail
    with_reducible refine (hAv _ f0).mono ?_
    rintro _ w1 ⟨A2, c2, rfl, hA2, hb⟩
    obtain ⟨g2, rfl, hg2, o2⟩ := hA2 (by omega)
    (skip; replace f0 := Fl.below f0 hb; replace c0 := below_cell hb c0; replace c3 := below_cell hb c3; replace c4 := below_cell hb c4; replace hB := below_step hB hb; clear hb)
    have c5 : w1.cell? ⟨g2, 0, none⟩ = some (.int .i64 a) := by
      have := o2.cell (j := 0) (by omega)
      rw [HFS.out] at this
      exact this
    clear o2 hA2 hg2
    obtain ⟨L, hLe⟩ : ∃ L, (abvL m u a).length = L := ⟨_, rfl⟩
    rw [hLe] at hL hL13 i8
    simp only [hLe]
    clear hLe HFS HAT0 HCE
    have hL0 : ((L : Int) == 0) = false := by simp; omega
    go_wp2_with (first | (go_at_call 28; (with_reducible refine (hBA _ f0).mono ?_); rintro _ w1 ⟨rfl, hb⟩; replace f0 := Fl.below f0 hb; replace c0 := below_cell hb c0; replace c3 := below_cell hb c3; replace c4 := below_cell hb c4; replace c5 := below_cell hb c5; replace hB := below_step hB hb; clear hb) | (go_at_call 28; (with_reducible refine (hAC _ f0).mono ?_); rintro _ w1 ⟨rfl, hb⟩; replace f0 := Fl.below f0 hb; replace c0 := below_cell hb c0; replace c3 := below_cell hb c3; replace c4 := below_cell hb c4; replace c5 := below_cell hb c5; replace hB := below_step hB hb; clear hb) | (go_at_call 28; (with_reducible refine (hCB _ f0).mono ?_); rintro _ w1 ⟨rfl, hb⟩; replace f0 := Fl.below f0 hb; replace c0 := below_cell hb c0; replace c3 := below_cell hb c3; replace c4 := below_cell hb c4; replace c5 := below_cell hb c5; replace hB := below_step hB hb; clear hb) | (go_at_call 28; (with_reducible refine (hAA _ f0).mono ?_); rintro _ w1 ⟨rfl, hb⟩; replace f0 := Fl.below f0 hb; replace c0 := below_cell hb c0; replace c3 := below_cell hb c3; replace c4 := below_cell hb c4; replace c5 := below_cell hb c5; replace hB := below_step hB hb; clear hb) | (go_at_call 26; (with_reducible refine (hEA _ f0).mono ?_); rintro _ w1 ⟨rfl, hb⟩; replace f0 := Fl.below f0 hb; replace c0 := below_cell hb c0; replace c3 := below_cell hb c3; replace c4 := below_cell hb c4; replace c5 := below_cell hb c5; replace hB := below_step hB hb; clear hb) | (go_at_call 26; (with_reducible refine (hEB _ f0).mono ?_); rintro _ w1 ⟨rfl, hb⟩; replace f0 := Fl.below f0 hb; replace c0 := below_cell hb c0; replace c3 := below_cell hb c3; replace c4 := below_cell hb c4; replace c5 := below_cell hb c5; replace hB := below_step hB hb; clear hb))
    clear hAB hBA hAC hCB hAA hEA hEB i1 i2 i3 i4 i5 i6 i7 hAv c5
    have EF0 := fun e => Fl.below f0 (ext_below _ e)
    by_cases hp : 0 ≤ P
    · obtain ⟨e1, e2⟩ := HPP.out hp
      rw [e1] at hAP
      rw [e2] at hWA
      clear e1 e2
      (have Ec0 := ext_cell c0; have Ec3 := ext_cell c3; have Ec4 := ext_cell c4; refine calm_lit (by kernel_rfl) (by kernel_rfl) ?_; (repeat (first | go_big_quiet_step ((first | (go_at_call 28; with_reducible exact calm_of (hAP _ (EF0 _))) | (go_at_call 24; with_reducible exact calm_of (hWA _ (EF0 _))) | (go_at_call 24; with_reducible exact calm_of (hWP _ (EF0 _))))) | simp only [TF])); refine wpQuiet_nil ?_; intro w1 hb; clear Ec0 Ec3 Ec4; replace f0 := Fl.below f0 hb; replace c0 := below_cell hb c0; replace c3 := below_cell hb c3; replace c4 := below_cell hb c4; replace hB := below_step hB hb; clear hb)
      clear EF0
      go_wp2_with fail
      have EF1 := fun e => Fl.below f0 (ext_below _ e)
      (have Ec0 := ext_cell c0; have Ec3 := ext_cell c3; have Ec4 := ext_cell c4; refine calm_lit (by kernel_rfl) (by kernel_rfl) ?_; (repeat (first | go_big_quiet_step ((first | (go_at_call 30; with_reducible exact calm_of (hDe _ (EF1 _))) | (go_at_call 15; with_reducible exact calm_of (hOk _ (EF1 _))) | (go_at_call 24; with_reducible exact calm_of (hWA _ (EF1 _))))) | simp only [TF])); refine wpQuiet_nil ?_; intro w1 hb; clear Ec0 Ec3 Ec4; replace f0 := Fl.below f0 hb; replace c0 := below_cell hb c0; replace c3 := below_cell hb c3; replace c4 := below_cell hb c4; replace hB := below_step hB hb; clear hb)
      go_wp2_with fail
      go_ret
      exact ⟨by simp, hB⟩
    · have e2 := HPN.out (by omega)
      rw [e2] at hWA
      clear e2
      (have Ec0 := ext_cell c0; have Ec3 := ext_cell c3; have Ec4 := ext_cell c4; refine calm_lit (by kernel_rfl) (by kernel_rfl) ?_; (repeat (first | go_big_quiet_step ((first | (go_at_call 28; with_reducible exact calm_of (hAP _ (EF0 _))) | (go_at_call 24; with_reducible exact calm_of (hWA _ (EF0 _))) | (go_at_call 24; with_reducible exact calm_of (hWP _ (EF0 _))))) | simp only [TF])); refine wpQuiet_nil ?_; intro w1 hb; clear Ec0 Ec3 Ec4; replace f0 := Fl.below f0 hb; replace c0 := below_cell hb c0; replace c3 := below_cell hb c3; replace c4 := below_cell hb c4; replace hB := below_step hB hb; clear hb)
      clear EF0
      go_wp2_with fail
      have TF : decide (0 ≤ P) = false := by simp; omega
      have EF1 := fun e => Fl.below f0 (ext_below _ e)
      (have Ec0 := ext_cell c0; have Ec3 := ext_cell c3; have Ec4 := ext_cell c4; refine calm_lit (by kernel_rfl) (by kernel_rfl) ?_; (repeat (first | go_big_quiet_step ((first | (go_at_call 30; with_reducible exact calm_of (hDe _ (EF1 _))) | (go_at_call 15; with_reducible exact calm_of (hOk _ (EF1 _))) | (go_at_call 24; with_reducible exact calm_of (hWA _ (EF1 _))))) | simp only [TF])); refine wpQuiet_nil ?_; intro w1 hb; clear Ec0 Ec3 Ec4; replace f0 := Fl.below f0 hb; replace c0 := below_cell hb c0; replace c3 := below_cell hb c3; replace c4 := below_cell hb c4; replace hB := below_step hB hb; clear hb)
      go_wp2_with fail
      go_ret
      exact ⟨by simp, hB⟩
  · rw [show decide (1048576 < n) = true by simp; omega] at hs
    have hB := Below.refl w.heap.size w
    go_enter Try.func9, Try.ntmps9
    ((go_wp2_with fail); (with_reducible refine (hs _).mono ?_); rintro _ _ ⟨rfl, rfl⟩)
    go_wp2_with fail
    go_ret
    exact ⟨rfl, hB⟩
end Go.Proofs.Ytgmfpdnjeengoaa
