/- The law of ResiduesOf: its walk. -/
import Derived.Test.YtmnmnkenboejpaaSqs
import Derived.Test.YtmnmnkenboejpaaMarkSS
namespace Go.Proofs.Ytmnmnkenboejpaa
open Go.RowKit
set_option linter.unusedSimpArgs false
set_option linter.unusedVariables false
set_option maxHeartbeats 4000000
set_option maxRecDepth 100000 in
theorem walkRes (A : Option Addr) (c : Nat) (L : List (List Int)) (B : Option Addr) (n d : Nat) (v : Nat → Int) (w : World) (hmL : L.length ≤ maxLen) (hrL : ∀ r ∈ L, r.length ≤ maxLen) (m0 : Fm w A L) (hm : n ≤ maxLen) (f1 : Fl w B n 1 v) :
    Calls Try.prog 5 #[.slice A L.length c, .slice B n d] w fun e w' => e = .returned (.bool true) ∧ Below w.heap.size w w' := by
  have hB := Below.refl w.heap.size w
  have hsz0 := fun w m0 => szIntSS_any A c L w hmL hrL m0
  obtain ⟨S, hS⟩ : ∃ S, S = (if L.length ≤ 1048576 then szM L (1048576 - L.length) else -1) := ⟨_, rfl⟩
  have hsz : ∀ w, Fm w A L → Calls Try.prog 10 #[.slice A L.length c, .int .i64 1048576] w fun e w' => e = .returned (.int .i64 S) ∧ w = w' := by rw [hS]; exact hsz0
  clear hsz0
  unfold maxLen at hm
  by_cases hn : n ≤ 1048576
  · by_cases hs : S < 0
    · clear hS
      go_enter Try.func5, Try.ntmps5
      (go_wp2_with fail); (with_reducible refine (hsz _ m0).mono ?_); rintro _ _ ⟨rfl, rfl⟩
      go_wp2_with fail
      go_ret
      exact ⟨rfl, hB⟩
    · have hn1 : L.length ≤ 1048576 := by
        by_cases h : L.length ≤ 1048576
        · exact h
        · rw [if_neg h] at hS; omega
      have hr1 : ∀ r ∈ L, r.length ≤ 1048576 := fun r hr => by
        rw [if_pos hn1] at hS
        have := szM_ok L (1048576 - (L.length : Int)) (by omega) (by omega) r hr
        omega
      clear hS
      have HS := fun (A : Option Addr) (c : Nat) (B : Option Addr) (d : Nat) (w : World) hF hG => (spec_Res A B c d n L v w hn1 hr1 hn hF hG).mono (fun e w' h => (show IntRes w (resV L n v) e w' from by obtain ⟨s, rfl, o, hb⟩ := h; exact o.res hb))
      have HI := fun (A : Option Addr) (c : Nat) (B : Option Addr) (d : Nat) (w : World) hF hG => (impl_Res A B c d n L v w hn1 hr1 hn hF hG).mono (fun e w' h => (show IntRes w (resV L n v) e w' from by obtain ⟨s, rfl, o, _, hb⟩ := h; exact o.res hb))
      have hN : (resV L n v).length ≤ 1048576 := Nat.le_trans res_le (by omega)
      have M0 := Lib.hid m0; clear m0
      have F1 := Lib.hid f1; clear f1
      rcases Nat.eq_zero_or_pos (resV L n v).length with hl | hl
      · replace HS := Lib.hid (fun (A : Option Addr) (c : Nat) (B : Option Addr) (d : Nat) (w : World) hF hG => (HS A c B d w hF hG).mono (fun e w' h => IntRes.res0 h hl))
        replace HI := Lib.hid (fun (A : Option Addr) (c : Nat) (B : Option Addr) (d : Nat) (w : World) hF hG => (HI A c B d w hF hG).mono (fun e w' h => IntRes.res0 h hl))
        clear hl hN
        go_enter Try.func5, Try.ntmps5
        (go_wp2_with fail); (with_reducible refine (hsz _ M0.out).mono ?_); rintro _ _ ⟨rfl, rfl⟩
        clear hsz
        (go_wp2_with fail); (with_reducible refine (toIntSS_own A c L _ hn1 hr1 (M0.out.below hB)).mono ?_); rintro _ w1 ⟨gp1, rfl, hgp1, p1, hb⟩; replace hB := below_step hB hb; clear hb
        (go_wp2_with fail); (with_reducible refine (toIntS_any B n d v _ hn (F1.out.below hB)).mono ?_); rintro _ w1 ⟨go2, rfl, hgo2, o2, hb⟩; replace p1 := PO.below p1 hb; replace hB := below_step hB hb; clear hb
        (go_wp2_with fail); (with_reducible refine (HS.out _ _ _ _ _ (p1.pm.fm (Nat.le_refl _)) (o2.fl (Nat.le_refl _))).mono ?_); rintro _ w1 ⟨Aw, cw, rfl, hb⟩; replace hB := below_step hB hb; clear hb
        clear p1 o2
        have zb := hB.size
        (go_wp2_with fail); (with_reducible refine (toIntSS_own A c L _ hn1 hr1 (M0.out.below hB)).mono ?_); rintro _ w1 ⟨gp3, rfl, hgp3, p3, hb⟩; replace hB := below_step hB hb; clear hb
        have z3 := hB.size
        have q3 := p3.pq
        have lp := p3.lt
        (go_wp2_with fail); (with_reducible refine (toIntS_any B n d v _ hn (F1.out.below hB)).mono ?_); rintro _ w1 ⟨go4, rfl, hgo4, o4, hb⟩; replace p3 := PO.below p3 hb; replace q3 := PQ.below q3 hb; replace hB := below_step hB hb; clear hb
        (go_wp2_with fail); (with_reducible refine (HI.out _ _ _ _ _ (p3.pm.fm (Nat.le_refl _)) (o4.fl (Nat.le_refl _))).mono ?_); rintro _ w1 ⟨Ag, cg, rfl, hb⟩; replace p3 := PO.below p3 hb; replace q3 := PQ.below q3 hb; replace o4 := Own.below o4 hb; replace hB := below_step hB hb; clear hb
        ((go_wp2_with fail); (with_reducible refine (eqIntS_nil _ _ _ _ _).mono ?_); rintro _ _ ⟨rfl, rfl⟩)
        (go_wp2_with fail); (with_reducible refine (toIntSS_own A c L _ hn1 hr1 (M0.out.below hB)).mono ?_); rintro _ w1 ⟨gp5, rfl, hgp5, p5, hb⟩; replace p3 := PO.below p3 hb; replace q3 := PQ.below q3 hb; replace o4 := Own.below o4 hb; replace hB := below_step hB hb; clear hb
        (go_wp2_with fail); (with_reducible refine (eqIntSS_true _ _ _ _ L _ hn1 hr1 (p3.pm.fm (Nat.le_refl _)) (p5.pm.fm (Nat.le_refl _))).mono ?_); rintro _ w1 ⟨rfl, hb⟩; replace p3 := PO.below p3 hb; replace q3 := PQ.below q3 hb; replace o4 := Own.below o4 hb; replace hB := below_step hB hb; clear hb
        clear p5
        (go_wp2_with fail); (with_reducible refine (toIntS_any B n d v _ hn (F1.out.below hB)).mono ?_); rintro _ w1 ⟨go6, rfl, hgo6, o6, hb⟩; replace p3 := PO.below p3 hb; replace q3 := PQ.below q3 hb; replace o4 := Own.below o4 hb; replace hB := below_step hB hb; clear hb
        (go_wp2_with fail); (with_reducible refine (eqIntS_true _ _ n _ _ v _ hn (o4.fl (Nat.le_refl _)) (o6.fl (Nat.le_refl _))).mono ?_); rintro _ w1 ⟨rfl, hb⟩; replace p3 := PO.below p3 hb; replace q3 := PQ.below q3 hb; replace o4 := Own.below o4 hb; replace hB := below_step hB hb; clear hb
        clear o6
        (go_wp2_with fail); (with_reducible refine (markIntSS_any _ _ _ _ L _ hn1 hr1 q3).mono ?_); rintro _ w1 ⟨s, rfl, hs1, hT⟩; replace o4 := o4.twx hT (Or.inr (by omega)); replace hB := Twx.below hB hT (by omega); clear hT
        (go_wp2_with fail); (with_reducible refine (markIntS_from _ n _ s v _ hn hs1 o4).mono ?_); rintro _ w1 ⟨rfl, _, hy⟩; replace hB := only_below hB hy (by omega); clear hy o4
        ((go_wp2_with fail); (with_reducible refine (eqIntS_nil _ _ _ _ _).mono ?_); rintro _ _ ⟨rfl, rfl⟩)
        ((go_wp2_with fail); (with_reducible refine (markIntS_nil _ _ _).mono ?_); rintro _ _ ⟨rfl, rfl⟩)
        ((go_wp2_with fail); (with_reducible refine (heldIntS_nil _ _ _).mono ?_); rintro _ _ ⟨rfl, rfl⟩)
        (go_wp2_with fail); (with_reducible refine (toIntSS_own A c L _ hn1 hr1 (M0.out.below hB)).mono ?_); rintro _ w1 ⟨gp7, rfl, hgp7, p7, hb⟩; replace hB := below_step hB hb; clear hb
        (go_wp2_with fail); (with_reducible refine (toIntS_any B n d v _ hn (F1.out.below hB)).mono ?_); rintro _ w1 ⟨go8, rfl, hgo8, o8, hb⟩; replace p7 := PO.below p7 hb; replace hB := below_step hB hb; clear hb
        (go_wp2_with fail); (with_reducible refine (HI.out _ _ _ _ _ (p7.pm.fm (Nat.le_refl _)) (o8.fl (Nat.le_refl _))).mono ?_); rintro _ w1 ⟨Ah, ch, rfl, hb⟩; replace hB := below_step hB hb; clear hb
        clear p7 o8
        ((go_wp2_with fail); (with_reducible refine (eqIntS_nil _ _ _ _ _).mono ?_); rintro _ _ ⟨rfl, rfl⟩)
        ((go_wp2_with fail); (with_reducible refine (heldIntS_nil _ _ _).mono ?_); rintro _ _ ⟨rfl, rfl⟩)
        go_wp2_with fail
        go_ret
        exact ⟨rfl, hB⟩
      · replace HS := Lib.hid (fun (A : Option Addr) (c : Nat) (B : Option Addr) (d : Nat) (w : World) hF hG => (HS A c B d w hF hG).mono (fun e w' h => IntRes.res1 h hl))
        replace HI := Lib.hid (fun (A : Option Addr) (c : Nat) (B : Option Addr) (d : Nat) (w : World) hF hG => (HI A c B d w hF hG).mono (fun e w' h => IntRes.res1 h hl))
        revert HS HI hN
        generalize (resV L n v).length = N
        generalize (fun j => (resV L n v).getD j 0) = z
        intro hN HS HI
        clear hl
        go_enter Try.func5, Try.ntmps5
        (go_wp2_with fail); (with_reducible refine (hsz _ M0.out).mono ?_); rintro _ _ ⟨rfl, rfl⟩
        clear hsz
        (go_wp2_with fail); (with_reducible refine (toIntSS_own A c L _ hn1 hr1 (M0.out.below hB)).mono ?_); rintro _ w1 ⟨gp1, rfl, hgp1, p1, hb⟩; replace hB := below_step hB hb; clear hb
        (go_wp2_with fail); (with_reducible refine (toIntS_any B n d v _ hn (F1.out.below hB)).mono ?_); rintro _ w1 ⟨go2, rfl, hgo2, o2, hb⟩; replace p1 := PO.below p1 hb; replace hB := below_step hB hb; clear hb
        (go_wp2_with fail); (with_reducible refine (HS.out _ _ _ _ _ (p1.pm.fm (Nat.le_refl _)) (o2.fl (Nat.le_refl _))).mono ?_); rintro _ w1 ⟨gow, cw, rfl, hgow, ow, hb⟩; replace hB := below_step hB hb; clear hb
        clear p1 o2
        have lw := ow.lt
        have zb := hB.size
        (go_wp2_with fail)
        (with_reducible refine (toIntSS_own A c L _ hn1 hr1 (M0.out.below hB)).mono ?_); rintro _ w1 ⟨gp3, rfl, hgp3, p3, hb⟩; replace ow := Own.below ow hb; replace hB := below_step hB hb; clear hb
        have z3 := hB.size
        have q3 := p3.pq
        have lp := p3.lt
        skip
        (go_wp2_with fail); (with_reducible refine (toIntS_any B n d v _ hn (F1.out.below hB)).mono ?_); rintro _ w1 ⟨go4, rfl, hgo4, o4, hb⟩; replace ow := Own.below ow hb; replace p3 := PO.below p3 hb; replace q3 := PQ.below q3 hb; replace hB := below_step hB hb; clear hb
        have l4 := o4.lt
        (go_wp2_with fail); (with_reducible refine (HI.out _ _ _ _ _ (p3.pm.fm (Nat.le_refl _)) (o4.fl (Nat.le_refl _))).mono ?_); rintro _ w1 ⟨gog, cg, rfl, hgog, og, hb⟩; replace ow := Own.below ow hb; replace p3 := PO.below p3 hb; replace q3 := PQ.below q3 hb; replace o4 := Own.below o4 hb; replace hB := below_step hB hb; clear hb
        (go_wp2_with fail); (with_reducible refine (eqIntS_true _ _ N _ _ z _ hN (og.fl (Nat.le_refl _)) (ow.fl (Nat.le_refl _))).mono ?_); rintro _ w1 ⟨rfl, hb⟩; replace ow := Own.below ow hb; replace p3 := PO.below p3 hb; replace q3 := PQ.below q3 hb; replace o4 := Own.below o4 hb; replace og := Own.below og hb; replace hB := below_step hB hb; clear hb
        (go_wp2_with fail); (with_reducible refine (toIntSS_own A c L _ hn1 hr1 (M0.out.below hB)).mono ?_); rintro _ w1 ⟨gp5, rfl, hgp5, p5, hb⟩; replace ow := Own.below ow hb; replace p3 := PO.below p3 hb; replace q3 := PQ.below q3 hb; replace o4 := Own.below o4 hb; replace og := Own.below og hb; replace hB := below_step hB hb; clear hb
        (go_wp2_with fail); (with_reducible refine (eqIntSS_true _ _ _ _ L _ hn1 hr1 (p3.pm.fm (Nat.le_refl _)) (p5.pm.fm (Nat.le_refl _))).mono ?_); rintro _ w1 ⟨rfl, hb⟩; replace ow := Own.below ow hb; replace p3 := PO.below p3 hb; replace q3 := PQ.below q3 hb; replace o4 := Own.below o4 hb; replace og := Own.below og hb; replace hB := below_step hB hb; clear hb
        clear p5
        (go_wp2_with fail); (with_reducible refine (toIntS_any B n d v _ hn (F1.out.below hB)).mono ?_); rintro _ w1 ⟨go6, rfl, hgo6, o6, hb⟩; replace ow := Own.below ow hb; replace p3 := PO.below p3 hb; replace q3 := PQ.below q3 hb; replace o4 := Own.below o4 hb; replace og := Own.below og hb; replace hB := below_step hB hb; clear hb
        (go_wp2_with fail); (with_reducible refine (eqIntS_true _ _ n _ _ v _ hn (o4.fl (Nat.le_refl _)) (o6.fl (Nat.le_refl _))).mono ?_); rintro _ w1 ⟨rfl, hb⟩; replace ow := Own.below ow hb; replace p3 := PO.below p3 hb; replace q3 := PQ.below q3 hb; replace o4 := Own.below o4 hb; replace og := Own.below og hb; replace hB := below_step hB hb; clear hb
        clear o6
        (go_wp2_with fail); (with_reducible refine (markIntSS_any _ _ _ _ L _ hn1 hr1 q3).mono ?_); rintro _ w1 ⟨s, rfl, hs1, hT⟩; replace ow := ow.twx hT (Or.inl (by omega)); replace o4 := o4.twx hT (Or.inr (by omega)); replace og := og.twx hT (Or.inr (by omega)); replace hB := Twx.below hB hT (by omega); clear hT
        (go_wp2_with fail); (with_reducible refine (markIntS_from _ n _ s v _ hn hs1 o4).mono ?_); rintro _ w1 ⟨rfl, _, hy⟩; replace ow := ow.only hy (by omega); replace og := og.only hy (by omega); replace hB := only_below hB hy (by omega); clear hy o4
        (go_wp2_with fail); (with_reducible refine (eqIntS_true _ _ N _ _ z _ hN (og.fl (Nat.le_refl _)) (ow.fl (Nat.le_refl _))).mono ?_); rintro _ w1 ⟨rfl, hb⟩; replace ow := Own.below ow hb; replace og := Own.below og hb; replace hB := below_step hB hb; clear hb
        (go_wp2_with fail); (with_reducible refine (markIntS_any _ _ N _ z _ hN og).mono ?_); rintro _ w1 ⟨rfl, og, hy⟩; replace ow := ow.only hy (by omega); replace hB := only_below hB hy (by omega); clear hy
        (go_wp2_with fail); (with_reducible refine (heldIntS_any _ N _ _ hN (og.fl (Nat.le_refl _))).mono ?_); rintro _ w1 ⟨rfl, hb⟩; replace ow := Own.below ow hb; replace og := Own.below og hb; replace hB := below_step hB hb; clear hb
        (go_wp2_with fail); (with_reducible refine (toIntSS_own A c L _ hn1 hr1 (M0.out.below hB)).mono ?_); rintro _ w1 ⟨gp7, rfl, hgp7, p7, hb⟩; replace ow := Own.below ow hb; replace og := Own.below og hb; replace hB := below_step hB hb; clear hb
        (go_wp2_with fail); (with_reducible refine (toIntS_any B n d v _ hn (F1.out.below hB)).mono ?_); rintro _ w1 ⟨go8, rfl, hgo8, o8, hb⟩; replace ow := Own.below ow hb; replace og := Own.below og hb; replace p7 := PO.below p7 hb; replace hB := below_step hB hb; clear hb
        (go_wp2_with fail); (with_reducible refine (HI.out _ _ _ _ _ (p7.pm.fm (Nat.le_refl _)) (o8.fl (Nat.le_refl _))).mono ?_); rintro _ w1 ⟨goh, ch, rfl, hgoh, oh, hb⟩; replace ow := Own.below ow hb; replace og := Own.below og hb; replace hB := below_step hB hb; clear hb
        clear p7 o8
        (go_wp2_with fail); (with_reducible refine (eqIntS_true _ _ N _ _ z _ hN (oh.fl (Nat.le_refl _)) (ow.fl (Nat.le_refl _))).mono ?_); rintro _ w1 ⟨rfl, hb⟩; replace og := Own.below og hb; replace hB := below_step hB hb; clear hb
        (go_wp2_with fail); (with_reducible refine (heldIntS_any _ N _ _ hN (og.fl (Nat.le_refl _))).mono ?_); rintro _ w1 ⟨rfl, hb⟩; replace hB := below_step hB hb; clear hb
        go_wp2_with fail
        go_ret
        exact ⟨rfl, hB⟩
  · go_enter Try.func5, Try.ntmps5
    go_wp2_with fail
    go_ret
    exact ⟨rfl, hB⟩
end Go.Proofs.Ytmnmnkenboejpaa
