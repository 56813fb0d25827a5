/- The walk of the law on FewestPoints: it returns true and leaves old memory alone. No conditions. -/
import Derived.Test.YtjkakoflfhjodaaFew
import Derived.Test.YtjkakoflfhjodaaSpanS
namespace Go.Proofs.Ytjkakoflfhjodaa
open Go.RowKit
set_option linter.unusedSimpArgs false
set_option linter.unusedVariables false
set_option maxHeartbeats 2000000
theorem fewL_len (n : Nat) (v : Nat → Int) : (fewL n v).length ≤ 1048576 := by
  unfold fewL; split
  · have := few_len v n 13 (fun _ => false); omega
  · simp
theorem walkFewestPoints (A : Option Addr) (n c : Nat) (v : Nat → Int) (w : World) (hm : n ≤ maxLen) (f0 : Fl w A n 2 v) : Calls Try.prog 8 #[.slice A n c] w fun e w' => e = .returned (.bool true) ∧ Below w.heap.size w w' := by
  have hB := Below.refl w.heap.size w
  by_cases hn : n ≤ 1048576
  · have hs : ∀ w, _ := fun w => szSpanS_any A n c hm w
    simp only [szB_yes hn] at hs
    have hN : (fewL n v).length ≤ 1048576 := fewL_len n v
    rcases Nat.eq_zero_or_pos (fewL n v).length with hl | hl
    · have HS := Lib.hid (fun (A : Option Addr) (c : Nat) (w : World) (hF : Fl w A n 2 v) => (spec_Few A n c v w hn hF).mono (fun e w' h => IntRes.res0 h hl))
      have HI := Lib.hid (fun (A : Option Addr) (c : Nat) (w : World) (hF : Fl w A n 2 v) => (impl_Few A n c v w hn hF).mono (fun e w' h => IntRes.res0 h hl))
      clear hl hN
      go_enter Try.func8, Try.ntmps8
      ((go_wp2_with fail); (with_reducible refine (hs _).mono ?_); rintro _ _ ⟨rfl, rfl⟩)
      (go_wp2_with fail); (with_reducible refine (toSpanS_any A n c v _ hn (f0.below hB)).mono ?_); rintro _ w1 ⟨go1, rfl, hgo1, o1, hb⟩; have bo1 := Nat.le_trans hB.size hgo1; replace hB := below_step hB hb; clear hb
      (go_wp2_with fail); (with_reducible refine (HS.out _ _ _ (o1.fl (Nat.le_refl _))).mono ?_); rintro _ w1 ⟨A0, c0, rfl, hb⟩; replace hB := below_step hB hb; clear hb
      clear o1
      (go_wp2_with fail); (with_reducible refine (toSpanS_any A n c v _ hn (f0.below hB)).mono ?_); rintro _ w1 ⟨gox, rfl, hgox, ox, hb⟩; have box := Nat.le_trans hB.size hgox; replace hB := below_step hB hb; clear hb
      (go_wp2_with fail); (with_reducible refine (HI.out _ _ _ (ox.fl (Nat.le_refl _))).mono ?_); rintro _ w1 ⟨A0, c0, rfl, hb⟩; replace ox := ox.below hb; replace hB := below_step hB hb; clear hb
      ((go_wp2_with fail); (with_reducible refine (eqIntS_nil _ _ _ _ _).mono ?_); rintro _ _ ⟨rfl, rfl⟩)
      (go_wp2_with fail); (with_reducible refine (toSpanS_any A n c v _ hn (f0.below hB)).mono ?_); rintro _ w1 ⟨go3, rfl, hgo3, o3, hb⟩; replace ox := ox.below hb; have bo3 := Nat.le_trans hB.size hgo3; replace hB := below_step hB hb; clear hb
      (go_wp2_with fail); (with_reducible refine (eqSpanS_true _ _ n n n v _ hn (ox.fl (Nat.le_refl _)) (o3.fl (Nat.le_refl _))).mono ?_); rintro _ w1 ⟨rfl, hb⟩; replace ox := ox.below hb; replace hB := below_step hB hb; clear hb
      clear o3
      (go_wp2_with fail); (with_reducible refine (markSpanS_any _ _ n n v _ hn ox).mono ?_); rintro _ w1 ⟨rfl, ox, hy⟩; replace hB := only_below hB hy box; clear hy
      ((go_wp2_with fail); (with_reducible refine (eqIntS_nil _ _ _ _ _).mono ?_); rintro _ _ ⟨rfl, rfl⟩)
      ((go_wp2_with fail); (with_reducible refine (markIntS_nil _ _ _).mono ?_); rintro _ _ ⟨rfl, rfl⟩)
      ((go_wp2_with fail); (with_reducible refine (heldIntS_nil _ _ _).mono ?_); rintro _ _ ⟨rfl, rfl⟩)
      (go_wp2_with fail); (with_reducible refine (toSpanS_any A n c v _ hn (f0.below hB)).mono ?_); rintro _ w1 ⟨go4, rfl, hgo4, o4, hb⟩; have bo4 := Nat.le_trans hB.size hgo4; replace hB := below_step hB hb; clear hb
      (go_wp2_with fail); (with_reducible refine (HI.out _ _ _ (o4.fl (Nat.le_refl _))).mono ?_); rintro _ w1 ⟨A0, c0, rfl, hb⟩; replace hB := below_step hB hb; clear hb
      ((go_wp2_with fail); (with_reducible refine (eqIntS_nil _ _ _ _ _).mono ?_); rintro _ _ ⟨rfl, rfl⟩)
      ((go_wp2_with fail); (with_reducible refine (heldIntS_nil _ _ _).mono ?_); rintro _ _ ⟨rfl, rfl⟩)
      go_wp2_with fail
      go_ret
      exact ⟨rfl, hB⟩
    · have HS := Lib.hid (fun (A : Option Addr) (c : Nat) (w : World) (hF : Fl w A n 2 v) => (spec_Few A n c v w hn hF).mono (fun e w' h => IntRes.res1 h hl))
      have HI := Lib.hid (fun (A : Option Addr) (c : Nat) (w : World) (hF : Fl w A n 2 v) => (impl_Few A n c v w hn hF).mono (fun e w' h => IntRes.res1 h hl))
      revert HS HI hN
      generalize (fewL n v).length = N
      generalize (fun j => (fewL n v).getD j 0) = z
      intro hN HS HI
      clear hl
      go_enter Try.func8, Try.ntmps8
      ((go_wp2_with fail); (with_reducible refine (hs _).mono ?_); rintro _ _ ⟨rfl, rfl⟩)
      (go_wp2_with fail); (with_reducible refine (toSpanS_any A n c v _ hn (f0.below hB)).mono ?_); rintro _ w1 ⟨go1, rfl, hgo1, o1, hb⟩; have bo1 := Nat.le_trans hB.size hgo1; replace hB := below_step hB hb; clear hb
      (go_wp2_with fail); (with_reducible refine (HS.out _ _ _ (o1.fl (Nat.le_refl _))).mono ?_); rintro _ w1 ⟨gow, cow, rfl, hgow, ow, hb⟩; have bow := Nat.le_trans hB.size hgow; replace hB := below_step hB hb; clear hb
      clear o1
      have lw := ow.lt
      (go_wp2_with fail)
      (with_reducible refine (toSpanS_any A n c v _ hn (f0.below hB)).mono ?_); rintro _ w1 ⟨gox, rfl, hgox, ox, hb⟩; replace ow := ow.below hb; have box := Nat.le_trans hB.size hgox; replace hB := below_step hB hb; clear hb
      have n1 : gow ≠ gox := by omega
      have lx := ox.lt
      (go_wp2_with fail); (with_reducible refine (HI.out _ _ _ (ox.fl (Nat.le_refl _))).mono ?_); rintro _ w1 ⟨gog, cog, rfl, hgog, og, hb⟩; replace ow := ow.below hb; replace ox := ox.below hb; have bog := Nat.le_trans hB.size hgog; replace hB := below_step hB hb; clear hb
      have n2 : gog ≠ gox := by omega
      have n3 : gow ≠ gog := by omega
      (go_wp2_with fail); (with_reducible refine (eqIntS_true _ _ N _ _ z _ hN (og.fl (Nat.le_refl _)) (ow.fl (Nat.le_refl _))).mono ?_); rintro _ w1 ⟨rfl, hb⟩; replace ow := ow.below hb; replace ox := ox.below hb; replace og := og.below hb; replace hB := below_step hB hb; clear hb
      (go_wp2_with fail); (with_reducible refine (toSpanS_any A n c v _ hn (f0.below hB)).mono ?_); rintro _ w1 ⟨go3, rfl, hgo3, o3, hb⟩; replace ow := ow.below hb; replace ox := ox.below hb; replace og := og.below hb; have bo3 := Nat.le_trans hB.size hgo3; replace hB := below_step hB hb; clear hb
      (go_wp2_with fail); (with_reducible refine (eqSpanS_true _ _ n n n v _ hn (ox.fl (Nat.le_refl _)) (o3.fl (Nat.le_refl _))).mono ?_); rintro _ w1 ⟨rfl, hb⟩; replace ow := ow.below hb; replace ox := ox.below hb; replace og := og.below hb; replace hB := below_step hB hb; clear hb
      clear o3
      (go_wp2_with fail); (with_reducible refine (markSpanS_any _ _ n n v _ hn ox).mono ?_); rintro _ w1 ⟨rfl, ox, hy⟩; replace ow := ow.only hy n1; replace og := og.only hy n2; replace hB := only_below hB hy box; clear hy
      (go_wp2_with fail); (with_reducible refine (eqIntS_true _ _ N _ _ z _ hN (og.fl (Nat.le_refl _)) (ow.fl (Nat.le_refl _))).mono ?_); rintro _ w1 ⟨rfl, hb⟩; replace ow := ow.below hb; replace og := og.below hb; replace hB := below_step hB hb; clear hb
      (go_wp2_with fail); (with_reducible refine (markIntS_any _ _ N _ z _ hN og).mono ?_); rintro _ w1 ⟨rfl, og, hy⟩; replace ow := ow.only hy n3; replace hB := only_below hB hy bog; clear hy
      (go_wp2_with fail); (with_reducible refine (heldIntS_any _ N _ _ hN (og.fl (Nat.le_refl _))).mono ?_); rintro _ w1 ⟨rfl, hb⟩; replace ow := ow.below hb; replace og := og.below hb; replace hB := below_step hB hb; clear hb
      (go_wp2_with fail); (with_reducible refine (toSpanS_any A n c v _ hn (f0.below hB)).mono ?_); rintro _ w1 ⟨go4, rfl, hgo4, o4, hb⟩; replace ow := ow.below hb; replace og := og.below hb; have bo4 := Nat.le_trans hB.size hgo4; replace hB := below_step hB hb; clear hb
      (go_wp2_with fail); (with_reducible refine (HI.out _ _ _ (o4.fl (Nat.le_refl _))).mono ?_); rintro _ w1 ⟨goh, coh, rfl, hgoh, oh, hb⟩; replace ow := ow.below hb; replace og := og.below hb; have boh := Nat.le_trans hB.size hgoh; replace hB := below_step hB hb; clear hb
      (go_wp2_with fail); (with_reducible refine (eqIntS_true _ _ N _ _ z _ hN (oh.fl (Nat.le_refl _)) (ow.fl (Nat.le_refl _))).mono ?_); rintro _ w1 ⟨rfl, hb⟩; replace og := og.below hb; replace hB := below_step hB hb; clear hb
      (go_wp2_with fail); (with_reducible refine (heldIntS_any _ N _ _ hN (og.fl (Nat.le_refl _))).mono ?_); rintro _ w1 ⟨rfl, hb⟩; replace og := og.below hb; replace hB := below_step hB hb; clear hb
      go_wp2_with fail
      go_ret
      exact ⟨rfl, hB⟩
  · have hs : ∀ w, _ := fun w => szSpanS_any A n c hm w
    simp only [szB_no hn] at hs
    go_enter Try.func8, Try.ntmps8
    ((go_wp2_with fail); (with_reducible refine (hs _).mono ?_); rintro _ _ ⟨rfl, rfl⟩)
    go_wp2_with fail
    go_ret
    exact ⟨rfl, hB⟩

end Go.Proofs.Ytjkakoflfhjodaa
