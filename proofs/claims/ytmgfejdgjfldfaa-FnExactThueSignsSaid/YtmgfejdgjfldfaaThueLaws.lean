/- The walk of the law on ThueSigns: it returns true and leaves old memory alone. No conditions. -/
import Derived.Test.YtmgfejdgjfldfaaThue
namespace Go.Proofs.Ytmgfejdgjfldfaa
open Go.RowKit
set_option linter.unusedSimpArgs false
set_option linter.unusedVariables false
set_option maxHeartbeats 1000000
theorem walkThue (k : Int) (w : World) : Calls Try.prog 3 #[.int .i64 k] w fun e w' => e = .returned (.bool true) ∧ Below w.heap.size w w' := by
  have hB := Below.refl w.heap.size w
  have hN : (thV k).length ≤ 1048576 := thV_len k
  rcases Nat.eq_zero_or_pos (thV k).length with hl | hl
  · have HS := Lib.hid (fun (w : World) => (spec_Thue k w).mono (fun e w' h => IntRes.res0 h hl))
    have HI := Lib.hid (fun (w : World) => (impl_Thue k w).mono (fun e w' h => IntRes.res0 h hl))
    clear hl hN
    go_enter Try.func3, Try.ntmps3
    (go_wp2_with fail); (with_reducible refine (HS.out _).mono ?_); rintro _ w1 ⟨A0, c0, rfl, hb⟩; replace hB := below_step hB hb; clear hb
    (go_wp2_with fail); (with_reducible refine (HI.out _).mono ?_); rintro _ w1 ⟨A0, c0, rfl, hb⟩; replace hB := below_step hB hb; clear hb
    ((go_wp2_with fail); (with_reducible refine (eqIntS_nil _ _ _ _ _).mono ?_); rintro _ _ ⟨rfl, rfl⟩)
    ((go_wp2_with fail); (with_reducible refine (markIntS_nil _ _ _).mono ?_); rintro _ _ ⟨rfl, rfl⟩)
    ((go_wp2_with fail); (with_reducible refine (heldIntS_nil _ _ _).mono ?_); rintro _ _ ⟨rfl, rfl⟩)
    (go_wp2_with fail); (with_reducible refine (HI.out _).mono ?_); rintro _ w1 ⟨A0, c0, rfl, hb⟩; replace hB := below_step hB hb; clear hb
    ((go_wp2_with fail); (with_reducible refine (eqIntS_nil _ _ _ _ _).mono ?_); rintro _ _ ⟨rfl, rfl⟩)
    ((go_wp2_with fail); (with_reducible refine (heldIntS_nil _ _ _).mono ?_); rintro _ _ ⟨rfl, rfl⟩)
    go_wp2_with fail
    go_ret
    exact ⟨rfl, hB⟩
  · have HS := Lib.hid (fun (w : World) => (spec_Thue k w).mono (fun e w' h => IntRes.res1 h hl))
    have HI := Lib.hid (fun (w : World) => (impl_Thue k w).mono (fun e w' h => IntRes.res1 h hl))
    revert HS HI hN
    generalize (thV k).length = N
    generalize (fun j => (thV k).getD j 0) = z
    intro hN HS HI
    clear hl
    go_enter Try.func3, Try.ntmps3
    (go_wp2_with fail); (with_reducible refine (HS.out _).mono ?_); rintro _ w1 ⟨gow, cow, rfl, hgow, ow, hb⟩; have bow := Nat.le_trans hB.size hgow; replace hB := below_step hB hb; clear hb
    have lw := ow.lt
    (go_wp2_with fail); (with_reducible refine (HI.out _).mono ?_); rintro _ w1 ⟨gog, cog, rfl, hgog, og, hb⟩; replace ow := ow.below hb; have bog := Nat.le_trans hB.size hgog; replace hB := below_step hB hb; clear hb
    have n3 : gow ≠ gog := by omega
    (go_wp2_with fail); (with_reducible refine (eqIntS_true _ _ N _ _ z _ hN (og.fl (Nat.le_refl _)) (ow.fl (Nat.le_refl _))).mono ?_); rintro _ w1 ⟨rfl, hb⟩; replace ow := ow.below hb; replace og := og.below hb; replace hB := below_step hB hb; clear hb
    (go_wp2_with fail); (with_reducible refine (markIntS_any _ _ N _ z _ hN og).mono ?_); rintro _ w1 ⟨rfl, og, hy⟩; replace ow := ow.only hy n3; replace hB := only_below hB hy bog; clear hy
    (go_wp2_with fail); (with_reducible refine (heldIntS_any _ N _ _ hN (og.fl (Nat.le_refl _))).mono ?_); rintro _ w1 ⟨rfl, hb⟩; replace ow := ow.below hb; replace og := og.below hb; replace hB := below_step hB hb; clear hb
    (go_wp2_with fail); (with_reducible refine (HI.out _).mono ?_); rintro _ w1 ⟨goh, coh, rfl, hgoh, oh, hb⟩; replace ow := ow.below hb; replace og := og.below hb; have boh := Nat.le_trans hB.size hgoh; replace hB := below_step hB hb; clear hb
    (go_wp2_with fail); (with_reducible refine (eqIntS_true _ _ N _ _ z _ hN (oh.fl (Nat.le_refl _)) (ow.fl (Nat.le_refl _))).mono ?_); rintro _ w1 ⟨rfl, hb⟩; replace og := og.below hb; replace hB := below_step hB hb; clear hb
    (go_wp2_with fail); (with_reducible refine (heldIntS_any _ N _ _ hN (og.fl (Nat.le_refl _))).mono ?_); rintro _ w1 ⟨rfl, hb⟩; replace hB := below_step hB hb; clear hb
    go_wp2_with fail
    go_ret
    exact ⟨rfl, hB⟩

end Go.Proofs.Ytmgfejdgjfldfaa
