/- The walk of the law on ConvertTo. -/
import Derived.Test.YtfgkglbhbdfpfaaConv
import Derived.Test.YtfgkglbhbdfpfaaMads2
namespace Go.Proofs.Ytfgkglbhbdfpfaa
open Go.RowKit
set_option linter.unusedSimpArgs false
set_option linter.unusedVariables false
set_option maxHeartbeats 4000000
set_option maxRecDepth 100000 in
theorem walkConvertTo (A : Option Addr) (n c : Nat) (v : Nat → Int) (p q a b : Int) (w : World) (hm : n ≤ maxLen) (f0 : Fl w A n 4 v) : Calls Try.prog 6 #[.slice A n c, .agg #[.int .i64 p, .int .i64 q], .int .i64 a, .int .i64 b] w fun e w' => e = .returned (.bool true) ∧ Below w.heap.size w w' := by
  by_cases hn : n ≤ 1048576
  · have hs : ∀ w, _ := fun w => szRatioS_any A n c hm w
    simp only [szB_yes hn] at hs
    obtain ⟨X, Y, O, hv, _⟩ := facV_form n v a b
    have hI := fun A c w f => impl_Convert A n c v p q a b w hn f X Y O hv
    have hS := fun A c w f => spec_Convert A n c v p q a b w hn f X Y O hv
    obtain ⟨X3, Y3, O3, hV⟩ : ∃ (X3 Y3 : Int) (O3 : Bool), (if O = true then timV p q X Y else frZ) = .tuple #[.agg #[.int .i64 X3, .int .i64 Y3], .bool O3] := by
      split
      · exact ⟨_, _, _, timV_eq _ _ _ _⟩
      · exact ⟨0, 0, false, rfl⟩
    rw [hV] at hI hS
    clear hv hV
    have ob : (O3 != O3) = false := by simp
    obtain ⟨W, hW⟩ : ∃ W, W = (w.alloc (.cells #[.int .i64 p, .int .i64 q] 36)) := ⟨_, rfl⟩
    have c0 : W.cell? ⟨w.heap.size, 0, none⟩ = some (.int .i64 p) := by rw [hW]; simp [go_sem]
    have c1 : W.cell? ⟨w.heap.size, 1, none⟩ = some (.int .i64 q) := by rw [hW]; simp [go_sem]
    have hB : Below w.heap.size w W := by rw [hW]; exact ((Below.refl _ _).alloc (by simp <;> omega) _)
    subst hW
    replace f0 := f0.below hB
    go_enter Try.func6, Try.ntmps6
    ((go_wp2_with fail); (with_reducible refine (hs _).mono ?_); rintro _ _ ⟨rfl, rfl⟩)
    go_wp2_with fail
    obtain ⟨W, hW⟩ : ∃ W, W = w.alloc (.cells #[.int .i64 p, .int .i64 q] 36) := ⟨_, rfl⟩
    rw [← hW] at f0 c0 c1 hB
    rw [← hW]
    clear hW
    apply M2.region_madeK ⟨22, .tuple #[.agg #[.int .i64 X3, .int .i64 Y3], .bool O3], fun g => .slice (some ⟨g, 0, none⟩) n n, fun ob => ∃ cs, ob = .cells cs 46 (0, 0) ∧ ∀ j, j < n * 4 → cs[j]? = some (.int .i64 (v j))⟩ [.t, .m, .t, .t, .t, .t, .u, .t, .t, .t, .t, .t, .t]
    case hkd => kernel_rfl
    case hm => kernel_rfl
    case hok => kernel_rfl
    case hsz => rfl
    case hal => kernel_rfl
    case hmx => kernel_rfl
    case hus => kernel_rfl
    case hom => rfl
    case hou => rfl
    case H =>
      intro u hu
      have Ec0 := ext_cell (below_cell hu c0)
      have Ec1 := ext_cell (below_cell hu c1)
      dsimp only [List.zipWith, M2.tameK, tame]
      (repeat (first | go_big_quiet_step ((go_at_call 20; exact calm_of (toFraction_any _ _ _))) | simp only [TF]))
      exact wpQuiet_nil rfl
    case hst => simp only [storesOk, true_and, and_true]; exact ⟨_, rfl, sizeFraction, by simp [Value.oneCell']⟩
    case hmkr =>
      intro a' u K ha hu hK
      have e1 := ha (.tmp 21) (by simp [Op.operands, Call.operands])
      simp [Act.eval] at e1
      refine M2.wp_enter 11 #[.slice A n c] (by simp [execOp, resolve, invoke, e1, go_sem]) ?_
      refine (toRatioS_any A n c v u hn (f0.below hu)).mono ?_
      rintro _ w' ⟨g, rfl, hg, ⟨cs, hcell, hcs⟩, hb⟩
      exact ⟨_, rfl, hK g _ w' hg hcell ⟨cs, rfl, hcs⟩ hb⟩
    case huse =>
      intro a' u K g ob' ha hb hu hg hob hC hK
      obtain ⟨cs, rfl, hcs⟩ := hC
      have e1 := ha (.tmp 24) (by simp [Op.operands, Call.operands]) (by simp)
      have e2 := ha (.tmp 25) (by simp [Op.operands, Call.operands]) (by simp)
      have e3 := ha (.tmp 26) (by simp [Op.operands, Call.operands]) (by simp)
      simp [Act.eval] at e1 e2 e3 hb
      refine M2.wp_enter 19 #[.slice (some ⟨g, 0, none⟩) n n, .agg #[.int .i64 p, .int .i64 q], .int .i64 a, .int .i64 b] (by simp [execOp, resolve, invoke, e1, e2, e3, hb, go_sem]) ?_
      have ow : Own u g 46 (n * 4) v := ⟨cs, hob, hcs⟩
      refine (hS _ n _ (ow.fl (Nat.le_refl _))).mono ?_
      rintro _ w' ⟨rfl, hb'⟩
      exact ⟨_, rfl, hK w' hb'⟩
    intro G gb w1 hb hgb hf hd
    simp only [madeFacts, true_and, and_true] at hf
    obtain ⟨hg10, hh10⟩ := hf
    clear hd
    dsimp only [alSlots, List.filterMap, putAll]
    have c8 : w1.cell? ⟨G 10, 0, none⟩ = some (.int .i64 X3) := made_cell hh10 rfl
    have c9 : w1.cell? ⟨G 10, 1, none⟩ = some (.int .i64 Y3) := made_cell hh10 rfl
    clear hh10
    generalize G 10 = g10 at *
    simp only [Act.put, List.setIfInBounds_toArray, List.set_cons_succ, List.set_cons_zero]
    replace c0 := below_cell hb c0; replace c1 := below_cell hb c1; replace f0 := f0.below hb; replace hB := below_step hB hb; clear hb
    ((go_wp2_with fail); (with_reducible refine (toRatioS_any A n c v _ hn f0).mono ?_); rintro _ w1 ⟨g1, rfl, hg1, o1, hb⟩; replace f0 := Fl.below f0 hb; replace c0 := below_cell hb c0; replace c1 := below_cell hb c1; replace c8 := below_cell hb c8; replace c9 := below_cell hb c9; replace hB := below_step hB hb; clear hb)
    ((go_wp2_with fail); (with_reducible refine (toFraction_any _ _ _).mono ?_); rintro _ w1 ⟨rfl, hb⟩; replace f0 := Fl.below f0 hb; replace c8 := below_cell hb c8; replace c9 := below_cell hb c9; replace o1 := Own.below o1 hb; replace hB := below_step hB hb; clear hb)
    ((go_wp2_with fail); (with_reducible refine (hI _ n _ (o1.fl (Nat.le_refl _))).mono ?_); rintro _ w1 ⟨rfl, hb⟩; replace f0 := Fl.below f0 hb; replace c8 := below_cell hb c8; replace c9 := below_cell hb c9; replace o1 := Own.below o1 hb; replace hB := below_step hB hb; clear hb)
    have l8 := lt_of_cell c8
    simp only at l8
    have hb := below_alloc (Below.refl w1.heap.size w1) (.cells #[.int .i64 X3, .int .i64 Y3] 32)
    (skip; replace f0 := Fl.below f0 hb; replace o1 := Own.below o1 hb; replace hB := below_step hB hb; clear hb)
    ((go_wp2_with fail); (with_reducible refine (eqFraction_true _ _ _).mono ?_); rintro _ w1 ⟨rfl, hb⟩; replace f0 := Fl.below f0 hb; replace o1 := Own.below o1 hb; replace hB := below_step hB hb; clear hb)
    ((go_wp2_with fail); (with_reducible refine (toRatioS_any A n c v _ hn f0).mono ?_); rintro _ w1 ⟨g2, rfl, hg2, o2, hb⟩; replace f0 := Fl.below f0 hb; replace o1 := Own.below o1 hb; replace hB := below_step hB hb; clear hb)
    ((go_wp2_with fail); (with_reducible refine (eqRatioS_true _ _ n n n v _ hn (o1.fl (Nat.le_refl _)) (o2.fl (Nat.le_refl _))).mono ?_); rintro _ w1 ⟨rfl, hb⟩; replace hB := below_step hB hb; clear hb)
    go_wp2_with fail
    go_ret
    exact ⟨rfl, hB⟩
  · have hs : ∀ w, _ := fun w => szRatioS_any A n c hm w
    simp only [szB_no hn] at hs
    obtain ⟨W, hW⟩ : ∃ W, W = (w.alloc (.cells #[.int .i64 p, .int .i64 q] 36)) := ⟨_, rfl⟩
    have c0 : W.cell? ⟨w.heap.size, 0, none⟩ = some (.int .i64 p) := by rw [hW]; simp [go_sem]
    have c1 : W.cell? ⟨w.heap.size, 1, none⟩ = some (.int .i64 q) := by rw [hW]; simp [go_sem]
    have hB : Below w.heap.size w W := by rw [hW]; exact ((Below.refl _ _).alloc (by simp <;> omega) _)
    subst hW
    go_enter Try.func6, Try.ntmps6
    ((go_wp2_with fail); (with_reducible refine (hs _).mono ?_); rintro _ _ ⟨rfl, rfl⟩)
    go_wp2_with fail
    go_ret
    exact ⟨rfl, hB⟩
end Go.Proofs.Ytfgkglbhbdfpfaa
