/- 'FnExactDecadeOf': for every input that can be read the law's function returns true and each argument reads behind the call as it read before. No conditions. -/
import Derived.Test.YtoalpihlflifmaaDecLaws
import Derived.Test.YtoalpihlflifmaaFrame
import Derived.Test.YtoalpihlflifmaaOpen
namespace Go.Proofs.Ytoalpihlflifmaa.fnExactDecadeOf
open Go.ChangeShapes Go.WideShapes Go.ChangeAt Go.RowKit Go.Joins
set_option linter.unusedVariables false
set_option linter.unusedSimpArgs false

set_option maxRecDepth 100000 in
theorem lifted (os : Os) (started : os.Started) (H : Type) (enc : TypeId × Value → H) :
    ReturnsInHanded {} Try.checked os 7 .any (Rows.fnExactDecadeOfSpec.pre6 enc Try.prog Try.f7 Rows.fnExactDecadeOfRow.domain false) (Rows.fnExactDecadeOfSpec.post enc Try.prog Try.f7 false true false false) := by
  refine returnsInHanded_of_change (C := Try.checked) own started (by kernel_rfl) Try.func7
    (ChangeSpec.witness6 (enc := enc) (C := Try.checked) false ⟨#[], #[.agg #[.int .i64 0, .int .i64 0], .slice none 0 0], []⟩ 8 (by kernel_rfl) (by kernel_rfl) (by kernel_rfl) (by kernel_rfl)) ?_
  intro W base args ds gs before hval0 hW hcnd _
  have hval : ∀ (j : Nat) t v, Try.f7.params[j]? = some t → args[j]? = some v → Value.okWide Try.prog W .any base t v := hval0
  have hW' := hW
  obtain ⟨p, q, hA0, hV, rfl, hfz, hnd⟩ := hW
  have hA : DataW.TrodAll enc Try.prog W 0 (fun _ => true) true Try.f7.params.toList args.toList ds p := hA0
  rw [Try.params7] at hA hval
  obtain ⟨v0, vs0, d0, ds0, p0, q0, hargs, rfl, rfl, h0, r0⟩ := trodAll_cons hA
  obtain ⟨v1, vs1, d1, ds1, p1, q1, rfl, rfl, rfl, h1, r1⟩ := trodAll_cons r0
  obtain ⟨rfl, rfl, rfl⟩ := trodAll_nil r1
  obtain rfl : args = #[v0, v1] := by cases args; simp_all
  obtain ⟨rfl, rfl⟩ := trodVars_none hV
  obtain ⟨c0_0, c0_1, y0_0, y0_1, m0, rfl, rfl, rfl, hy0_0, hy0_1⟩ := open_agg2 Try.underlying39 (by kernel_rfl) (show Try.prog.cellsOf 39 = 2 from by kernel_rfl) (hval 0 39 v0 rfl rfl) h0
  obtain ⟨x0, ex0, rfl, wx0⟩ := DataW.trod_int Try.underlying3 hy0_0
  obtain ⟨x1, ex1, rfl, wx1⟩ := DataW.trod_int Try.underlying3 hy0_1
  simp at ex0 ex1
  subst ex0 ex1
  obtain ⟨A1, n1, k1, f1, rfl, hm1, hF1⟩ := open_row Try.underlying32 (show Try.prog.cellsOf 39 = 2 from by kernel_rfl) (by decide) (hel2 Try.underlying39 rfl rfl Try.underlying3 Try.underlying3 (by kernel_rfl) (by kernel_rfl)) (hval 1 32 v1 rfl rfl) h1
  clear hA0 hval0
  refine (walkDecadeOf x0 x1 A1 n1 k1 f1 W hm1 hF1).mono fun e W' ⟨he, hb⟩ => ?_
  subst he
  exact ⟨_, rfl, law_post hW' rfl rfl rfl (trodAll_mk1 (shut_bool Try.underlying4 _)) (by kernel_rfl) hb⟩

theorem over : Rows.fnExactDecadeOfRow.holds Try.pinned (OpenSpec.ofChange Rows.fnExactDecadeOfSpec) :=
  OpenClaim.holds_of_wide 7 Try.f7 rfl rfl rfl rfl rfl rfl rfl ⟨rfl, rfl, rfl, rfl, rfl⟩ rfl rfl rfl rfl rfl (by kernel_rfl) Try.func7 (by kernel_rfl)
    (of_decide_eq_true (by kernel_rfl)) (by unfold Func.isWrapper; first | (rw [if_pos (by decide +kernel)]; kernel_rfl) | (rw [if_neg (by decide +kernel)]; exact ⟨rfl, rfl⟩))
    (fun os started H enc _ => lifted os started H enc)

theorem proved : Rows.FnExactDecadeOfSaid := over
end Go.Proofs.Ytoalpihlflifmaa.fnExactDecadeOf

