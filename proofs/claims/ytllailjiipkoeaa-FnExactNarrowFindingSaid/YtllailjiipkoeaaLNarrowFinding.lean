/- 'FnExactNarrowFinding': for every input that can be read the law's function returns true and each argument reads behind the call as it read before. No conditions. -/
import Derived.Test.YtllailjiipkoeaaNarrowLaw
import Derived.Test.YtllailjiipkoeaaFrame
namespace Go.Proofs.Ytllailjiipkoeaa.fnExactNarrowFinding
open Go.ChangeShapes Go.WideShapes Go.ChangeAt Go.RowKit Go.Joins
set_option linter.unusedVariables false
set_option linter.unusedSimpArgs false

set_option maxRecDepth 100000 in
theorem lifted (os : Os) (started : os.Started) (H : Type) (enc : TypeId × Value → H) :
    ReturnsInHanded {} Try.checked os 8 .any (Rows.fnExactNarrowFindingSpec.pre6 enc Try.prog Try.f8 Rows.fnExactNarrowFindingRow.domain false) (Rows.fnExactNarrowFindingSpec.post enc Try.prog Try.f8 false true false false) := by
  refine returnsInHanded_of_change (C := Try.checked) own started (by kernel_rfl) Try.func8
    (ChangeSpec.witness6 (enc := enc) (C := Try.checked) false ⟨#[], #[.agg #[.int .i64 0, .int .i64 0, .int .i64 0], .agg #[.int .i64 0, .int .i64 0, .int .i64 0]], []⟩ 8 (by kernel_rfl) (by kernel_rfl) (by kernel_rfl) (by kernel_rfl)) ?_
  intro W base args ds gs before hval0 hW hcnd _
  have hval : ∀ (j : Nat) t v, Try.f8.params[j]? = some t → args[j]? = some v → Value.okWide Try.prog W .any base t v := hval0
  have hW' := hW
  obtain ⟨p, q, hA0, hV, rfl, hfz, hnd⟩ := hW
  have hA : DataW.TrodAll enc Try.prog W 0 (fun _ => true) true Try.f8.params.toList args.toList ds p := hA0
  rw [Try.params8] at hA hval
  obtain ⟨v0, vs0, d0, ds0, p0, q0, hargs, rfl, rfl, h0, r0⟩ := trodAll_cons hA
  obtain ⟨v1, vs1, d1, ds1, p1, q1, rfl, rfl, rfl, h1, r1⟩ := trodAll_cons r0
  obtain ⟨rfl, rfl, rfl⟩ := trodAll_nil r1
  obtain rfl : args = #[v0, v1] := by cases args; simp_all
  obtain ⟨rfl, rfl⟩ := trodVars_none hV
  obtain ⟨c0_0, c0_1, c0_2, y0_0, y0_1, y0_2, m0, rfl, rfl, rfl, hy0_0, hy0_1, hy0_2⟩ := open_agg3 Try.underlying25 (by kernel_rfl) (show Try.prog.cellsOf 25 = 3 from by kernel_rfl) (hval 0 25 v0 rfl rfl) h0
  obtain ⟨x0, ex0, rfl, wx0⟩ := DataW.trod_int Try.underlying3 hy0_0
  obtain ⟨x1, ex1, rfl, wx1⟩ := DataW.trod_int Try.underlying3 hy0_1
  obtain ⟨x2, ex2, rfl, wx2⟩ := DataW.trod_int Try.underlying3 hy0_2
  simp at ex0 ex1 ex2
  subst ex0 ex1 ex2
  obtain ⟨c1_0, c1_1, c1_2, y1_0, y1_1, y1_2, m1, rfl, rfl, rfl, hy1_0, hy1_1, hy1_2⟩ := open_agg3 Try.underlying25 (by kernel_rfl) (show Try.prog.cellsOf 25 = 3 from by kernel_rfl) (hval 1 25 v1 rfl rfl) h1
  obtain ⟨x3, ex3, rfl, wx3⟩ := DataW.trod_int Try.underlying3 hy1_0
  obtain ⟨x4, ex4, rfl, wx4⟩ := DataW.trod_int Try.underlying3 hy1_1
  obtain ⟨x5, ex5, rfl, wx5⟩ := DataW.trod_int Try.underlying3 hy1_2
  simp at ex3 ex4 ex5
  subst ex3 ex4 ex5
  clear hA0 hval0
  refine (walkNarrow x0 x1 x2 x3 x4 x5 W).mono fun e W' ⟨he, hb⟩ => ?_
  subst he
  exact ⟨_, rfl, law_post hW' rfl rfl rfl (trodAll_mk1 (shut_bool Try.underlying4 _)) (by kernel_rfl) hb⟩

theorem over : Rows.fnExactNarrowFindingRow.holds Try.pinned (OpenSpec.ofChange Rows.fnExactNarrowFindingSpec) :=
  OpenClaim.holds_of_wide 8 Try.f8 rfl rfl rfl rfl rfl rfl rfl ⟨rfl, rfl, rfl, rfl, rfl⟩ rfl rfl rfl rfl rfl (by kernel_rfl) Try.func8 (by kernel_rfl)
    (of_decide_eq_true (by kernel_rfl)) (by unfold Func.isWrapper; first | (rw [if_pos (by decide +kernel)]; kernel_rfl) | (rw [if_neg (by decide +kernel)]; exact ⟨rfl, rfl⟩))
    (fun os started H enc _ => lifted os started H enc)

theorem proved : Rows.FnExactNarrowFindingSaid := over
end Go.Proofs.Ytllailjiipkoeaa.fnExactNarrowFinding

