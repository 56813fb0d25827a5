/- 'FnExactConvertTo': for every input that can be read the law's function returns true and each argument reads behind the call as it read before. No conditions. -/
import Derived.Test.YtfgkglbhbdfpfaaConvL
import Derived.Test.YtfgkglbhbdfpfaaFrame
import Derived.Test.YtfgkglbhbdfpfaaOpenR
namespace Go.Proofs.Ytfgkglbhbdfpfaa.fnExactConvertTo
open Go.ChangeShapes Go.WideShapes Go.ChangeAt Go.RowKit Go.Joins
set_option linter.unusedVariables false
set_option linter.unusedSimpArgs false

set_option maxRecDepth 100000 in
theorem lifted (os : Os) (started : os.Started) (H : Type) (enc : TypeId × Value → H) :
    ReturnsInHanded {} Try.checked os 6 .any (Rows.fnExactConvertToSpec.pre6 enc Try.prog Try.f6 Rows.fnExactConvertToRow.domain false) (Rows.fnExactConvertToSpec.post enc Try.prog Try.f6 false true false false) := by
  refine returnsInHanded_of_change (C := Try.checked) own started (by kernel_rfl) Try.func6
    (ChangeSpec.witness6 (enc := enc) (C := Try.checked) false ⟨#[], #[.slice none 0 0, .agg #[.int .i64 0, .int .i64 0], .int .i64 0, .int .i64 0], []⟩ 8 (by kernel_rfl) (by kernel_rfl) (by kernel_rfl) (by kernel_rfl)) ?_
  intro W base args ds gs before hval0 hW hcnd _
  have hval : ∀ (j : Nat) t v, Try.f6.params[j]? = some t → args[j]? = some v → Value.okWide Try.prog W .any base t v := hval0
  have hW' := hW
  obtain ⟨p, q, hA0, hV, rfl, hfz, hnd⟩ := hW
  have hA : DataW.TrodAll enc Try.prog W 0 (fun _ => true) true Try.f6.params.toList args.toList ds p := hA0
  rw [Try.params6] at hA hval
  obtain ⟨v0, vs0, d0, ds0, p0, q0, hargs, rfl, rfl, h0, r0⟩ := trodAll_cons hA
  obtain ⟨v1, vs1, d1, ds1, p1, q1, rfl, rfl, rfl, h1, r1⟩ := trodAll_cons r0
  obtain ⟨v2, vs2, d2, ds2, p2, q2, rfl, rfl, rfl, h2, r2⟩ := trodAll_cons r1
  obtain ⟨v3, vs3, d3, ds3, p3, q3, rfl, rfl, rfl, h3, r3⟩ := trodAll_cons r2
  obtain ⟨rfl, rfl, rfl⟩ := trodAll_nil r3
  obtain rfl : args = #[v0, v1, v2, v3] := by cases args; simp_all
  obtain ⟨rfl, rfl⟩ := trodVars_none hV
  obtain ⟨A0, n0, k0, f0, rfl, hm0, hF0⟩ := open_row Try.underlying22 (show Try.prog.cellsOf 51 = 4 from by kernel_rfl) (by decide) (helR Try.underlying51 rfl rfl rfl Try.underlying3 Try.underlying3 Try.underlying36 rfl rfl Try.underlying3 Try.underlying3 (by kernel_rfl) (by kernel_rfl) (by kernel_rfl) (by kernel_rfl) (by kernel_rfl)) (hval 0 22 v0 rfl rfl) h0
  obtain ⟨c1_0, c1_1, y1_0, y1_1, m1, rfl, rfl, rfl, hy1_0, hy1_1⟩ := open_agg2 Try.underlying36 (by kernel_rfl) (show Try.prog.cellsOf 36 = 2 from by kernel_rfl) (hval 1 36 v1 rfl rfl) h1
  obtain ⟨x0, ex0, rfl, wx0⟩ := DataW.trod_int Try.underlying3 hy1_0
  obtain ⟨x1, ex1, rfl, wx1⟩ := DataW.trod_int Try.underlying3 hy1_1
  simp at ex0 ex1
  subst ex0 ex1
  obtain ⟨x2, rfl, rfl, rfl, wx2⟩ := open_int Try.underlying3 (hval 2 3 v2 rfl rfl) h2
  obtain ⟨x3, rfl, rfl, rfl, wx3⟩ := open_int Try.underlying3 (hval 3 3 v3 rfl rfl) h3
  clear hA0 hval0
  refine (walkConvertTo A0 n0 k0 f0 x0 x1 x2 x3 W hm0 hF0).mono fun e W' ⟨he, hb⟩ => ?_
  subst he
  exact ⟨_, rfl, law_post hW' rfl rfl rfl (trodAll_mk1 (shut_bool Try.underlying4 _)) (by kernel_rfl) hb⟩

theorem over : Rows.fnExactConvertToRow.holds Try.pinned (OpenSpec.ofChange Rows.fnExactConvertToSpec) :=
  OpenClaim.holds_of_wide 6 Try.f6 rfl rfl rfl rfl rfl rfl rfl ⟨rfl, rfl, rfl, rfl, rfl⟩ rfl rfl rfl rfl rfl (by kernel_rfl) Try.func6 (by kernel_rfl)
    (of_decide_eq_true (by kernel_rfl)) (by unfold Func.isWrapper; first | (rw [if_pos (by decide +kernel)]; kernel_rfl) | (rw [if_neg (by decide +kernel)]; exact ⟨rfl, rfl⟩))
    (fun os started H enc _ => lifted os started H enc)

theorem proved : Rows.FnExactConvertToSaid := over
end Go.Proofs.Ytfgkglbhbdfpfaa.fnExactConvertTo

