/- 'FnExactFitsExactly': for every input that can be read the law's function returns true and each argument reads behind the call as it read before. No conditions. -/
import Derived.Test.YtmnmnkenboejpaaFits
import Derived.Test.YtmnmnkenboejpaaFrame
import Derived.Test.YtmnmnkenboejpaaOpenSS
namespace Go.Proofs.Ytmnmnkenboejpaa.fnExactFitsExactly
open Go.ChangeShapes Go.WideShapes Go.ChangeAt Go.RowKit Go.Joins
set_option linter.unusedVariables false
set_option linter.unusedSimpArgs false

set_option maxRecDepth 100000 in
theorem lifted (os : Os) (started : os.Started) (H : Type) (enc : TypeId × Value → H) :
    ReturnsInHanded {} Try.checked os 9 .any (Rows.fnExactFitsExactlySpec.pre6 enc Try.prog Try.f9 Rows.fnExactFitsExactlyRow.domain false) (Rows.fnExactFitsExactlySpec.post enc Try.prog Try.f9 false true false false) := by
  refine returnsInHanded_of_change (C := Try.checked) own started (by kernel_rfl) Try.func9
    (ChangeSpec.witness6 (enc := enc) (C := Try.checked) false ⟨#[], #[.slice none 0 0, .slice none 0 0], []⟩ 8 (by kernel_rfl) (by kernel_rfl) (by kernel_rfl) (by kernel_rfl)) ?_
  intro W base args ds gs before hval0 hW hcnd _
  have hval : ∀ (j : Nat) t v, Try.f9.params[j]? = some t → args[j]? = some v → Value.okWide Try.prog W .any base t v := hval0
  have hW' := hW
  obtain ⟨p, q, hA0, hV, rfl, hfz, hnd⟩ := hW
  have hA : DataW.TrodAll enc Try.prog W 0 (fun _ => true) true Try.f9.params.toList args.toList ds p := hA0
  rw [Try.params9] at hA hval
  obtain ⟨v0, vs0, d0, ds0, p0, q0, hargs, rfl, rfl, h0, r0⟩ := trodAll_cons hA
  obtain ⟨v1, vs1, d1, ds1, p1, q1, rfl, rfl, rfl, h1, r1⟩ := trodAll_cons r0
  obtain ⟨rfl, rfl, rfl⟩ := trodAll_nil r1
  obtain rfl : args = #[v0, v1] := by cases args; simp_all
  obtain ⟨rfl, rfl⟩ := trodVars_none hV
  obtain ⟨A0, k0, L0, rfl, hmL0, hrL0, hF0⟩ := open_rows Try.underlying22 Try.underlying23 (show Try.prog.cellsOf 23 = 1 from by kernel_rfl) (show Try.prog.cellsOf 3 = 1 from by kernel_rfl) (hel1 Try.underlying3) (hval 0 22 v0 rfl rfl) h0
  obtain ⟨A1, n1, k1, f1, rfl, hm1, hF1⟩ := open_row Try.underlying23 (show Try.prog.cellsOf 3 = 1 from by kernel_rfl) (by decide) (hel1 Try.underlying3) (hval 1 23 v1 rfl rfl) h1
  clear hA0 hval0
  refine (walkFits A0 k0 L0 A1 n1 k1 f1 W hmL0 hrL0 hF0 hm1 hF1).mono fun e W' ⟨he, hb⟩ => ?_
  subst he
  exact ⟨_, rfl, law_post hW' rfl rfl rfl (trodAll_mk1 (shut_bool Try.underlying4 _)) (by kernel_rfl) hb⟩

theorem over : Rows.fnExactFitsExactlyRow.holds Try.pinned (OpenSpec.ofChange Rows.fnExactFitsExactlySpec) :=
  OpenClaim.holds_of_wide 9 Try.f9 rfl rfl rfl rfl rfl rfl rfl ⟨rfl, rfl, rfl, rfl, rfl⟩ rfl rfl rfl rfl rfl (by kernel_rfl) Try.func9 (by kernel_rfl)
    (of_decide_eq_true (by kernel_rfl)) (by unfold Func.isWrapper; first | (rw [if_pos (by decide +kernel)]; kernel_rfl) | (rw [if_neg (by decide +kernel)]; exact ⟨rfl, rfl⟩))
    (fun os started H enc _ => lifted os started H enc)

theorem proved : Rows.FnExactFitsExactlySaid := over
end Go.Proofs.Ytmnmnkenboejpaa.fnExactFitsExactly

