/- How a slice of ratios that came in is opened. No conditions. -/
import Derived.Test.YtfgkglbhbdfpfaaOpen
namespace Go.Proofs.Ytfgkglbhbdfpfaa
open Go.ChangeShapes Go.WideShapes Go.ChangeAt Go.RowKit Go.Deep
set_option linter.unusedSimpArgs false
set_option linter.unusedVariables false
section
variable {H : Type} {enc : TypeId × Value → H} {W : World} {spare : Nat → Bool} {held : Bool}
theorem helR {e : Nat} {f0 f1 f2 g0 g1 : Field} (he : Try.prog.underlying e = some (.struct #[f0, f1, f2])) (o0 : f0.offset = 0) (o1 : f1.offset = 1) (o2 : f2.offset = 2) (t0 : Try.prog.underlying f0.type = some (.int .i64)) (t1 : Try.prog.underlying f1.type = some (.int .i64))
    (t2 : Try.prog.underlying f2.type = some (.struct #[g0, g1])) (p0 : g0.offset = 0) (p1 : g1.offset = 1) (s0 : Try.prog.underlying g0.type = some (.int .i64)) (s1 : Try.prog.underlying g1.type = some (.int .i64))
    (n0 : Try.prog.cellsOf f0.type = 1) (n1 : Try.prog.cellsOf f1.type = 1) (n2 : Try.prog.cellsOf f2.type = 2) (m0 : Try.prog.cellsOf g0.type = 1) (m1 : Try.prog.cellsOf g1.type = 1) :
    ∀ fuel cs y, DataW.trod enc Try.prog W 0 spare held fuel e cs = some y → ∀ i, i < 4 → ∃ z, cs[i]? = some (.int .i64 z) := by
  intro fuel cs y h i hi
  obtain ⟨y0, y1, y2, n, _, _, h0, h1, h2⟩ := trod_struct3 he h
  rw [o0, n0] at h0
  rw [o1, n1] at h1
  rw [o2, n2] at h2
  obtain ⟨z0, e0, _, _⟩ := DataW.trod_int t0 h0
  obtain ⟨z1, e1, _, _⟩ := DataW.trod_int t1 h1
  obtain ⟨x0, x1, m, _, _, k0, k1⟩ := trod_struct2 t2 h2
  rw [p0, m0] at k0
  rw [p1, m1] at k1
  obtain ⟨z2, e2, _, _⟩ := DataW.trod_int s0 k0
  obtain ⟨z3, e3, _, _⟩ := DataW.trod_int s1 k1
  have q2 := take1 e2
  have q3 := take1 e3
  rw [List.getElem?_take] at q2 q3
  simp only [List.getElem?_drop] at q2 q3
  match i, hi with
  | 0, _ => exact ⟨z0, take1 e0⟩
  | 1, _ => exact ⟨z1, take1 e1⟩
  | 2, _ => exact ⟨z2, by simpa using q2⟩
  | 3, _ => exact ⟨z3, by simpa using q3⟩
end
end Go.Proofs.Ytfgkglbhbdfpfaa
