/- How a slice of bytes that came in is opened. No conditions. -/
import Derived.Test.YtfgkglbhbdfpfaaOpen
import Derived.Test.YtfgkglbhbdfpfaaDraw
set_option linter.unusedSimpArgs false
set_option linter.unusedVariables false
namespace Go.Proofs.Ytfgkglbhbdfpfaa
open Go.ChangeShapes Go.WideShapes Go.ChangeAt Go.RowKit Go.Deep
section
variable {H : Type} {enc : TypeId × Value → H} {W : World} {spare : Nat → Bool} {held : Bool}
/-- The byte in a cell. -/
def byteAt (w : World) (a : Addr) : Int := match w.cell? a with | some (.int .u8 z) => z | _ => 0
theorem byteAt_of {w : World} {a : Addr} {z : Int} (h : w.cell? a = some (.int .u8 z)) : byteAt w a = z := by simp [byteAt, h]
theorem open_bytes {t e : Nat} (ht : Try.prog.underlying t = some (.slice e)) (hce : Try.prog.cellsOf e = 1) (he : Try.prog.underlying e = some (.int .u8))
    {r : Reach} {b0 : Nat} {v : Value} {d : DataW H} {p : List MemPlace} (hok : Value.okWide Try.prog W r b0 t v) (h : DataW.Trod enc Try.prog W 0 spare held t v d p) :
    ∃ A n c f, v = .slice A n c ∧ n ≤ maxLen ∧ Fb W A n f := by
  obtain ⟨A, n, c, rfl⟩ := okWide_slice ht hok
  obtain ⟨fuel, hf⟩ := h
  rcases open_slice ht hf with ⟨hcs, _⟩ | ⟨a, len, cap, m', q, D, Pl, hcs, _, hl, hcap, hm', _, hx⟩
  · simp [Value.cells] at hcs
    obtain ⟨rfl, rfl, rfl⟩ := hcs
    exact ⟨none, 0, 0, fun _ => 0, rfl, by unfold maxLen; omega, fun h => absurd h (by omega)⟩
  · simp [Value.cells] at hcs
    obtain ⟨rfl, rfl, rfl⟩ := hcs
    refine ⟨some a, n, c, fun j => byteAt W (a.add j), rfl, by omega, fun hn => ?_⟩
    have hle : n ≤ m' := by rw [hm']; split <;> omega
    have key : ∀ k, k < n → (0 ≤ byteAt W (a.add k) ∧ byteAt W (a.add k) ≤ 255) ∧ W.cell? (a.add k) = some (.int .u8 (byteAt W (a.add k))) := by
      intro k hk
      obtain ⟨cs', h1, h2⟩ := hx k (by omega)
      rw [hce] at h1
      obtain ⟨_, _, h3⟩ := World.cells?_some h1
      obtain ⟨z, rfl, _, hz⟩ := DataW.trod_int he h2
      have h4 := h3 0 (by omega)
      rw [add_zero, Nat.mul_one] at h4
      have h5 : W.cell? (a.add k) = some (.int .u8 z) := h4
      have h6 := byteAt_of h5
      rw [h6]
      refine ⟨?_, h5⟩
      simp [Lit.wf, IntKind.min, IntKind.max, IntKind.signed, IntKind.bits] at hz
      omega
    have k0 := (key 0 hn).2
    have hsp : a.spot = none := by
      have := spot_none k0
      simpa [Addr.add] using this
    obtain ⟨b, off, sp⟩ := a
    simp only at hsp
    subst hsp
    refine ⟨b, off, rfl, fun j hj => ?_⟩
    have hq := key j hj
    rw [add_none] at hq
    simp only [add_none]
    exact hq
end
end Go.Proofs.Ytfgkglbhbdfpfaa
