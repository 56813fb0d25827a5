/- How a slice of slices of numbers that came in is opened: it reads as a list of lists. No conditions. -/
import Derived.Test.YtmnmnkenboejpaaOpen
import Derived.Test.YtmnmnkenboejpaaMat
namespace Go.Proofs.Ytmnmnkenboejpaa
open Go.ChangeShapes Go.WideShapes Go.ChangeAt Go.RowKit Go.Deep
set_option linter.unusedSimpArgs false
set_option linter.unusedVariables false
section
variable {H : Type} {enc : TypeId × Value → H} {W : World} {spare : Nat → Bool} {held : Bool}
theorem open_cells {t e fuel : Nat} {cs : List Value} {x : DataW H × List MemPlace} (ht : Try.prog.underlying t = some (.slice e)) (hce : Try.prog.cellsOf e = 1)
    (hel : ∀ fuel cs y, DataW.trod enc Try.prog W 0 spare held fuel e cs = some y → ∀ i, i < 1 → ∃ z, cs[i]? = some (.int .i64 z))
    (hf : DataW.trod enc Try.prog W 0 spare held fuel t cs = some x) : ∃ A n c f, cs = [.slice A n c] ∧ n ≤ maxLen ∧ Fl W A n 1 f := by
  rcases open_slice ht hf with ⟨hcs, _⟩ | ⟨a, len, cap, m', q, D, Pl, hcs, _, hl, hcap, hm', _, hx⟩
  · exact ⟨none, 0, 0, fun _ => 0, hcs, by unfold maxLen; omega, Fl.nil⟩
  · refine ⟨some a, len, cap, fun j => numAt W (a.add j), hcs, by omega, fun hn => ?_⟩
    have hle : len ≤ m' := by rw [hm']; split <;> omega
    have key : ∀ k, k < len → W.cell? (a.add k) = some (.int .i64 (numAt W (a.add k))) := by
      intro k hk
      obtain ⟨cs', h1, h2⟩ := hx k (by omega)
      rw [hce] at h1
      obtain ⟨_, _, h3⟩ := World.cells?_some h1
      obtain ⟨z, hz⟩ := hel _ _ _ h2 0 (by omega)
      have h4 := h3 0 (by omega)
      rw [add_add', hz, Nat.mul_one, Nat.add_zero] at h4
      exact numAt_of h4
    have k0 := key 0 hn
    have hsp : a.spot = none := by
      have := spot_none k0
      simpa [Addr.add] using this
    obtain ⟨b, off, sp⟩ := a
    simp only at hsp
    subst hsp
    refine ⟨b, off, rfl, fun j hj => ?_⟩
    have hq := key j (by omega)
    rw [add_none] at hq
    simp only [add_none]
    exact hq
/-- The numbers of the slice in a cell. -/
def rowAt (w : World) (a : Addr) : List Int := match w.cell? a with | some (.slice (some p) n _) => (List.range n).map (fun j => numAt w (p.add j)) | _ => []
theorem rowAt_of {w : World} {a : Addr} {A : Option Addr} {n c : Nat} {f : Nat → Int} (h : w.cell? a = some (.slice A n c)) (hF : Fl w A n 1 f) : w.cell? a = some (.slice A (rowAt w a).length c) ∧ (rowAt w a).length = n ∧ Fl w A (rowAt w a).length 1 (gl (rowAt w a)) := by
  cases A with
  | none =>
    have hn : n = 0 := by
      rcases Nat.eq_zero_or_pos n with h0 | h0
      · exact h0
      · obtain ⟨b, off, e, _⟩ := hF h0; cases e
    subst hn
    have hr : rowAt w a = [] := by simp only [rowAt, h]
    rw [hr]
    exact ⟨h, rfl, Fl.nil⟩
  | some p =>
    have hr : rowAt w a = (List.range n).map (fun j => numAt w (p.add j)) := by simp only [rowAt, h]
    have hl : (rowAt w a).length = n := by rw [hr]; simp
    refine ⟨by rw [hl]; exact h, hl, ?_⟩
    rw [hl]
    intro hn
    obtain ⟨b, off, e, hc⟩ := hF hn
    refine ⟨b, off, e, fun j hj => ?_⟩
    injection e with e
    subst e
    have h1 := hc j hj
    rw [numAt_of h1, hr]
    congr 2
    simp [gl, show j < n by omega, add_none]
theorem open_rows {t e e' : Nat} (ht : Try.prog.underlying t = some (.slice e)) (hte : Try.prog.underlying e = some (.slice e')) (hce : Try.prog.cellsOf e = 1) (hce' : Try.prog.cellsOf e' = 1)
    (hel : ∀ fuel cs y, DataW.trod enc Try.prog W 0 spare held fuel e' cs = some y → ∀ i, i < 1 → ∃ z, cs[i]? = some (.int .i64 z))
    {r : Reach} {b0 : Nat} {v : Value} {d : DataW H} {p : List MemPlace} (hok : Value.okWide Try.prog W r b0 t v) (h : DataW.Trod enc Try.prog W 0 spare held t v d p) :
    ∃ A c L, v = .slice A (List.length L) c ∧ L.length ≤ maxLen ∧ (∀ r ∈ L, r.length ≤ maxLen) ∧ Fm W A L := by
  obtain ⟨A, n, c, rfl⟩ := okWide_slice ht hok
  obtain ⟨fuel, hf⟩ := h
  rcases open_slice ht hf with ⟨hcs, _⟩ | ⟨a, len, cap, m', q, D, Pl, hcs, _, hl, hcap, hm', _, hx⟩
  · simp [Value.cells] at hcs
    obtain ⟨rfl, rfl, rfl⟩ := hcs
    refine ⟨none, 0, [], rfl, by unfold maxLen; simp, ?_, ?_⟩
    · intro r hr; cases hr
    · intro h; simp at h
  · simp [Value.cells] at hcs
    obtain ⟨rfl, rfl, rfl⟩ := hcs
    have hle : n ≤ m' := by rw [hm']; split <;> omega
    have key : ∀ k, k < n → ∃ Ai ci, W.cell? (a.add k) = some (.slice Ai (rowAt W (a.add k)).length ci) ∧ (rowAt W (a.add k)).length ≤ maxLen ∧ Fl W Ai (rowAt W (a.add k)).length 1 (gl (rowAt W (a.add k))) := by
      intro k hk
      obtain ⟨cs', h1, h2⟩ := hx k (by omega)
      rw [hce] at h1
      obtain ⟨_, _, h3⟩ := World.cells?_some h1
      obtain ⟨Ai, ni, ci, f, hz, hni, hF⟩ := open_cells hte hce' hel h2
      have h4 := h3 0 (by omega)
      rw [add_add', hz, Nat.mul_one, Nat.add_zero] at h4
      obtain ⟨e1, e2, e3⟩ := rowAt_of h4 hF
      exact ⟨Ai, ci, e1, by omega, e3⟩
    refine ⟨some a, c, (List.range n).map fun k => rowAt W (a.add k), by simp, by simp; omega, fun r hr => ?_, fun hn => ?_⟩
    · obtain ⟨k, hk, rfl⟩ := List.mem_map.1 hr
      obtain ⟨_, _, _, h2, _⟩ := key k (List.mem_range.1 hk)
      exact h2
    · simp at hn
      obtain ⟨A0, c0, k0, _⟩ := key 0 hn
      have hsp : a.spot = none := by
        have := spot_none k0
        simpa [Addr.add] using this
      obtain ⟨b, off, sp⟩ := a
      simp only at hsp
      subst hsp
      refine ⟨b, off, rfl, fun i r hr => ?_⟩
      have hi : i < n := by have := (List.getElem?_eq_some_iff.1 hr).1; simpa using this
      simp [hi] at hr
      subst hr
      obtain ⟨Ai, ci, h1, _, h3⟩ := key i hi
      rw [add_none] at h1 h3
      simp only [add_none]
      exact ⟨Ai, ci, h1, h3⟩
end
end Go.Proofs.Ytmnmnkenboejpaa
