/- How a slice of numbers, or of structs of numbers, that came in is opened: it reads as a vector of numbers. No conditions. -/
import Derived.Test.YtfgkglbhbdfpfaaFrame
import Derived.Test.YtfgkglbhbdfpfaaSlc
import Derived.Deep.Strs
namespace Go.Proofs.Ytfgkglbhbdfpfaa
open Go.ChangeShapes Go.WideShapes Go.ChangeAt Go.RowKit Go.Deep

section
variable {H : Type} {enc : TypeId × Value → H} {W : World} {spare : Nat → Bool} {held : Bool}
/-- The number in a cell. -/
def numAt (w : World) (a : Addr) : Int := match w.cell? a with | some (.int .i64 z) => z | _ => 0
theorem numAt_of {w : World} {a : Addr} {z : Int} (h : w.cell? a = some (.int .i64 z)) : w.cell? a = some (.int .i64 (numAt w a)) := by simp [numAt, h]
theorem add_none (b off j : Nat) : (⟨b, off, none⟩ : Addr).add j = ⟨b, off + j, none⟩ := by
  unfold Addr.add; split
  · subst_vars; rfl
  · rfl
theorem spot_none {w : World} {a : Addr} {v : Value} (h : w.cell? a = some v) : a.spot = none := by
  unfold World.cell? at h
  split at h
  · split at h
    · cases h
    · rename_i h1; simpa using h1
  · cases h
theorem add_zero (a : Addr) : a.add 0 = a := by unfold Addr.add; simp
theorem add_add' (a : Addr) (i j : Nat) : (a.add i).add j = a.add (i + j) := by
  unfold Addr.add
  by_cases hi : i = 0 <;> by_cases hj : j = 0 <;> simp [hi, hj, Nat.add_assoc]
theorem take1 {α : Type} {l : List α} {o : Nat} {a : α} (h : (l.drop o).take 1 = [a]) : l[o]? = some a := by
  cases hd : l.drop o with
  | nil => rw [hd] at h; cases h
  | cons x xs =>
    rw [hd] at h
    simp at h
    have : (l.drop o)[0]? = some x := by rw [hd]; rfl
    rw [List.getElem?_drop] at this
    rw [← h]
    simpa using this

theorem open_row {t e m : Nat} (ht : Try.prog.underlying t = some (.slice e)) (hce : Try.prog.cellsOf e = m) (hm : 0 < m)
    (hel : ∀ fuel cs y, DataW.trod enc Try.prog W 0 spare held fuel e cs = some y → ∀ i, i < m → ∃ z, cs[i]? = some (.int .i64 z))
    {r : Reach} {b0 : Nat} {v : Value} {d : DataW H} {p : List MemPlace} (hok : Value.okWide Try.prog W r b0 t v) (h : DataW.Trod enc Try.prog W 0 spare held t v d p) :
    ∃ A n c f, v = .slice A n c ∧ n ≤ maxLen ∧ Fl W A n m f := by
  obtain ⟨A, n, c, rfl⟩ := okWide_slice ht hok
  obtain ⟨fuel, hf⟩ := h
  rcases open_slice ht hf with ⟨hcs, _⟩ | ⟨a, len, cap, m', q, D, Pl, hcs, _, hl, hcap, hm', _, hx⟩
  · simp [Value.cells] at hcs
    obtain ⟨rfl, rfl, rfl⟩ := hcs
    exact ⟨none, 0, 0, fun _ => 0, rfl, by unfold maxLen; omega, Fl.nil⟩
  · simp [Value.cells] at hcs
    obtain ⟨rfl, rfl, rfl⟩ := hcs
    refine ⟨some a, n, c, fun j => numAt W (a.add j), rfl, by omega, fun hn => ?_⟩
    have hle : n ≤ m' := by rw [hm']; split <;> omega
    have key : ∀ k i, k < n → i < m → W.cell? (a.add (k * m + i)) = some (.int .i64 (numAt W (a.add (k * m + i)))) := by
      intro k i hk hi
      obtain ⟨cs', h1, h2⟩ := hx k (by omega)
      rw [hce] at h1
      obtain ⟨_, _, h3⟩ := World.cells?_some h1
      obtain ⟨z, hz⟩ := hel _ _ _ h2 i hi
      have h4 := h3 i hi
      rw [add_add', hz] at h4
      exact numAt_of h4
    have k0 := key 0 0 hn hm
    have hsp : a.spot = none := by
      have := spot_none k0
      simpa [Addr.add] using this
    obtain ⟨b, off, sp⟩ := a
    simp only at hsp
    subst hsp
    refine ⟨b, off, rfl, fun j hj => ?_⟩
    have hq := key (j / m) (j % m) ((Nat.div_lt_iff_lt_mul hm).2 hj) (Nat.mod_lt _ hm)
    rw [Nat.div_add_mod' j m] at hq
    rw [add_none] at hq
    simp only [add_none]
    exact hq

theorem hel1 {e : Nat} (he : Try.prog.underlying e = some (.int .i64)) : ∀ fuel cs y, DataW.trod enc Try.prog W 0 spare held fuel e cs = some y → ∀ i, i < 1 → ∃ z, cs[i]? = some (.int .i64 z) := by
  intro fuel cs y h i hi
  obtain ⟨n, rfl, _, _⟩ := DataW.trod_int he h
  match i, hi with
  | 0, _ => exact ⟨n, rfl⟩
theorem hel2 {e : Nat} {f0 f1 : Field} (he : Try.prog.underlying e = some (.struct #[f0, f1])) (o0 : f0.offset = 0) (o1 : f1.offset = 1) (t0 : Try.prog.underlying f0.type = some (.int .i64)) (t1 : Try.prog.underlying f1.type = some (.int .i64))
    (n0 : Try.prog.cellsOf f0.type = 1) (n1 : Try.prog.cellsOf f1.type = 1) :
    ∀ fuel cs y, DataW.trod enc Try.prog W 0 spare held fuel e cs = some y → ∀ i, i < 2 → ∃ z, cs[i]? = some (.int .i64 z) := by
  intro fuel cs y h i hi
  obtain ⟨y0, y1, n, _, _, h0, h1⟩ := trod_struct2 he h
  rw [o0, n0] at h0
  rw [o1, n1] at h1
  obtain ⟨z0, e0, _, _⟩ := DataW.trod_int t0 h0
  obtain ⟨z1, e1, _, _⟩ := DataW.trod_int t1 h1
  match i, hi with
  | 0, _ => exact ⟨z0, take1 e0⟩
  | 1, _ => exact ⟨z1, take1 e1⟩
theorem hel3 {e : Nat} {f0 f1 f2 : Field} (he : Try.prog.underlying e = some (.struct #[f0, f1, f2])) (o0 : f0.offset = 0) (o1 : f1.offset = 1) (o2 : f2.offset = 2) (t0 : Try.prog.underlying f0.type = some (.int .i64)) (t1 : Try.prog.underlying f1.type = some (.int .i64)) (t2 : Try.prog.underlying f2.type = some (.int .i64))
    (n0 : Try.prog.cellsOf f0.type = 1) (n1 : Try.prog.cellsOf f1.type = 1) (n2 : Try.prog.cellsOf f2.type = 1) :
    ∀ fuel cs y, DataW.trod enc Try.prog W 0 spare held fuel e cs = some y → ∀ i, i < 3 → ∃ z, cs[i]? = some (.int .i64 z) := by
  intro fuel cs y h i hi
  obtain ⟨y0, y1, y2, n, _, _, h0, h1, h2⟩ := trod_struct3 he h
  rw [o0, n0] at h0
  rw [o1, n1] at h1
  rw [o2, n2] at h2
  obtain ⟨z0, e0, _, _⟩ := DataW.trod_int t0 h0
  obtain ⟨z1, e1, _, _⟩ := DataW.trod_int t1 h1
  obtain ⟨z2, e2, _, _⟩ := DataW.trod_int t2 h2
  match i, hi with
  | 0, _ => exact ⟨z0, take1 e0⟩
  | 1, _ => exact ⟨z1, take1 e1⟩
  | 2, _ => exact ⟨z2, take1 e2⟩
end
end Go.Proofs.Ytfgkglbhbdfpfaa
