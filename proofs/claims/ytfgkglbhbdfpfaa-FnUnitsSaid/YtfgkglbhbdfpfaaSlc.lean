/- Plain words for slices whose elements are numbers or structs of numbers: a slice that reads as a vector of numbers, and a row of the call's own that holds one. No conditions. -/
import Derived.Test.YtfgkglbhbdfpfaaCalm
import Derived.Deep.OwnRows
import Derived.Laws.OwnMore
namespace Go.Proofs.Ytfgkglbhbdfpfaa
open Go.RowKit

/-- p holds of all numbers below n. -/
def allN (p : Nat → Bool) : Nat → Bool
  | 0 => true
  | k + 1 => allN p k && p k
theorem allN_no {p : Nat → Bool} {k n : Nat} (hk : k < n) (h : p k = false) : allN p n = false := by
  induction n with
  | zero => omega
  | succ n ih =>
    rcases Nat.lt_or_ge k n with h1 | h1
    · simp [allN, ih h1]
    · obtain rfl : k = n := by omega
      simp [allN, h]
theorem allN_iff {p : Nat → Bool} {n : Nat} : allN p n = true ↔ ∀ k, k < n → p k = true := by
  induction n with
  | zero => simp [allN]
  | succ n ih =>
    simp only [allN, Bool.and_eq_true, ih]
    constructor
    · rintro ⟨h1, h2⟩ k hk
      rcases Nat.lt_or_ge k n with h3 | h3
      · exact h1 k h3
      · obtain rfl : k = n := by omega
        exact h2
    · intro h
      exact ⟨fun k hk => h k (by omega), h n (by omega)⟩
theorem allN_congr {p q : Nat → Bool} {n : Nat} (h : ∀ k, k < n → p k = q k) : allN p n = allN q n := by
  induction n with
  | zero => rfl
  | succ n ih => simp only [allN]; rw [ih fun k hk => h k (by omega), h n (by omega)]
/-- The sum of f below n. -/
def sumN (f : Nat → Int) : Nat → Int
  | 0 => 0
  | k + 1 => sumN f k + f k
theorem sumN_bd {f : Nat → Int} {n : Nat} {a b : Int} (h : ∀ k, k < n → a ≤ f k ∧ f k ≤ b) : a * n ≤ sumN f n ∧ sumN f n ≤ b * n := by
  induction n with
  | zero => simp [sumN]
  | succ n ih =>
    have h1 := ih fun k hk => h k (by omega)
    have h2 := h n (by omega)
    simp only [sumN]
    have e1 : a * ((n + 1 : Nat) : Int) = a * n + a := by push_cast; rw [Int.mul_add, Int.mul_one]
    have e2 : b * ((n + 1 : Nat) : Int) = b * n + b := by push_cast; rw [Int.mul_add, Int.mul_one]
    omega
theorem sumN_congr {f g : Nat → Int} {n : Nat} (h : ∀ k, k < n → f k = g k) : sumN f n = sumN g n := by
  induction n with
  | zero => rfl
  | succ n ih => simp only [sumN]; rw [ih fun k hk => h k (by omega), h n (by omega)]

/-- A slice at address A of n elements, m numbers each, reads as the vector v. -/
def Fl (w : World) (A : Option Addr) (n m : Nat) (v : Nat → Int) : Prop :=
  0 < n → ∃ b off, A = some ⟨b, off, none⟩ ∧ ∀ j, j < n * m → w.cell? ⟨b, off + j, none⟩ = some (.int .i64 (v j))
theorem Fl.below {w w' : World} {A : Option Addr} {n m : Nat} {v : Nat → Int} (h : Fl w A n m v) (hb : Below w.heap.size w w') : Fl w' A n m v := by
  intro hn
  obtain ⟨b, off, e, hc⟩ := h hn
  exact ⟨b, off, e, fun j hj => below_cell hb (hc j hj)⟩
theorem Fl.step {w a b : World} {A : Option Addr} {n m : Nat} {v : Nat → Int} (h : Fl w A n m v) (hb : Below w.heap.size w a) (k : Below a.heap.size a b) : Fl b A n m v := h.below (below_step hb k)
theorem Fl.congr {w : World} {A : Option Addr} {n m : Nat} {v v' : Nat → Int} (h : Fl w A n m v) (e : ∀ j, j < n * m → v j = v' j) : Fl w A n m v' := by
  intro hn
  obtain ⟨b, off, e', hc⟩ := h hn
  exact ⟨b, off, e', fun j hj => by rw [hc j hj, e j hj]⟩
theorem Fl.nil {w : World} {A : Option Addr} {m : Nat} {v : Nat → Int} : Fl w A 0 m v := fun h => absurd h (by omega)

/-- Block g is a row of the call's own whose first N cells are the numbers v. -/
def Own (w : World) (g T N : Nat) (v : Nat → Int) : Prop := ∃ cs : Array Value, w.heap[g]? = some (.cells cs T (0, 0)) ∧ ∀ j, j < N → cs[j]? = some (.int .i64 (v j))
theorem Own.cell {w : World} {g T N : Nat} {v : Nat → Int} (h : Own w g T N v) {j : Nat} (hj : j < N) : w.cell? ⟨g, j, none⟩ = some (.int .i64 (v j)) := by
  obtain ⟨cs, hb, hc⟩ := h
  simp [World.cell?, hb, hc j hj]
theorem Own.frozen {w : World} {g T N : Nat} {v : Nat → Int} (h : Own w g T N v) (j : Nat) : w.frozen? ⟨g, j, none⟩ = false := by
  obtain ⟨cs, hb, _⟩ := h
  simp [World.frozen?, hb]
theorem Own.lt {w : World} {g T N : Nat} {v : Nat → Int} (h : Own w g T N v) : g < w.heap.size := by
  obtain ⟨cs, hb, _⟩ := h
  exact (Array.getElem?_eq_some_iff.1 hb).1
theorem Own.of_block {w w' : World} {g T N : Nat} {v : Nat → Int} (h : Own w g T N v) (e : w'.heap[g]? = w.heap[g]?) : Own w' g T N v := by
  obtain ⟨cs, hb, hc⟩ := h
  exact ⟨cs, e.trans hb, hc⟩
theorem Own.fl {w : World} {g T N n m : Nat} {v : Nat → Int} (h : Own w g T N v) (hN : n * m ≤ N) : Fl w (some ⟨g, 0, none⟩) n m v :=
  fun _ => ⟨g, 0, rfl, fun j hj => by rw [Nat.zero_add]; exact h.cell (by omega)⟩
theorem Own.below {w w' : World} {g T N : Nat} {v : Nat → Int} (h : Own w g T N v) (hb : Below w.heap.size w w') : Own w' g T N v := h.of_block (hb.block g h.lt)
theorem Own.far {w : World} {g T N : Nat} {v : Nat → Int} (h : Own w g T N v) {p : Addr} (hp : g ≠ p.block) (u : Value) : Own (w.setCell p u) g T N v := h.of_block (Below.heap_setCell w p u g hp)
theorem Own.set {w : World} {g T N : Nat} {v : Nat → Int} (h : Own w g T N v) (i : Nat) (x : Int) : Own (w.setCell ⟨g, i, none⟩ (.int .i64 x)) g T N (fun j => if j = i then x else v j) := by
  obtain ⟨cs, hb, hc⟩ := h
  refine ⟨cs.setIfInBounds i (.int .i64 x), by simp [World.setCell, Array.getElem?_modify, hb], fun j hj => ?_⟩
  rw [Array.getElem?_setIfInBounds]
  have hj' := hc j hj
  have hlt : j < cs.size := (Array.getElem?_eq_some_iff.1 hj').1
  by_cases e : j = i
  · subst e
    simp [hlt]
  · rw [if_neg (fun h => e h.symm)]
    show cs[j]? = some (.int .i64 (if j = i then x else v j))
    rw [if_neg e]
    exact hj'
theorem Own.congr {w : World} {g T N : Nat} {v v' : Nat → Int} (h : Own w g T N v) (e : ∀ j, j < N → v j = v' j) : Own w g T N v' := by
  obtain ⟨cs, hb, hc⟩ := h
  exact ⟨cs, hb, fun j hj => by rw [hc j hj, e j hj]⟩
theorem Own.less {w : World} {g T N N' : Nat} {v : Nat → Int} (h : Own w g T N v) (hN : N' ≤ N) : Own w g T N' v := by
  obtain ⟨cs, hb, hc⟩ := h
  exact ⟨cs, hb, fun j hj => hc j (by omega)⟩

/-- A call made a slice of n elements, m numbers each, which holds v, in a block of its own. -/
def Made (w : World) (T n m : Nat) (v : Nat → Int) (e : Ending) (w' : World) : Prop :=
  ∃ g, e = .returned (.slice (some ⟨g, 0, none⟩) n n) ∧ w.heap.size ≤ g ∧ Own w' g T (n * m) v ∧ Below w.heap.size w w'

theorem run_make_rowN {P : Program} (t e : TypeId) (z : Value) (size bytes : Nat) (ht : P.underlying t = some (.slice e)) (hinfo : (P.info? e).map (fun i => (i.zero, i.size, i.bytes)) = some (some z, size, bytes))
    (kl kc : IntKind) (n : Nat) (hbytes : bytes * n ≤ 281474976710656) (h63 : n ≤ 9223372036854775807) (w : World) :
    (Instr.makeSlice t (.int kl (n : Int)) (.int kc (n : Int))).run P w = .ok (.slice (some ⟨w.heap.size, 0, none⟩) n n) (w.alloc (.cells (madeCells z.cells (n * size)) e)) := by
  obtain ⟨i, hi, hzz⟩ := Option.map_eq_some_iff.1 hinfo
  simp only [Prod.mk.injEq] at hzz
  obtain ⟨hz, hs, hb⟩ := hzz
  have hb' : (i.bytes : Int) * (n : Int) ≤ 281474976710656 := by
    rw [hb]
    have h : ((bytes * n : Nat) : Int) ≤ 281474976710656 := by omega
    rwa [Int.natCast_mul] at h
  have hr := run_make (P := P) w t e i z ht hi hz kl kc n n (by omega) (Int.le_refl _) hb' (by omega)
  simp only [Int.toNat_natCast, hs] at hr
  exact hr
theorem own_madeN {w : World} {T N : Nat} {z : Array Value} (hs : 0 < z.size) (hz : ∀ i, i < z.size → z[i]! = .int .i64 0) : Own (w.alloc (.cells (madeCells z N) T)) w.heap.size T N (fun _ => 0) := by
  refine ⟨madeCells z N, heap_alloc_new w _, fun j hj => ?_⟩
  have := hz (j % z.size) (Nat.mod_lt _ hs)
  simp only [madeCells, Array.getElem?_map, Array.getElem?_range, hj, if_true, Option.map_some]
  rw [this]
def szB (n : Nat) : Int := if n ≤ 1048576 then 1048576 - (n : Int) else -1
theorem szB_yes {n : Nat} (h : n ≤ 1048576) : szB n = 1048576 - (n : Int) := if_pos h
theorem szB_no {n : Nat} (h : ¬ n ≤ 1048576) : szB n = -1 := if_neg h
/-- The vector v up to N, and 0 behind it. -/
def upto (v : Nat → Int) (N : Nat) : Nat → Int := fun j => if j < N then v j else 0
/-- Only block g has turned. -/
theorem only_refl (w : World) (g : Nat) : w.grownBy w (some g) := ⟨rfl, rfl, rfl, Nat.le_refl _, fun _ _ _ => rfl⟩
theorem only_set {a w : World} {g : Nat} (h : a.grownBy w (some g)) (i : Nat) (u : Value) : a.grownBy (w.setCell ⟨g, i, none⟩ u) (some g) :=
  ⟨h.os, h.tape, h.output, by simpa [World.setCell] using h.size, fun k hk hne => (Below.heap_setCell w ⟨g, i, none⟩ u k (fun e => hne (by rw [e]))).trans (h.block k hk hne)⟩
theorem Own.only {w w' : World} {g g' T N : Nat} {v : Nat → Int} (h : Own w g' T N v) (hg : w.grownBy w' (some g)) (hne : g' ≠ g) : Own w' g' T N v := h.of_block (hg.block g' h.lt (by simp; omega))
theorem only_below {w wr w' : World} {g : Nat} (hB : Below w.heap.size w wr) (hg : wr.grownBy w' (some g)) (h : w.heap.size ≤ g) : Below w.heap.size w w' :=
  hB.grown hg hB.size (fun k hk => by injection hk with hk; omega)
end Go.Proofs.Ytfgkglbhbdfpfaa
