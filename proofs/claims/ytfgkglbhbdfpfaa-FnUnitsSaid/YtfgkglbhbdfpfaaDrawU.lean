/- The draw of ratios: at most eight, between units of fixed sizes, and at most one that is wrong. -/
import Derived.Test.YtfgkglbhbdfpfaaDraw
import Derived.Test.YtfgkglbhbdfpfaaFracS
import Derived.Test.YtfgkglbhbdfpfaaUniP
import Derived.Test.YtfgkglbhbdfpfaaRatioS
import Derived.Laws.AppendOwn
import Derived.BigRegion
namespace Go.Proofs.Ytfgkglbhbdfpfaa
open Go.RowKit
set_option linter.unusedSimpArgs false
set_option linter.unusedVariables false
set_option maxHeartbeats 4000000
theorem Cur.push {w w' : World} {D g : Nat} (h : Cur w D g) {row : Option Nat} (hg : w.grownBy w' row) (hr : ∀ q, row = some q → D ≤ q ∧ q ≠ g) : Cur w' D g := by
  cases row with
  | none => exact h.below ⟨hg.os, hg.tape, hg.output, hg.size, fun k hk => hg.block k hk (by simp)⟩
  | some q => exact h.grown hg (hr q rfl).1 (hr q rfl).2
theorem only_push {a w w' : World} {g : Nat} (h : a.grownBy w (some g)) {row : Option Nat} (hg : w.grownBy w' row) (hr : ∀ q, row = some q → a.heap.size ≤ q) : a.grownBy w' (some g) :=
  ⟨hg.os.trans h.os, hg.tape.trans h.tape, hg.output.trans h.output, Nat.le_trans h.size hg.size, fun k hk hne => (hg.block k (Nat.lt_of_lt_of_le hk h.size) (fun e => by have := hr k e.symm; omega)).trans (h.block k hk hne)⟩
/-- A slice of n ratios of the call's own, which holds the numbers l, four a ratio. -/
def OwnQ (w : World) (B : Nat) (s : Value) (n : Nat) (l : List Int) : Prop := w.ownsRow B 46 4 s n (l.map (Value.int .i64))
theorem OwnQ.empty {w : World} {B : Nat} (hB : B ≤ w.heap.size) : OwnQ (w.alloc (.cells #[] 46)) B (.slice (some ⟨w.heap.size, 0, none⟩) 0 0) 0 [] :=
  ⟨by simp, Or.inr ⟨w.heap.size, 0, #[], rfl, hB, heap_alloc_new w _, Nat.le_refl _, by unfold maxLen; omega, by simp, by simp⟩⟩
theorem OwnQ.base {w : World} {B g n : Nat} {s : Value} {l : List Int} (h : OwnQ w B s n l) (hg : s.ownBlock = some g) : B ≤ g ∧ g < w.heap.size := by
  rcases h.2 with ⟨rfl, _⟩ | ⟨g', cap, cur, rfl, hb, hh, _⟩
  · simp [Value.ownBlock] at hg
  · simp [Value.ownBlock] at hg
    subst hg
    exact ⟨hb, (Array.getElem?_eq_some_iff.1 hh).1⟩
theorem OwnQ.below {w w' : World} {B n : Nat} {s : Value} {l : List Int} (h : OwnQ w B s n l) (hb : Below w.heap.size w w') : OwnQ w' B s n l :=
  World.ownsRow.kept h (row := none) ⟨hb.os, hb.tape, hb.output, hb.size, fun k hk _ => hb.block k hk⟩ (by
    cases s.ownBlock with
    | none => exact Or.inl rfl
    | some q => right; simp)
theorem OwnQ.only {w w' : World} {B g n : Nat} {s : Value} {l : List Int} (h : OwnQ w B s n l) (hg : w.grownBy w' (some g)) (hgB : s.ownBlock ≠ some g) : OwnQ w' B s n l :=
  World.ownsRow.kept h hg (by
    cases hs : s.ownBlock with
    | none => exact Or.inl rfl
    | some q => right; intro e; injection e with e; exact hgB (by rw [hs, e]))
theorem OwnQ.out {w : World} {B n : Nat} {s : Value} {l : List Int} (h : OwnQ w B s n l) : ∃ A c, s = .slice A n c ∧ Fl w A n 4 (fun j => l.getD j 0) ∧ n ≤ c := by
  obtain ⟨hl, h2⟩ := h
  rcases h2 with ⟨rfl, h0⟩ | ⟨g, cap, cur, rfl, hb, hh, hl2, hm, hsz, ht⟩
  · exact ⟨none, 0, by rw [h0], fun hn => by omega, by omega⟩
  · refine ⟨some ⟨g, 0, none⟩, cap, rfl, fun _ => ⟨g, 0, rfl, fun j hj => ?_⟩, hl2⟩
    have hlen : l.length = n * 4 := by simpa using hl
    have hj' : j < l.length := by omega
    have h1 : (cur.toList.take (n * 4))[j]? = (l.map (Value.int .i64))[j]? := by rw [ht]
    rw [List.getElem?_take] at h1
    simp only [hj, if_true, Array.getElem?_toList, List.getElem?_map, List.getElem?_eq_getElem hj', Option.map_some] at h1
    simp [World.cell?, hh, h1, List.getElem?_eq_getElem hj']
theorem push_rt {ops : Array Oper} {rest : List Oper} {o : Oper} {a : Act} {Q : Exit → Act → World → Prop} {wr : World} (hgd : o.guard = none) (s x : Operand)
    (ho : o.op = .call { callee := .builtin .append, args := #[s, x], argTypes := #[25, 25] }) (B : Nat) (sv : Value) (n : Nat) (l : List Int) (y0 y1 y2 y3 : Int) (hs : a.eval s = sv)
    (hx : a.eval x = .slice (some ⟨wr.heap.size, 0, none⟩) 1 1) (hown : OwnQ wr B sv n l) (hlen : n ≤ 1048576) (hB : B ≤ wr.heap.size)
    (h : ∀ v' w', OwnQ w' B v' (n + 1) (l ++ [y0, y1, y2, y3]) → wr.grownBy w' sv.ownBlock → wpList Try.prog ops Q rest (a.put o.dst v') w') :
    wpList Try.prog ops Q (o :: rest) a (wr.alloc (.cells #[.int .i64 y0, .int .i64 y1, .int .i64 y2, .int .i64 y3] 46)) := by
  obtain ⟨i0, hi, hz0, hz1, hz2⟩ := info_parts infoRatio
  refine wpList_append_own _ hgd s x 25 ho B 46 i0 _ 4 32 Try.underlying25 hi hz0 hz1 hz2 rfl (by decide) sv n (l.map (Value.int .i64)) hs (World.ownsRow.alloc hown _) ⟨wr.heap.size, 0, none⟩ 1 1 [.int .i64 y0, .int .i64 y1, .int .i64 y2, .int .i64 y3] hx rfl
    ?_ ?_ ?_ ?_ ?_ ?_
  · intro j u hj
    match j, hj with
    | 0, hj => simp at hj; subst hj; simp [Addr.add]
    | 1, hj => simp at hj; subst hj; simp [Addr.add]
    | 2, hj => simp at hj; subst hj; simp [Addr.add]
    | 3, hj => simp at hj; subst hj; simp [Addr.add]
  · intro u hu
    simp at hu
    rcases hu with rfl | rfl | rfl | rfl <;> rfl
  · unfold maxLen; omega
  · omega
  · simp; omega
  · intro v' w' h1 h2 _
    refine h v' w' ?_ ?_
    · unfold OwnQ; simpa using h1
    · have h3 : wr.grownBy (wr.alloc (.cells #[.int .i64 y0, .int .i64 y1, .int .i64 y2, .int .i64 y3] 46)) none := World.grownBy_alloc wr _ none
      refine ⟨h2.os.trans h3.os, h2.tape.trans h3.tape, h2.output.trans h3.output, Nat.le_trans h3.size h2.size, fun k hk hne => ?_⟩
      rw [h2.block k (Nat.lt_of_lt_of_le hk h3.size) hne, h3.block k hk (by simp)]
/-- The units' sizes. -/
def szL : List Int := [1, 2, 3, 4, 6, 12, 5, 10, 16, 7]
def szF (u : Int) : Int := if 0 ≤ u ∧ u ≤ 6 then szL.getD u.toNat 0 else 1
theorem szF_bd (u : Int) : 1 ≤ szF u ∧ szF u ≤ 12 := by
  unfold szF
  split
  · rename_i h
    rcases (show u = 0 ∨ u = 1 ∨ u = 2 ∨ u = 3 ∨ u = 4 ∨ u = 5 ∨ u = 6 by omega) with rfl | rfl | rfl | rfl | rfl | rfl | rfl <;> decide
  · omega
theorem szF_at {k : Nat} (h : k ≤ 6) : szF (k : Int) = szL.getD k 0 := by
  unfold szF
  rw [if_pos (by omega)]
  simp
/-- A drawn ratio. -/
def rOk (w i : Nat) (a b X Y : Int) : Prop := (0 ≤ a ∧ a ≤ 6) ∧ (0 ≤ b ∧ b ≤ 6) ∧ a ≠ b ∧ frB X Y = true ∧ 0 < X ∧ X * szF b = Y * (if i = w then szF a + 1 else szF a)
def okU (w n : Nat) (l : List Int) : Prop := ∀ i, i < n → rOk w i (l.getD (i * 4) 0) (l.getD (i * 4 + 1) 0) (l.getD (i * 4 + 2) 0) (l.getD (i * 4 + 3) 0)
theorem okU_push {w n : Nat} {l : List Int} {a b X Y : Int} (h : okU w n l) (hl : l.length = n * 4) (hr : rOk w n a b X Y) : okU w (n + 1) (l ++ [a, b, X, Y]) := by
  intro k hk
  have e : ∀ i, i < n * 4 → (l ++ [a, b, X, Y]).getD i 0 = l.getD i 0 := fun i hi => by
    simp only [List.getD]
    rw [List.getElem?_append_left (by omega)]
  rcases Nat.lt_or_ge k n with h1 | h1
  · rw [e _ (by omega), e _ (by omega), e _ (by omega), e _ (by omega)]
    exact h k h1
  · obtain rfl : k = n := by omega
    have g : ∀ j, j < 4 → (l ++ [a, b, X, Y]).getD (k * 4 + j) 0 = [a, b, X, Y].getD j 0 := fun j hj => by
      simp only [List.getD]
      rw [List.getElem?_append_right (by omega), hl, show k * 4 + j - k * 4 = j by omega]
    have g0 := g 0 (by omega); have g1 := g 1 (by omega); have g2 := g 2 (by omega); have g3 := g 3 (by omega)
    rw [Nat.add_zero] at g0
    rw [g0, g1, g2, g3]
    exact hr
theorem okU_dr {w n : Nat} {l : List Int} (h : okU w n l) (hn : n ≤ 12) : Dr (fun j => l.getD j 0) n szF w := by
  refine ⟨?_, szF_bd, fun i hi hw => ?_, fun hw => ?_⟩
  · simp only [ratB, Bool.and_eq_true, decide_eq_true_eq]
    refine ⟨hn, allN_iff.2 fun i hi => ?_⟩
    obtain ⟨h1, h2, h3, h4, h5, _⟩ := h i hi
    unfold ratP
    simp only [Bool.and_eq_true, decide_eq_true_eq, Bool.not_eq_true', beq_eq_false_iff_ne]
    exact ⟨⟨⟨⟨inB_iff.2 (by omega), inB_iff.2 (by omega)⟩, h3⟩, h4⟩, h5⟩
  · have := (h i hi).2.2.2.2.2
    rw [if_neg hw] at this
    exact this
  · have := (h w hw).2.2.2.2.2
    rw [if_pos rfl] at this
    exact this
/-- The factor that is made. -/
theorem make_ok {t u : Int} (ht : 1 ≤ t ∧ t ≤ 13) (hu : 1 ≤ u ∧ u ≤ 12) : ∃ a b, mkV t u = .tuple #[.agg #[.int .i64 a, .int .i64 b], .bool true] ∧ frB a b = true ∧ 0 < a ∧ a * u = b * t := by
  obtain ⟨h1, h2⟩ := red_rep (t := t) (u := u) (N := u) (x := t) (by omega) (by omega) (by omega) (by omega) rfl
  refine ⟨rT t u, rB t u, by rw [mkV_yes (by omega) (inB_iff.2 (by omega)) (inB_iff.2 (by omega)), redV_yes h1], h1, ?_, by rw [h2, Int.mul_comm]⟩
  have hf := (frB_iff.1 h1).2.1
  have hp : 0 < t * rB t u := Int.mul_pos (by omega) (by omega)
  rw [← h2] at hp
  exact Int.pos_of_mul_pos_left hp (by omega)
end Go.Proofs.Ytfgkglbhbdfpfaa
