/- Words for a row of bools of the call's own, and more about a list of the call's own. No conditions. -/
import Derived.Test.YtjkakoflfhjodaaRes
import Derived.Maps.AppendAt
namespace Go.Proofs.Ytjkakoflfhjodaa
open Go.RowKit
set_option linter.unusedSimpArgs false
set_option linter.unusedVariables false

/-- Block g is a row of the call's own whose first N cells are the bools d. -/
def OwnB (w : World) (g T N : Nat) (d : Nat → Bool) : Prop := ∃ cs : Array Value, w.heap[g]? = some (.cells cs T (0, 0)) ∧ ∀ j, j < N → cs[j]? = some (.bool (d j))
theorem OwnB.cell {w : World} {g T N : Nat} {d : Nat → Bool} (h : OwnB w g T N d) {j : Nat} (hj : j < N) : w.cell? ⟨g, j, none⟩ = some (.bool (d j)) := by
  obtain ⟨cs, hb, hc⟩ := h
  simp [World.cell?, hb, hc j hj]
theorem OwnB.frozen {w : World} {g T N : Nat} {d : Nat → Bool} (h : OwnB w g T N d) (j : Nat) : w.frozen? ⟨g, j, none⟩ = false := by
  obtain ⟨cs, hb, _⟩ := h
  simp [World.frozen?, hb]
theorem OwnB.lt {w : World} {g T N : Nat} {d : Nat → Bool} (h : OwnB w g T N d) : g < w.heap.size := by
  obtain ⟨cs, hb, _⟩ := h
  exact (Array.getElem?_eq_some_iff.1 hb).1
theorem OwnB.of_block {w w' : World} {g T N : Nat} {d : Nat → Bool} (h : OwnB w g T N d) (e : w'.heap[g]? = w.heap[g]?) : OwnB w' g T N d := by
  obtain ⟨cs, hb, hc⟩ := h
  exact ⟨cs, e.trans hb, hc⟩
theorem OwnB.below {w w' : World} {g T N : Nat} {d : Nat → Bool} (h : OwnB w g T N d) (hb : Below w.heap.size w w') : OwnB w' g T N d := h.of_block (hb.block g h.lt)
theorem OwnB.set {w : World} {g T N : Nat} {d : Nat → Bool} (h : OwnB w g T N d) (i : Nat) (x : Bool) : OwnB (w.setCell ⟨g, i, none⟩ (.bool x)) g T N (fun j => if j = i then x else d j) := by
  obtain ⟨cs, hb, hc⟩ := h
  refine ⟨cs.setIfInBounds i (.bool x), by simp [World.setCell, Array.getElem?_modify, hb], fun j hj => ?_⟩
  rw [Array.getElem?_setIfInBounds]
  have hj' := hc j hj
  have hlt : j < cs.size := (Array.getElem?_eq_some_iff.1 hj').1
  by_cases e : j = i
  · subst e
    simp [hlt]
  · rw [if_neg (fun h => e h.symm)]
    show cs[j]? = some (.bool (if j = i then x else d j))
    rw [if_neg e]
    exact hj'
theorem OwnB.congr {w : World} {g T N : Nat} {v v' : Nat → Bool} (h : OwnB w g T N v) (e : ∀ j, j < N → v j = v' j) : OwnB w g T N v' := by
  obtain ⟨cs, hb, hc⟩ := h
  exact ⟨cs, hb, fun j hj => by rw [hc j hj, e j hj]⟩
theorem own_madeB {w : World} {T N : Nat} {z : Array Value} (hs : 0 < z.size) (hz : ∀ i, i < z.size → z[i]! = .bool false) : OwnB (w.alloc (.cells (madeCells z N) T)) w.heap.size T N (fun _ => false) := by
  refine ⟨madeCells z N, heap_alloc_new w _, fun j hj => ?_⟩
  have := hz (j % z.size) (Nat.mod_lt _ hs)
  simp only [madeCells, Array.getElem?_map, Array.getElem?_range, hj, if_true, Option.map_some]
  rw [this]

/-- A slice value's length. -/
def lenOf : Value → Nat
  | .slice _ n _ => n
  | _ => 0
theorem OwnS.lenOf {w : World} {B : Nat} {s : Value} {l : List Int} (h : OwnS w B s l) : lenOf s = l.length := by
  rcases h.2 with ⟨rfl, h0⟩ | ⟨g, cap, cur, rfl, _⟩
  · simp [Proofs.Ytjkakoflfhjodaa.lenOf, h0]
  · rfl
theorem OwnS.weak {w : World} {B B' : Nat} {s : Value} {l : List Int} (h : OwnS w B s l) (hB : B' ≤ B) : OwnS w B' s l := by
  refine ⟨h.1, ?_⟩
  rcases h.2 with h0 | ⟨g, cap, cur, rfl, hb, r⟩
  · exact Or.inl h0
  · exact Or.inr ⟨g, cap, cur, rfl, Nat.le_trans hB hb, r⟩
theorem OwnS.far {w : World} {B : Nat} {s : Value} {l : List Int} (h : OwnS w B s l) {g : Nat} (hg : g < B) (i : Nat) (u : Value) : OwnS (w.setCell ⟨g, i, none⟩ u) B s l :=
  h.set (fun e => by have := (h.base e).1; simp at this; omega) u
theorem below_grow2 {w wr w' : World} {B : Nat} {s : Value} {l : List Int} (hB : Below w.heap.size w wr) (h : OwnS wr B s l) (hb : w.heap.size ≤ B) (hg : wr.grownBy w' s.ownBlock) : Below w.heap.size w w' :=
  hB.grown hg hB.size (fun k hk => Nat.le_trans hb (h.base hk).1)
theorem OwnB.grow {wr w' : World} {B g T N : Nat} {d : Nat → Bool} {s : Value} {l : List Int} (h : OwnB wr g T N d) (hs : OwnS wr B s l) (hgB : g < B) (hg : wr.grownBy w' s.ownBlock) : OwnB w' g T N d :=
  h.of_block (hg.block g h.lt (fun e => by have := (hs.base e.symm).1; omega))
/-- As 'push_one', and the list's block stays apart from a block g of before. -/
theorem push_one2 {ops : Array Oper} {rest : List Oper} {o : Oper} {a : Act} {Q : Exit → Act → World → Prop} {wr : World} (hgd : o.guard = none) (s x : Operand)
    (ho : o.op = .call { callee := .builtin .append, args := #[s, x], argTypes := #[37, 37] }) (B : Nat) (sv : Value) (l : List Int) (y : Int) (hs : a.eval s = sv)
    (hx : a.eval x = .slice (some ⟨wr.heap.size, 0, none⟩) 1 1) (hown : OwnS wr B sv l) (hlen : l.length ≤ 1048576) (hB : B ≤ wr.heap.size)
    (h : ∀ v' w', OwnS w' B v' (l ++ [y]) → wr.grownBy w' sv.ownBlock → (∀ g, g < wr.heap.size → sv.ownBlock ≠ some g → v'.ownBlock ≠ some g) → wpList Try.prog ops Q rest (a.put o.dst v') w') :
    wpList Try.prog ops Q (o :: rest) a (wr.alloc (.cells #[.int .i64 y] 3)) := by
  obtain ⟨i0, hi, hz0, hz1, hz2⟩ := info_parts infoInt
  refine wpList_append_own_at _ hgd s x 37 ho B 3 i0 (.int .i64 0) 1 8 Try.underlying37 hi hz0 hz1 hz2 rfl (by decide) sv l.length (l.map (Value.int .i64)) hs (World.ownsRow.alloc hown _) ⟨wr.heap.size, 0, none⟩ 1 1 [.int .i64 y] hx rfl
    ?_ ?_ ?_ ?_ ?_ ?_
  · intro j u hj
    match j, hj with
    | 0, hj => simp at hj; subst hj; simp [Addr.add]
  · intro u hu; simp at hu; subst hu; rfl
  · unfold maxLen; omega
  · omega
  · simp; omega
  · intro v' w' h1 h2 _ h4
    refine h v' w' ?_ ?_ ?_
    · unfold OwnS; simpa using h1
    · have h3 : wr.grownBy (wr.alloc (.cells #[.int .i64 y] 3)) none := World.grownBy_alloc wr _ none
      refine ⟨h2.os.trans h3.os, h2.tape.trans h3.tape, h2.output.trans h3.output, Nat.le_trans h3.size h2.size, fun k hk hne => ?_⟩
      rw [h2.block k (Nat.lt_of_lt_of_le hk h3.size) hne, h3.block k hk (by simp)]
    · intro g hg hne
      rcases h4 with h4 | h4
      · rw [h4]; exact hne
      · rw [h4]; simp; omega
theorem OwnB.grow2 {wr w' : World} {g T N : Nat} {d : Nat → Bool} {s : Value} (h : OwnB wr g T N d) (hg : wr.grownBy w' s.ownBlock) (hne : s.ownBlock ≠ some g) : OwnB w' g T N d :=
  h.of_block (hg.block g h.lt (fun e => hne e.symm))
end Go.Proofs.Ytjkakoflfhjodaa
