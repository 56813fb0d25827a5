/- Words for functions that return a slice of numbers: a slice of the call's own that holds a list, one number appended to it, and what a call that returns such a slice leaves. No conditions but a length of at most 2^20. -/
import Derived.Test.YtmnmnkenboejpaaIntS
namespace Go.Proofs.Ytmnmnkenboejpaa
open Go.RowKit
set_option linter.unusedSimpArgs false
set_option linter.unusedVariables false

/-- The slice value s owns, from block B on, the list l. -/
def OwnS (w : World) (B : Nat) (s : Value) (l : List Int) : Prop := w.ownsRow B 3 1 s l.length (l.map (Value.int .i64))
theorem OwnS.nil (w : World) (B : Nat) : OwnS w B (.slice none 0 0) [] := World.ownsRow_nil _ _ _ _
theorem OwnS.base {w : World} {B g : Nat} {s : Value} {l : List Int} (h : OwnS w B s l) (hg : s.ownBlock = some g) : B ≤ g ∧ g < w.heap.size := by
  rcases h.2 with ⟨rfl, _⟩ | ⟨g', cap, cur, rfl, hb, hh, _⟩
  · simp [Value.ownBlock] at hg
  · simp [Value.ownBlock] at hg
    subst hg
    exact ⟨hb, (Array.getElem?_eq_some_iff.1 hh).1⟩
theorem OwnS.empty {w : World} {B : Nat} (hB : B ≤ w.heap.size) : OwnS (w.alloc (.cells #[] 3)) B (.slice (some ⟨w.heap.size, 0, none⟩) 0 0) [] :=
  ⟨by simp, Or.inr ⟨w.heap.size, 0, #[], rfl, hB, heap_alloc_new w _, Nat.le_refl _, by unfold maxLen; omega, by simp, by simp⟩⟩
theorem OwnS.one {w : World} {B : Nat} {x : Int} (hB : B ≤ w.heap.size) : OwnS (w.alloc (.cells #[.int .i64 x] 3)) B (.slice (some ⟨w.heap.size, 0, none⟩) 1 1) [x] :=
  ⟨by simp, Or.inr ⟨w.heap.size, 1, #[.int .i64 x], rfl, hB, heap_alloc_new w _, Nat.le_refl _, by unfold maxLen; omega, by simp, by simp⟩⟩
theorem OwnS.below {w w' : World} {B : Nat} {s : Value} {l : List Int} (h : OwnS w B s l) (hb : Below w.heap.size w w') : OwnS w' B s l := by
  refine ⟨h.1, ?_⟩
  rcases h.2 with h0 | ⟨g, cap, cur, rfl, hB, hh, r⟩
  · exact Or.inl h0
  · exact Or.inr ⟨g, cap, cur, rfl, hB, (hb.block g (Array.getElem?_eq_some_iff.1 hh).1).trans hh, r⟩
theorem OwnS.set {w : World} {B : Nat} {s : Value} {l : List Int} (h : OwnS w B s l) {p : Addr} (hp : s.ownBlock ≠ some p.block) (u : Value) : OwnS (w.setCell p u) B s l := by
  refine ⟨h.1, ?_⟩
  rcases h.2 with h0 | ⟨g, cap, cur, rfl, hB, hh, r⟩
  · exact Or.inl h0
  · refine Or.inr ⟨g, cap, cur, rfl, hB, ?_, r⟩
    rw [Below.heap_setCell _ _ _ _ (fun e => hp (by simp [Value.ownBlock, e]))]
    exact hh

theorem below_grow {w wr w' : World} {s : Value} {l : List Int} (hB : Below w.heap.size w wr) (h : OwnS wr w.heap.size s l) (hg : wr.grownBy w' s.ownBlock) : Below w.heap.size w w' :=
  hB.grown hg hB.size (fun k hk => (h.base hk).1)

/-- One number appended to a slice of the call's own: the number stands in a new block of one cell. -/
theorem push_one {ops : Array Oper} {rest : List Oper} {o : Oper} {a : Act} {Q : Exit → Act → World → Prop} {wr : World} (hgd : o.guard = none) (s x : Operand)
    (ho : o.op = .call { callee := .builtin .append, args := #[s, x], argTypes := #[23, 23] }) (B : Nat) (sv : Value) (l : List Int) (y : Int) (hs : a.eval s = sv)
    (hx : a.eval x = .slice (some ⟨wr.heap.size, 0, none⟩) 1 1) (hown : OwnS wr B sv l) (hlen : l.length ≤ 1048576) (hB : B ≤ wr.heap.size)
    (h : ∀ v' w', OwnS w' B v' (l ++ [y]) → wr.grownBy w' sv.ownBlock → wpList Try.prog ops Q rest (a.put o.dst v') w') :
    wpList Try.prog ops Q (o :: rest) a (wr.alloc (.cells #[.int .i64 y] 3)) := by
  obtain ⟨i0, hi, hz0, hz1, hz2⟩ := info_parts infoInt
  refine wpList_append_own _ hgd s x 23 ho B 3 i0 (.int .i64 0) 1 8 Try.underlying23 hi hz0 hz1 hz2 rfl (by decide) sv l.length (l.map (Value.int .i64)) hs (World.ownsRow.alloc hown _) ⟨wr.heap.size, 0, none⟩ 1 1 [.int .i64 y] hx rfl
    ?_ ?_ ?_ ?_ ?_ ?_
  · intro j u hj
    match j, hj with
    | 0, hj => simp at hj; subst hj; simp [Addr.add]
  · intro u hu; simp at hu; subst hu; rfl
  · unfold maxLen; omega
  · omega
  · simp; omega
  · intro v' w' h1 h2 _
    refine h v' w' ?_ ?_
    · unfold OwnS; simpa using h1
    · have h3 : wr.grownBy (wr.alloc (.cells #[.int .i64 y] 3)) none := World.grownBy_alloc wr _ none
      refine ⟨h2.os.trans h3.os, h2.tape.trans h3.tape, h2.output.trans h3.output, Nat.le_trans h3.size h2.size, fun k hk hne => ?_⟩
      rw [h2.block k (Nat.lt_of_lt_of_le hk h3.size) hne, h3.block k hk (by simp)]

/-- A call returned a slice of its own that holds the list l. -/
def IntRes (w : World) (l : List Int) (e : Ending) (w' : World) : Prop :=
  ∃ A c, e = .returned (.slice A l.length c) ∧ (0 < l.length → ∃ g, A = some ⟨g, 0, none⟩ ∧ w.heap.size ≤ g ∧ Own w' g 3 (l.length * 1) (fun j => l.getD j 0)) ∧ Below w.heap.size w w'
theorem OwnS.res {w w' : World} {s : Value} {l : List Int} (h : OwnS w' w.heap.size s l) (hB : Below w.heap.size w w') : IntRes w l (.returned s) w' := by
  rcases h.2 with ⟨rfl, h0⟩ | ⟨g, cap, cur, rfl, hb, hh, hl, hm, hsz, ht⟩
  · refine ⟨none, 0, by rw [h0], fun hl => absurd hl (by omega), hB⟩
  · refine ⟨some ⟨g, 0, none⟩, cap, rfl, fun _ => ⟨g, rfl, hb, cur, hh, fun j hj => ?_⟩, hB⟩
    have hj' : j < l.length := by omega
    have h1 : (cur.toList.take (l.length * 1))[j]? = (l.map (Value.int .i64))[j]? := by rw [ht]
    rw [List.getElem?_take] at h1
    simp only [Nat.mul_one, hj', if_true, Array.getElem?_toList, List.getElem?_map, List.getElem?_eq_getElem hj', Option.map_some] at h1
    rw [h1]
    simp [List.getElem?_eq_getElem hj']
theorem IntRes.fl {w : World} {A : Option Addr} {l : List Int} (h : 0 < l.length → ∃ g, A = some ⟨g, 0, none⟩ ∧ Own w g 3 (l.length * 1) (fun j => l.getD j 0)) : Fl w A l.length 1 (fun j => l.getD j 0) := by
  intro hn
  obtain ⟨g, rfl, h1⟩ := h hn
  exact h1.fl (Nat.le_refl _) hn

/-- The two forms of what such a call leaves. -/
def Res0 (w : World) (e : Ending) (w' : World) : Prop := ∃ A c, e = .returned (.slice A 0 c) ∧ Below w.heap.size w w'
def Res1 (w : World) (N : Nat) (z : Nat → Int) (e : Ending) (w' : World) : Prop := ∃ g c, e = .returned (.slice (some ⟨g, 0, none⟩) N c) ∧ w.heap.size ≤ g ∧ Own w' g 3 (N * 1) z ∧ Below w.heap.size w w'
theorem IntRes.res0 {w w' : World} {l : List Int} {e : Ending} (h : IntRes w l e w') (hl : l.length = 0) : Res0 w e w' := by
  obtain ⟨A, c, rfl, _, hb⟩ := h
  exact ⟨A, c, by rw [hl], hb⟩
theorem IntRes.res1 {w w' : World} {l : List Int} {e : Ending} (h : IntRes w l e w') (hl : 0 < l.length) : Res1 w l.length (fun j => l.getD j 0) e w' := by
  obtain ⟨A, c, rfl, hA, hb⟩ := h
  obtain ⟨g, rfl, hg, ho⟩ := hA hl
  exact ⟨g, c, rfl, hg, ho, hb⟩
theorem markIntS_nil (A : Option Addr) (c : Nat) (w : World) : Calls Try.prog 22 #[.slice A 0 c, .int .i64 1] w fun e w' => e = .returned (.int .i64 1) ∧ w = w' := by
  go_enter Try.func22, Try.ntmps22
  go_wp2_with fail
  refine wp_loop_rounds 1 ?_
  rw [rounds_succ]
  go_wp2
  go_ret
  exact ⟨rfl, rfl⟩
theorem heldIntS_nil (A : Option Addr) (c : Nat) (w : World) : Calls Try.prog 23 #[.slice A 0 c, .int .i64 1] w fun e w' => e = .returned (.int .i64 1) ∧ w = w' := by
  go_enter Try.func23, Try.ntmps23
  go_wp2_with fail
  refine wp_loop_rounds 1 ?_
  rw [rounds_succ]
  go_wp2
  go_ret
  exact ⟨rfl, rfl⟩
theorem eqIntS_nil (A A' : Option Addr) (c c' : Nat) (w : World) : Calls Try.prog 16 #[.slice A 0 c, .slice A' 0 c'] w fun e w' => e = .returned (.bool true) ∧ w = w' := by
  go_enter Try.func16, Try.ntmps16
  go_wp2_with fail
  refine wp_loop_rounds 1 ?_
  rw [rounds_succ]
  go_wp2
  go_ret
  exact ⟨rfl, rfl⟩
end Go.Proofs.Ytmnmnkenboejpaa
