/- Slices of fractions of the call's own, one fraction appended to them, and MakeFraction's value in parts. -/
import Derived.Test.YtmnmnkenboejpaaFracS
import Derived.Test.YtmnmnkenboejpaaSlc
import Derived.Maps.AppendAt
namespace Go.Proofs.Ytmnmnkenboejpaa
open Go.RowKit
set_option linter.unusedSimpArgs false
set_option linter.unusedVariables false
theorem infoFr : (Try.prog.info? 45).map (fun i => (i.zero, i.size, i.bytes)) = some (some (.agg #[.int .i64 0, .int .i64 0]), 2, 16) := by kernel_rfl
/-- MakeFraction's value, in parts. -/
def mkO (t b : Int) : Bool := decide (b ≠ 0) && inB t (-1000000000000) 1000000000000 && inB b (-1000000000000) 1000000000000 && redO t b
def mkT (t b : Int) : Int := if mkO t b = true then rT t b else 0
def mkB (t b : Int) : Int := if mkO t b = true then rB t b else 0
theorem mkV_eq (t b : Int) : mkV t b = .tuple #[.agg #[.int .i64 (mkT t b), .int .i64 (mkB t b)], .bool (mkO t b)] := by
  unfold mkT mkB
  by_cases h : b = 0 ∨ ¬ inB t (-1000000000000) 1000000000000 = true ∨ ¬ inB b (-1000000000000) 1000000000000 = true
  · have ho : mkO t b = false := by
      unfold mkO
      rcases h with h | h | h
      · simp [h]
      · simp only [Bool.not_eq_true] at h; simp [h]
      · simp only [Bool.not_eq_true] at h; simp [h]
    rw [mkV_no h, ho]; rfl
  · simp only [not_or, Decidable.not_not] at h
    have hm : mkO t b = redO t b := by
      unfold mkO
      rw [h.2.1, h.2.2]
      simp [h.1]
    rw [mkV_yes h.1 h.2.1 h.2.2, hm]
    by_cases hr : redO t b = true
    · rw [redV_yes hr, hr]; rfl
    · rw [redV_no hr]; simp only [Bool.not_eq_true] at hr; rw [hr]; rfl
/-- A slice of n fractions of the call's own, which holds the numbers l, two a fraction. -/
def OwnF (w : World) (B : Nat) (s : Value) (n : Nat) (l : List Int) : Prop := w.ownsRow B 45 2 s n (l.map (Value.int .i64))
theorem OwnF.nil (w : World) (B : Nat) : OwnF w B (.slice none 0 0) 0 [] := World.ownsRow_nil _ _ _ _
theorem OwnF.empty {w : World} {B : Nat} (hB : B ≤ w.heap.size) : OwnF (w.alloc (.cells #[] 45)) B (.slice (some ⟨w.heap.size, 0, none⟩) 0 0) 0 [] :=
  ⟨by simp, Or.inr ⟨w.heap.size, 0, #[], rfl, hB, heap_alloc_new w _, Nat.le_refl _, by unfold maxLen; omega, by simp, by simp⟩⟩
theorem OwnF.base {w : World} {B g n : Nat} {s : Value} {l : List Int} (h : OwnF w B s n l) (hg : s.ownBlock = some g) : B ≤ g ∧ g < w.heap.size := by
  rcases h.2 with ⟨rfl, _⟩ | ⟨g', cap, cur, rfl, hb, hh, _⟩
  · simp [Value.ownBlock] at hg
  · simp [Value.ownBlock] at hg
    subst hg
    exact ⟨hb, (Array.getElem?_eq_some_iff.1 hh).1⟩
theorem OwnF.below {w w' : World} {B n : Nat} {s : Value} {l : List Int} (h : OwnF w B s n l) (hb : Below w.heap.size w w') : OwnF w' B s n l :=
  World.ownsRow.kept h (row := none) ⟨hb.os, hb.tape, hb.output, hb.size, fun k hk _ => hb.block k hk⟩ (by
    cases s.ownBlock with
    | none => exact Or.inl rfl
    | some q => right; simp)
theorem OwnF.lift {w : World} {B B' n : Nat} {s : Value} {l : List Int} (h : OwnF w B s n l) (hB : B' ≤ B) : OwnF w B' s n l := by
  refine ⟨h.1, ?_⟩
  rcases h.2 with h0 | ⟨g, cap, cur, rfl, hb, hh, r⟩
  · exact Or.inl h0
  · exact Or.inr ⟨g, cap, cur, rfl, Nat.le_trans hB hb, hh, r⟩
theorem OwnF.set {w : World} {B n : Nat} {s : Value} {l : List Int} (h : OwnF w B s n l) {p : Addr} (hp : s.ownBlock ≠ some p.block) (u : Value) : OwnF (w.setCell p u) B s n l := by
  refine ⟨h.1, ?_⟩
  rcases h.2 with h0 | ⟨g, cap, cur, rfl, hB, hh, r⟩
  · exact Or.inl h0
  · refine Or.inr ⟨g, cap, cur, rfl, hB, ?_, r⟩
    rw [Below.heap_setCell _ _ _ _ (fun e => hp (by simp [Value.ownBlock, e]))]
    exact hh
theorem OwnF.out {w : World} {B n : Nat} {s : Value} {l : List Int} (h : OwnF w B s n l) : ∃ A c, s = .slice A n c ∧ Fl w A n 2 (fun j => l.getD j 0) := by
  obtain ⟨hl, h2⟩ := h
  rcases h2 with ⟨rfl, h0⟩ | ⟨g, cap, cur, rfl, hb, hh, hl2, hm, hsz, ht⟩
  · exact ⟨none, 0, by rw [h0], fun hn => by omega⟩
  · refine ⟨some ⟨g, 0, none⟩, cap, rfl, fun _ => ⟨g, 0, rfl, fun j hj => ?_⟩⟩
    have hlen : l.length = n * 2 := by simpa using hl
    have hj' : j < l.length := by omega
    have h1 : (cur.toList.take (n * 2))[j]? = (l.map (Value.int .i64))[j]? := by rw [ht]
    rw [List.getElem?_take] at h1
    simp only [hj, if_true, Array.getElem?_toList, List.getElem?_map, List.getElem?_eq_getElem hj', Option.map_some] at h1
    simp [World.cell?, hh, h1, List.getElem?_eq_getElem hj']
/-- One fraction appended to a slice of the call's own. -/
theorem push_fr {ops : Array Oper} {rest : List Oper} {o : Oper} {a : Act} {Q : Exit → Act → World → Prop} {wr : World} (hgd : o.guard = none) (s x : Operand)
    (ho : o.op = .call { callee := .builtin .append, args := #[s, x], argTypes := #[41, 41] }) (B : Nat) (sv : Value) (n : Nat) (l : List Int) (y0 y1 : Int) (hs : a.eval s = sv)
    (hx : a.eval x = .slice (some ⟨wr.heap.size, 0, none⟩) 1 1) (hown : OwnF wr B sv n l) (hlen : n ≤ 1048576) (hB : B ≤ wr.heap.size)
    (h : ∀ v' w', OwnF w' B v' (n + 1) (l ++ [y0, y1]) → wr.grownBy w' sv.ownBlock → (∀ g, g < wr.heap.size → sv.ownBlock ≠ some g → v'.ownBlock ≠ some g) → wpList Try.prog ops Q rest (a.put o.dst v') w') :
    wpList Try.prog ops Q (o :: rest) a (wr.alloc (.cells #[.int .i64 y0, .int .i64 y1] 45)) := by
  obtain ⟨i0, hi, hz0, hz1, hz2⟩ := info_parts infoFr
  refine wpList_append_own_at _ hgd s x 41 ho B 45 i0 (.agg #[.int .i64 0, .int .i64 0]) 2 16 Try.underlying41 hi hz0 hz1 hz2 rfl (by decide) sv n (l.map (Value.int .i64)) hs (World.ownsRow.alloc hown _) ⟨wr.heap.size, 0, none⟩ 1 1 [.int .i64 y0, .int .i64 y1] hx rfl
    ?_ ?_ ?_ ?_ ?_ ?_
  · intro j u hj
    match j, hj with
    | 0, hj => simp at hj; subst hj; simp [Addr.add]
    | 1, hj => simp at hj; subst hj; simp [Addr.add]
  · intro u hu
    simp at hu
    rcases hu with rfl | rfl <;> rfl
  · unfold maxLen; omega
  · omega
  · simp; omega
  · intro v' w' h1 h2 _ h4
    refine h v' w' ?_ ?_ ?_
    · unfold OwnF; simpa using h1
    · have h3 : wr.grownBy (wr.alloc (.cells #[.int .i64 y0, .int .i64 y1] 45)) none := World.grownBy_alloc wr _ none
      refine ⟨h2.os.trans h3.os, h2.tape.trans h3.tape, h2.output.trans h3.output, Nat.le_trans h3.size h2.size, fun k hk hne => ?_⟩
      rw [h2.block k (Nat.lt_of_lt_of_le hk h3.size) hne, h3.block k hk (by simp)]
    · intro g hg hne
      rcases h4 with h4 | h4
      · rw [h4]; exact hne
      · rw [h4]; simp; omega
/-- The first k fractions of T over D. -/
def frL (T : Nat → Int) (D : Int) : Nat → List Int
  | 0 => []
  | k + 1 => frL T D k ++ [mkT (T k) D, mkB (T k) D]
def frO (T : Nat → Int) (D : Int) (m : Nat) : Bool := allN (fun k => mkO (T k) D) m
theorem frL_len (T : Nat → Int) (D : Int) : ∀ k, (frL T D k).length = k * 2
  | 0 => rfl
  | k + 1 => by simp only [frL, List.length_append, frL_len T D k]; simp; omega
end Go.Proofs.Ytmnmnkenboejpaa
