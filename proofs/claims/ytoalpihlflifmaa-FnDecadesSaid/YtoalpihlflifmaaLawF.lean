/- The walks of the laws on functions from a fraction and fractions to fractions and a bool: given the two contracts, the law returns true. -/
import Derived.Test.YtoalpihlflifmaaFractionS
import Derived.Test.YtoalpihlflifmaaHeldF
import Derived.Test.YtoalpihlflifmaaDraw
namespace Go.Proofs.Ytoalpihlflifmaa
open Go.RowKit
set_option linter.unusedSimpArgs false
set_option linter.unusedVariables false
set_option maxHeartbeats 4000000
def FR0 (w : World) (o : Bool) (e : Ending) (w' : World) : Prop := ∃ A c, e = .returned (.tuple #[.slice A 0 c, .bool o]) ∧ Below w.heap.size w w'
def FR1 (w : World) (N : Nat) (z : Nat → Int) (o : Bool) (e : Ending) (w' : World) : Prop := ∃ g c, e = .returned (.tuple #[.slice (some ⟨g, 0, none⟩) N c, .bool o]) ∧ w.heap.size ≤ g ∧ Own w' g 25 (N * 2) z ∧ Below w.heap.size w w'
theorem walkFHalveDown0 (a b : Int) (A : Option Addr) (n c : Nat) (v : Nat → Int) (w : World) (hm : n ≤ maxLen) (hn : n ≤ 1048576) (f0 : Fl w A n 2 v) (o : Bool) (HS : ∀ A c w, Fl w A n 2 v → Calls Try.prog 23 #[.agg #[.int .i64 a, .int .i64 b], .slice A n c] w (FR0 w o)) (HI : ∀ A c w, Fl w A n 2 v → Calls Try.prog 24 #[.agg #[.int .i64 a, .int .i64 b], .slice A n c] w (FR0 w o)) : Calls Try.prog 6 #[.agg #[.int .i64 a, .int .i64 b], .slice A n c] w fun e w' => e = .returned (.bool true) ∧ Below w.heap.size w w' := by
  have hs : ∀ w, _ := fun w => szFractionS_any A n c hm w
  simp only [szB_yes hn] at hs
  have ob : (o != o) = false := by simp
  obtain ⟨W, hW⟩ : ∃ W, W = (w.alloc (.cells #[.int .i64 a, .int .i64 b] 39)) := ⟨_, rfl⟩
  have c0 : W.cell? ⟨w.heap.size, 0, none⟩ = some (.int .i64 a) := by rw [hW]; simp [go_sem]
  have c1 : W.cell? ⟨w.heap.size, 1, none⟩ = some (.int .i64 b) := by rw [hW]; simp [go_sem]
  have hB : Below w.heap.size w W := by rw [hW]; exact ((Below.refl _ _).alloc (by simp <;> omega) _)
  subst hW
  go_enter Try.func6, Try.ntmps6
  (go_wp2_with fail); (with_reducible refine (hs _).mono ?_); rintro _ _ ⟨rfl, rfl⟩
  (go_wp2_with fail); (with_reducible refine (toFraction_any _ _ _).mono ?_); rintro _ w1 ⟨rfl, hb⟩; replace c0 := below_cell hb c0; replace c1 := below_cell hb c1; replace hB := below_step hB hb; clear hb
  (go_wp2_with fail); (with_reducible refine (toFractionS_any A n c v _ hn (f0.below hB)).mono ?_); rintro _ w1 ⟨go1, rfl, hgo1, o1, hb⟩; have bo1 := Nat.le_trans hB.size hgo1; have lb1 : w.heap.size < go1 := Nat.lt_of_lt_of_le (lt_of_cell c0) hgo1; replace c0 := below_cell hb c0; replace c1 := below_cell hb c1; replace hB := below_step hB hb; clear hb
  (go_wp2_with fail); (with_reducible refine (HS _ _ _ (o1.fl (Nat.le_refl _))).mono ?_); rintro _ w1 ⟨A0, d0, rfl, hb⟩; replace c0 := below_cell hb c0; replace c1 := below_cell hb c1; replace hB := below_step hB hb; clear hb
  clear o1
  (go_wp2_with fail); (with_reducible refine (toFractionS_any A n c v _ hn (f0.below hB)).mono ?_); rintro _ w1 ⟨gox, rfl, hgox, ox, hb⟩; have box := Nat.le_trans hB.size hgox; have lbx : w.heap.size < gox := Nat.lt_of_lt_of_le (lt_of_cell c0) hgox; replace c0 := below_cell hb c0; replace c1 := below_cell hb c1; replace hB := below_step hB hb; clear hb
  (go_wp2_with fail); (with_reducible refine (toFraction_any _ _ _).mono ?_); rintro _ w1 ⟨rfl, hb⟩; replace c0 := below_cell hb c0; replace c1 := below_cell hb c1; replace ox := ox.below hb; replace hB := below_step hB hb; clear hb
  (go_wp2_with fail); (with_reducible refine (HI _ _ _ (ox.fl (Nat.le_refl _))).mono ?_); rintro _ w1 ⟨A0, d0, rfl, hb⟩; replace c0 := below_cell hb c0; replace c1 := below_cell hb c1; replace ox := ox.below hb; replace hB := below_step hB hb; clear hb
  (go_wp2_with fail); (with_reducible refine (eqFractionS_nil _ _ _ _ _).mono ?_); rintro _ _ ⟨rfl, rfl⟩
  (go_wp2_with fail); (with_reducible refine (toFractionS_any A n c v _ hn (f0.below hB)).mono ?_); rintro _ w1 ⟨go3, rfl, hgo3, o3, hb⟩; have bo3 := Nat.le_trans hB.size hgo3; have lb3 : w.heap.size < go3 := Nat.lt_of_lt_of_le (lt_of_cell c0) hgo3; replace c0 := below_cell hb c0; replace c1 := below_cell hb c1; replace ox := ox.below hb; replace hB := below_step hB hb; clear hb
  (go_wp2_with fail); (with_reducible refine (eqFractionS_true _ _ n n n v _ hn (ox.fl (Nat.le_refl _)) (o3.fl (Nat.le_refl _))).mono ?_); rintro _ w1 ⟨rfl, hb⟩; replace c0 := below_cell hb c0; replace c1 := below_cell hb c1; replace ox := ox.below hb; replace hB := below_step hB hb; clear hb
  clear o3
  (go_wp2_with fail); (with_reducible refine (markFractionS_any _ _ n n v _ hn ox).mono ?_); rintro _ w1 ⟨rfl, ox, hy⟩; replace c0 := only_cell hy c0 (by simp only; omega); replace c1 := only_cell hy c1 (by simp only; omega); replace hB := only_below hB hy (by omega); clear hy
  (go_wp2_with fail); (with_reducible refine (eqFractionS_nil _ _ _ _ _).mono ?_); rintro _ _ ⟨rfl, rfl⟩
  (go_wp2_with fail); (with_reducible refine (markFractionS_nil _ _ _).mono ?_); rintro _ _ ⟨rfl, rfl⟩
  (go_wp2_with fail); (with_reducible refine (heldFractionS_nil _ _ _).mono ?_); rintro _ _ ⟨rfl, rfl⟩
  (go_wp2_with fail); (with_reducible refine (toFraction_any _ _ _).mono ?_); rintro _ w1 ⟨rfl, hb⟩; replace c0 := below_cell hb c0; replace c1 := below_cell hb c1; replace hB := below_step hB hb; clear hb
  (go_wp2_with fail); (with_reducible refine (toFractionS_any A n c v _ hn (f0.below hB)).mono ?_); rintro _ w1 ⟨go4, rfl, hgo4, o4, hb⟩; have bo4 := Nat.le_trans hB.size hgo4; have lb4 : w.heap.size < go4 := Nat.lt_of_lt_of_le (lt_of_cell c0) hgo4; replace c0 := below_cell hb c0; replace c1 := below_cell hb c1; replace hB := below_step hB hb; clear hb
  (go_wp2_with fail); (with_reducible refine (HI _ _ _ (o4.fl (Nat.le_refl _))).mono ?_); rintro _ w1 ⟨A0, d0, rfl, hb⟩; replace c0 := below_cell hb c0; replace c1 := below_cell hb c1; replace hB := below_step hB hb; clear hb
  (go_wp2_with fail); (with_reducible refine (eqFractionS_nil _ _ _ _ _).mono ?_); rintro _ _ ⟨rfl, rfl⟩
  (go_wp2_with fail); (with_reducible refine (heldFractionS_nil _ _ _).mono ?_); rintro _ _ ⟨rfl, rfl⟩
  go_wp2_with fail
  go_ret
  exact ⟨rfl, hB⟩
theorem walkFHalveDown1 (a b : Int) (A : Option Addr) (n c : Nat) (v : Nat → Int) (w : World) (hm : n ≤ maxLen) (hn : n ≤ 1048576) (f0 : Fl w A n 2 v) (o : Bool) (N : Nat) (z : Nat → Int) (hN : N ≤ 1048576) (HS : ∀ A c w, Fl w A n 2 v → Calls Try.prog 23 #[.agg #[.int .i64 a, .int .i64 b], .slice A n c] w (FR1 w N z o)) (HI : ∀ A c w, Fl w A n 2 v → Calls Try.prog 24 #[.agg #[.int .i64 a, .int .i64 b], .slice A n c] w (FR1 w N z o)) : Calls Try.prog 6 #[.agg #[.int .i64 a, .int .i64 b], .slice A n c] w fun e w' => e = .returned (.bool true) ∧ Below w.heap.size w w' := by
  have hs : ∀ w, _ := fun w => szFractionS_any A n c hm w
  simp only [szB_yes hn] at hs
  have ob : (o != o) = false := by simp
  obtain ⟨W, hW⟩ : ∃ W, W = (w.alloc (.cells #[.int .i64 a, .int .i64 b] 39)) := ⟨_, rfl⟩
  have c0 : W.cell? ⟨w.heap.size, 0, none⟩ = some (.int .i64 a) := by rw [hW]; simp [go_sem]
  have c1 : W.cell? ⟨w.heap.size, 1, none⟩ = some (.int .i64 b) := by rw [hW]; simp [go_sem]
  have hB : Below w.heap.size w W := by rw [hW]; exact ((Below.refl _ _).alloc (by simp <;> omega) _)
  subst hW
  go_enter Try.func6, Try.ntmps6
  (go_wp2_with fail); (with_reducible refine (hs _).mono ?_); rintro _ _ ⟨rfl, rfl⟩
  (go_wp2_with fail); (with_reducible refine (toFraction_any _ _ _).mono ?_); rintro _ w1 ⟨rfl, hb⟩; replace c0 := below_cell hb c0; replace c1 := below_cell hb c1; replace hB := below_step hB hb; clear hb
  (go_wp2_with fail); (with_reducible refine (toFractionS_any A n c v _ hn (f0.below hB)).mono ?_); rintro _ w1 ⟨go1, rfl, hgo1, o1, hb⟩; have bo1 := Nat.le_trans hB.size hgo1; have lb1 : w.heap.size < go1 := Nat.lt_of_lt_of_le (lt_of_cell c0) hgo1; replace c0 := below_cell hb c0; replace c1 := below_cell hb c1; replace hB := below_step hB hb; clear hb
  (go_wp2_with fail); (with_reducible refine (HS _ _ _ (o1.fl (Nat.le_refl _))).mono ?_); rintro _ w1 ⟨gow, cow, rfl, hgow, ow, hb⟩; have bow := Nat.le_trans hB.size hgow; replace c0 := below_cell hb c0; replace c1 := below_cell hb c1; replace hB := below_step hB hb; clear hb
  clear o1
  have lw := ow.lt
  (go_wp2_with fail); (with_reducible refine (toFractionS_any A n c v _ hn (f0.below hB)).mono ?_); rintro _ w1 ⟨gox, rfl, hgox, ox, hb⟩; have box := Nat.le_trans hB.size hgox; have lbx : w.heap.size < gox := Nat.lt_of_lt_of_le (lt_of_cell c0) hgox; replace c0 := below_cell hb c0; replace c1 := below_cell hb c1; replace ow := ow.below hb; replace hB := below_step hB hb; clear hb
  have n1 : gow ≠ gox := by omega
  have lx := ox.lt
  (go_wp2_with fail); (with_reducible refine (toFraction_any _ _ _).mono ?_); rintro _ w1 ⟨rfl, hb⟩; replace c0 := below_cell hb c0; replace c1 := below_cell hb c1; replace ow := ow.below hb; replace ox := ox.below hb; replace hB := below_step hB hb; clear hb
  have ly := hB.size
  have lx2 := ox.lt
  (go_wp2_with fail); (with_reducible refine (HI _ _ _ (ox.fl (Nat.le_refl _))).mono ?_); rintro _ w1 ⟨gog, cog, rfl, hgog, og, hb⟩; have lw2 := ow.lt; have bog := Nat.le_trans hB.size hgog; have lbg : w.heap.size < gog := Nat.lt_of_lt_of_le (lt_of_cell c0) hgog; replace c0 := below_cell hb c0; replace c1 := below_cell hb c1; replace ow := ow.below hb; replace ox := ox.below hb; replace hB := below_step hB hb; clear hb
  have n2 : gog ≠ gox := by omega
  have n3 : gow ≠ gog := by omega
  (go_wp2_with fail); (with_reducible refine (eqFractionS_true _ _ N _ _ z _ hN (og.fl (Nat.le_refl _)) (ow.fl (Nat.le_refl _))).mono ?_); rintro _ w1 ⟨rfl, hb⟩; replace c0 := below_cell hb c0; replace c1 := below_cell hb c1; replace ow := ow.below hb; replace ox := ox.below hb; replace og := og.below hb; replace hB := below_step hB hb; clear hb
  (go_wp2_with fail); (with_reducible refine (toFractionS_any A n c v _ hn (f0.below hB)).mono ?_); rintro _ w1 ⟨go3, rfl, hgo3, o3, hb⟩; have bo3 := Nat.le_trans hB.size hgo3; have lb3 : w.heap.size < go3 := Nat.lt_of_lt_of_le (lt_of_cell c0) hgo3; replace c0 := below_cell hb c0; replace c1 := below_cell hb c1; replace ow := ow.below hb; replace ox := ox.below hb; replace og := og.below hb; replace hB := below_step hB hb; clear hb
  (go_wp2_with fail); (with_reducible refine (eqFractionS_true _ _ n n n v _ hn (ox.fl (Nat.le_refl _)) (o3.fl (Nat.le_refl _))).mono ?_); rintro _ w1 ⟨rfl, hb⟩; replace c0 := below_cell hb c0; replace c1 := below_cell hb c1; replace ow := ow.below hb; replace ox := ox.below hb; replace og := og.below hb; replace hB := below_step hB hb; clear hb
  clear o3
  (go_wp2_with fail); (with_reducible refine (markFractionS_any _ _ n n v _ hn ox).mono ?_); rintro _ w1 ⟨rfl, ox, hy⟩; replace c0 := only_cell hy c0 (by simp only; omega); replace c1 := only_cell hy c1 (by simp only; omega); replace ow := ow.only hy n1; replace og := og.only hy n2; replace hB := only_below hB hy (by omega); clear hy
  (go_wp2_with fail); (with_reducible refine (eqFractionS_true _ _ N _ _ z _ hN (og.fl (Nat.le_refl _)) (ow.fl (Nat.le_refl _))).mono ?_); rintro _ w1 ⟨rfl, hb⟩; replace c0 := below_cell hb c0; replace c1 := below_cell hb c1; replace ow := ow.below hb; replace og := og.below hb; replace hB := below_step hB hb; clear hb
  (go_wp2_with fail); (with_reducible refine (markFractionS_any _ _ N _ z _ hN og).mono ?_); rintro _ w1 ⟨rfl, og, hy⟩; replace c0 := only_cell hy c0 (by simp only; omega); replace c1 := only_cell hy c1 (by simp only; omega); replace ow := ow.only hy n3; replace hB := only_below hB hy (by omega); clear hy
  (go_wp2_with fail); (with_reducible refine (heldFractionS_any _ N _ _ hN (og.fl (Nat.le_refl _))).mono ?_); rintro _ w1 ⟨rfl, hb⟩; replace c0 := below_cell hb c0; replace c1 := below_cell hb c1; replace ow := ow.below hb; replace og := og.below hb; replace hB := below_step hB hb; clear hb
  (go_wp2_with fail); (with_reducible refine (toFraction_any _ _ _).mono ?_); rintro _ w1 ⟨rfl, hb⟩; replace c0 := below_cell hb c0; replace c1 := below_cell hb c1; replace ow := ow.below hb; replace og := og.below hb; replace hB := below_step hB hb; clear hb
  (go_wp2_with fail); (with_reducible refine (toFractionS_any A n c v _ hn (f0.below hB)).mono ?_); rintro _ w1 ⟨go4, rfl, hgo4, o4, hb⟩; have bo4 := Nat.le_trans hB.size hgo4; have lb4 : w.heap.size < go4 := Nat.lt_of_lt_of_le (lt_of_cell c0) hgo4; replace c0 := below_cell hb c0; replace c1 := below_cell hb c1; replace ow := ow.below hb; replace og := og.below hb; replace hB := below_step hB hb; clear hb
  (go_wp2_with fail); (with_reducible refine (HI _ _ _ (o4.fl (Nat.le_refl _))).mono ?_); rintro _ w1 ⟨goh, coh, rfl, hgoh, oh, hb⟩; replace c0 := below_cell hb c0; replace c1 := below_cell hb c1; replace ow := ow.below hb; replace og := og.below hb; replace hB := below_step hB hb; clear hb
  (go_wp2_with fail); (with_reducible refine (eqFractionS_true _ _ N _ _ z _ hN (oh.fl (Nat.le_refl _)) (ow.fl (Nat.le_refl _))).mono ?_); rintro _ w1 ⟨rfl, hb⟩; replace c0 := below_cell hb c0; replace c1 := below_cell hb c1; replace og := og.below hb; replace hB := below_step hB hb; clear hb
  (go_wp2_with fail); (with_reducible refine (heldFractionS_any _ N _ _ hN (og.fl (Nat.le_refl _))).mono ?_); rintro _ w1 ⟨rfl, hb⟩; replace c0 := below_cell hb c0; replace c1 := below_cell hb c1; replace hB := below_step hB hb; clear hb
  go_wp2_with fail
  go_ret
  exact ⟨rfl, hB⟩
theorem walkFHalveDown2 (a b : Int) (A : Option Addr) (n c : Nat) (v : Nat → Int) (w : World) (hm : n ≤ maxLen) (hn : ¬ n ≤ 1048576) : Calls Try.prog 6 #[.agg #[.int .i64 a, .int .i64 b], .slice A n c] w fun e w' => e = .returned (.bool true) ∧ Below w.heap.size w w' := by
  have hs : ∀ w, _ := fun w => szFractionS_any A n c hm w
  simp only [szB_no hn] at hs
  obtain ⟨W, hW⟩ : ∃ W, W = (w.alloc (.cells #[.int .i64 a, .int .i64 b] 39)) := ⟨_, rfl⟩
  have c0 : W.cell? ⟨w.heap.size, 0, none⟩ = some (.int .i64 a) := by rw [hW]; simp [go_sem]
  have c1 : W.cell? ⟨w.heap.size, 1, none⟩ = some (.int .i64 b) := by rw [hW]; simp [go_sem]
  have hB : Below w.heap.size w W := by rw [hW]; exact ((Below.refl _ _).alloc (by simp <;> omega) _)
  subst hW
  go_enter Try.func6, Try.ntmps6
  ((go_wp2_with fail); (with_reducible refine (hs _).mono ?_); rintro _ _ ⟨rfl, rfl⟩)
  go_wp2_with fail
  go_ret
  exact ⟨rfl, hB⟩
theorem walkFDecadeOf0 (a b : Int) (A : Option Addr) (n c : Nat) (v : Nat → Int) (w : World) (hm : n ≤ maxLen) (hn : n ≤ 1048576) (f0 : Fl w A n 2 v) (o : Bool) (HS : ∀ A c w, Fl w A n 2 v → Calls Try.prog 27 #[.agg #[.int .i64 a, .int .i64 b], .slice A n c] w (FR0 w o)) (HI : ∀ A c w, Fl w A n 2 v → Calls Try.prog 28 #[.agg #[.int .i64 a, .int .i64 b], .slice A n c] w (FR0 w o)) : Calls Try.prog 7 #[.agg #[.int .i64 a, .int .i64 b], .slice A n c] w fun e w' => e = .returned (.bool true) ∧ Below w.heap.size w w' := by
  have hs : ∀ w, _ := fun w => szFractionS_any A n c hm w
  simp only [szB_yes hn] at hs
  have ob : (o != o) = false := by simp
  obtain ⟨W, hW⟩ : ∃ W, W = (w.alloc (.cells #[.int .i64 a, .int .i64 b] 39)) := ⟨_, rfl⟩
  have c0 : W.cell? ⟨w.heap.size, 0, none⟩ = some (.int .i64 a) := by rw [hW]; simp [go_sem]
  have c1 : W.cell? ⟨w.heap.size, 1, none⟩ = some (.int .i64 b) := by rw [hW]; simp [go_sem]
  have hB : Below w.heap.size w W := by rw [hW]; exact ((Below.refl _ _).alloc (by simp <;> omega) _)
  subst hW
  go_enter Try.func7, Try.ntmps7
  (go_wp2_with fail); (with_reducible refine (hs _).mono ?_); rintro _ _ ⟨rfl, rfl⟩
  (go_wp2_with fail); (with_reducible refine (toFraction_any _ _ _).mono ?_); rintro _ w1 ⟨rfl, hb⟩; replace c0 := below_cell hb c0; replace c1 := below_cell hb c1; replace hB := below_step hB hb; clear hb
  (go_wp2_with fail); (with_reducible refine (toFractionS_any A n c v _ hn (f0.below hB)).mono ?_); rintro _ w1 ⟨go1, rfl, hgo1, o1, hb⟩; have bo1 := Nat.le_trans hB.size hgo1; have lb1 : w.heap.size < go1 := Nat.lt_of_lt_of_le (lt_of_cell c0) hgo1; replace c0 := below_cell hb c0; replace c1 := below_cell hb c1; replace hB := below_step hB hb; clear hb
  (go_wp2_with fail); (with_reducible refine (HS _ _ _ (o1.fl (Nat.le_refl _))).mono ?_); rintro _ w1 ⟨A0, d0, rfl, hb⟩; replace c0 := below_cell hb c0; replace c1 := below_cell hb c1; replace hB := below_step hB hb; clear hb
  clear o1
  (go_wp2_with fail); (with_reducible refine (toFractionS_any A n c v _ hn (f0.below hB)).mono ?_); rintro _ w1 ⟨gox, rfl, hgox, ox, hb⟩; have box := Nat.le_trans hB.size hgox; have lbx : w.heap.size < gox := Nat.lt_of_lt_of_le (lt_of_cell c0) hgox; replace c0 := below_cell hb c0; replace c1 := below_cell hb c1; replace hB := below_step hB hb; clear hb
  (go_wp2_with fail); (with_reducible refine (toFraction_any _ _ _).mono ?_); rintro _ w1 ⟨rfl, hb⟩; replace c0 := below_cell hb c0; replace c1 := below_cell hb c1; replace ox := ox.below hb; replace hB := below_step hB hb; clear hb
  (go_wp2_with fail); (with_reducible refine (HI _ _ _ (ox.fl (Nat.le_refl _))).mono ?_); rintro _ w1 ⟨A0, d0, rfl, hb⟩; replace c0 := below_cell hb c0; replace c1 := below_cell hb c1; replace ox := ox.below hb; replace hB := below_step hB hb; clear hb
  (go_wp2_with fail); (with_reducible refine (eqFractionS_nil _ _ _ _ _).mono ?_); rintro _ _ ⟨rfl, rfl⟩
  (go_wp2_with fail); (with_reducible refine (toFractionS_any A n c v _ hn (f0.below hB)).mono ?_); rintro _ w1 ⟨go3, rfl, hgo3, o3, hb⟩; have bo3 := Nat.le_trans hB.size hgo3; have lb3 : w.heap.size < go3 := Nat.lt_of_lt_of_le (lt_of_cell c0) hgo3; replace c0 := below_cell hb c0; replace c1 := below_cell hb c1; replace ox := ox.below hb; replace hB := below_step hB hb; clear hb
  (go_wp2_with fail); (with_reducible refine (eqFractionS_true _ _ n n n v _ hn (ox.fl (Nat.le_refl _)) (o3.fl (Nat.le_refl _))).mono ?_); rintro _ w1 ⟨rfl, hb⟩; replace c0 := below_cell hb c0; replace c1 := below_cell hb c1; replace ox := ox.below hb; replace hB := below_step hB hb; clear hb
  clear o3
  (go_wp2_with fail); (with_reducible refine (markFractionS_any _ _ n n v _ hn ox).mono ?_); rintro _ w1 ⟨rfl, ox, hy⟩; replace c0 := only_cell hy c0 (by simp only; omega); replace c1 := only_cell hy c1 (by simp only; omega); replace hB := only_below hB hy (by omega); clear hy
  (go_wp2_with fail); (with_reducible refine (eqFractionS_nil _ _ _ _ _).mono ?_); rintro _ _ ⟨rfl, rfl⟩
  (go_wp2_with fail); (with_reducible refine (markFractionS_nil _ _ _).mono ?_); rintro _ _ ⟨rfl, rfl⟩
  (go_wp2_with fail); (with_reducible refine (heldFractionS_nil _ _ _).mono ?_); rintro _ _ ⟨rfl, rfl⟩
  (go_wp2_with fail); (with_reducible refine (toFraction_any _ _ _).mono ?_); rintro _ w1 ⟨rfl, hb⟩; replace c0 := below_cell hb c0; replace c1 := below_cell hb c1; replace hB := below_step hB hb; clear hb
  (go_wp2_with fail); (with_reducible refine (toFractionS_any A n c v _ hn (f0.below hB)).mono ?_); rintro _ w1 ⟨go4, rfl, hgo4, o4, hb⟩; have bo4 := Nat.le_trans hB.size hgo4; have lb4 : w.heap.size < go4 := Nat.lt_of_lt_of_le (lt_of_cell c0) hgo4; replace c0 := below_cell hb c0; replace c1 := below_cell hb c1; replace hB := below_step hB hb; clear hb
  (go_wp2_with fail); (with_reducible refine (HI _ _ _ (o4.fl (Nat.le_refl _))).mono ?_); rintro _ w1 ⟨A0, d0, rfl, hb⟩; replace c0 := below_cell hb c0; replace c1 := below_cell hb c1; replace hB := below_step hB hb; clear hb
  (go_wp2_with fail); (with_reducible refine (eqFractionS_nil _ _ _ _ _).mono ?_); rintro _ _ ⟨rfl, rfl⟩
  (go_wp2_with fail); (with_reducible refine (heldFractionS_nil _ _ _).mono ?_); rintro _ _ ⟨rfl, rfl⟩
  go_wp2_with fail
  go_ret
  exact ⟨rfl, hB⟩
theorem walkFDecadeOf1 (a b : Int) (A : Option Addr) (n c : Nat) (v : Nat → Int) (w : World) (hm : n ≤ maxLen) (hn : n ≤ 1048576) (f0 : Fl w A n 2 v) (o : Bool) (N : Nat) (z : Nat → Int) (hN : N ≤ 1048576) (HS : ∀ A c w, Fl w A n 2 v → Calls Try.prog 27 #[.agg #[.int .i64 a, .int .i64 b], .slice A n c] w (FR1 w N z o)) (HI : ∀ A c w, Fl w A n 2 v → Calls Try.prog 28 #[.agg #[.int .i64 a, .int .i64 b], .slice A n c] w (FR1 w N z o)) : Calls Try.prog 7 #[.agg #[.int .i64 a, .int .i64 b], .slice A n c] w fun e w' => e = .returned (.bool true) ∧ Below w.heap.size w w' := by
  have hs : ∀ w, _ := fun w => szFractionS_any A n c hm w
  simp only [szB_yes hn] at hs
  have ob : (o != o) = false := by simp
  obtain ⟨W, hW⟩ : ∃ W, W = (w.alloc (.cells #[.int .i64 a, .int .i64 b] 39)) := ⟨_, rfl⟩
  have c0 : W.cell? ⟨w.heap.size, 0, none⟩ = some (.int .i64 a) := by rw [hW]; simp [go_sem]
  have c1 : W.cell? ⟨w.heap.size, 1, none⟩ = some (.int .i64 b) := by rw [hW]; simp [go_sem]
  have hB : Below w.heap.size w W := by rw [hW]; exact ((Below.refl _ _).alloc (by simp <;> omega) _)
  subst hW
  go_enter Try.func7, Try.ntmps7
  (go_wp2_with fail); (with_reducible refine (hs _).mono ?_); rintro _ _ ⟨rfl, rfl⟩
  (go_wp2_with fail); (with_reducible refine (toFraction_any _ _ _).mono ?_); rintro _ w1 ⟨rfl, hb⟩; replace c0 := below_cell hb c0; replace c1 := below_cell hb c1; replace hB := below_step hB hb; clear hb
  (go_wp2_with fail); (with_reducible refine (toFractionS_any A n c v _ hn (f0.below hB)).mono ?_); rintro _ w1 ⟨go1, rfl, hgo1, o1, hb⟩; have bo1 := Nat.le_trans hB.size hgo1; have lb1 : w.heap.size < go1 := Nat.lt_of_lt_of_le (lt_of_cell c0) hgo1; replace c0 := below_cell hb c0; replace c1 := below_cell hb c1; replace hB := below_step hB hb; clear hb
  (go_wp2_with fail); (with_reducible refine (HS _ _ _ (o1.fl (Nat.le_refl _))).mono ?_); rintro _ w1 ⟨gow, cow, rfl, hgow, ow, hb⟩; have bow := Nat.le_trans hB.size hgow; replace c0 := below_cell hb c0; replace c1 := below_cell hb c1; replace hB := below_step hB hb; clear hb
  clear o1
  have lw := ow.lt
  (go_wp2_with fail); (with_reducible refine (toFractionS_any A n c v _ hn (f0.below hB)).mono ?_); rintro _ w1 ⟨gox, rfl, hgox, ox, hb⟩; have box := Nat.le_trans hB.size hgox; have lbx : w.heap.size < gox := Nat.lt_of_lt_of_le (lt_of_cell c0) hgox; replace c0 := below_cell hb c0; replace c1 := below_cell hb c1; replace ow := ow.below hb; replace hB := below_step hB hb; clear hb
  have n1 : gow ≠ gox := by omega
  have lx := ox.lt
  (go_wp2_with fail); (with_reducible refine (toFraction_any _ _ _).mono ?_); rintro _ w1 ⟨rfl, hb⟩; replace c0 := below_cell hb c0; replace c1 := below_cell hb c1; replace ow := ow.below hb; replace ox := ox.below hb; replace hB := below_step hB hb; clear hb
  have ly := hB.size
  have lx2 := ox.lt
  (go_wp2_with fail); (with_reducible refine (HI _ _ _ (ox.fl (Nat.le_refl _))).mono ?_); rintro _ w1 ⟨gog, cog, rfl, hgog, og, hb⟩; have lw2 := ow.lt; have bog := Nat.le_trans hB.size hgog; have lbg : w.heap.size < gog := Nat.lt_of_lt_of_le (lt_of_cell c0) hgog; replace c0 := below_cell hb c0; replace c1 := below_cell hb c1; replace ow := ow.below hb; replace ox := ox.below hb; replace hB := below_step hB hb; clear hb
  have n2 : gog ≠ gox := by omega
  have n3 : gow ≠ gog := by omega
  (go_wp2_with fail); (with_reducible refine (eqFractionS_true _ _ N _ _ z _ hN (og.fl (Nat.le_refl _)) (ow.fl (Nat.le_refl _))).mono ?_); rintro _ w1 ⟨rfl, hb⟩; replace c0 := below_cell hb c0; replace c1 := below_cell hb c1; replace ow := ow.below hb; replace ox := ox.below hb; replace og := og.below hb; replace hB := below_step hB hb; clear hb
  (go_wp2_with fail); (with_reducible refine (toFractionS_any A n c v _ hn (f0.below hB)).mono ?_); rintro _ w1 ⟨go3, rfl, hgo3, o3, hb⟩; have bo3 := Nat.le_trans hB.size hgo3; have lb3 : w.heap.size < go3 := Nat.lt_of_lt_of_le (lt_of_cell c0) hgo3; replace c0 := below_cell hb c0; replace c1 := below_cell hb c1; replace ow := ow.below hb; replace ox := ox.below hb; replace og := og.below hb; replace hB := below_step hB hb; clear hb
  (go_wp2_with fail); (with_reducible refine (eqFractionS_true _ _ n n n v _ hn (ox.fl (Nat.le_refl _)) (o3.fl (Nat.le_refl _))).mono ?_); rintro _ w1 ⟨rfl, hb⟩; replace c0 := below_cell hb c0; replace c1 := below_cell hb c1; replace ow := ow.below hb; replace ox := ox.below hb; replace og := og.below hb; replace hB := below_step hB hb; clear hb
  clear o3
  (go_wp2_with fail); (with_reducible refine (markFractionS_any _ _ n n v _ hn ox).mono ?_); rintro _ w1 ⟨rfl, ox, hy⟩; replace c0 := only_cell hy c0 (by simp only; omega); replace c1 := only_cell hy c1 (by simp only; omega); replace ow := ow.only hy n1; replace og := og.only hy n2; replace hB := only_below hB hy (by omega); clear hy
  (go_wp2_with fail); (with_reducible refine (eqFractionS_true _ _ N _ _ z _ hN (og.fl (Nat.le_refl _)) (ow.fl (Nat.le_refl _))).mono ?_); rintro _ w1 ⟨rfl, hb⟩; replace c0 := below_cell hb c0; replace c1 := below_cell hb c1; replace ow := ow.below hb; replace og := og.below hb; replace hB := below_step hB hb; clear hb
  (go_wp2_with fail); (with_reducible refine (markFractionS_any _ _ N _ z _ hN og).mono ?_); rintro _ w1 ⟨rfl, og, hy⟩; replace c0 := only_cell hy c0 (by simp only; omega); replace c1 := only_cell hy c1 (by simp only; omega); replace ow := ow.only hy n3; replace hB := only_below hB hy (by omega); clear hy
  (go_wp2_with fail); (with_reducible refine (heldFractionS_any _ N _ _ hN (og.fl (Nat.le_refl _))).mono ?_); rintro _ w1 ⟨rfl, hb⟩; replace c0 := below_cell hb c0; replace c1 := below_cell hb c1; replace ow := ow.below hb; replace og := og.below hb; replace hB := below_step hB hb; clear hb
  (go_wp2_with fail); (with_reducible refine (toFraction_any _ _ _).mono ?_); rintro _ w1 ⟨rfl, hb⟩; replace c0 := below_cell hb c0; replace c1 := below_cell hb c1; replace ow := ow.below hb; replace og := og.below hb; replace hB := below_step hB hb; clear hb
  (go_wp2_with fail); (with_reducible refine (toFractionS_any A n c v _ hn (f0.below hB)).mono ?_); rintro _ w1 ⟨go4, rfl, hgo4, o4, hb⟩; have bo4 := Nat.le_trans hB.size hgo4; have lb4 : w.heap.size < go4 := Nat.lt_of_lt_of_le (lt_of_cell c0) hgo4; replace c0 := below_cell hb c0; replace c1 := below_cell hb c1; replace ow := ow.below hb; replace og := og.below hb; replace hB := below_step hB hb; clear hb
  (go_wp2_with fail); (with_reducible refine (HI _ _ _ (o4.fl (Nat.le_refl _))).mono ?_); rintro _ w1 ⟨goh, coh, rfl, hgoh, oh, hb⟩; replace c0 := below_cell hb c0; replace c1 := below_cell hb c1; replace ow := ow.below hb; replace og := og.below hb; replace hB := below_step hB hb; clear hb
  (go_wp2_with fail); (with_reducible refine (eqFractionS_true _ _ N _ _ z _ hN (oh.fl (Nat.le_refl _)) (ow.fl (Nat.le_refl _))).mono ?_); rintro _ w1 ⟨rfl, hb⟩; replace c0 := below_cell hb c0; replace c1 := below_cell hb c1; replace og := og.below hb; replace hB := below_step hB hb; clear hb
  (go_wp2_with fail); (with_reducible refine (heldFractionS_any _ N _ _ hN (og.fl (Nat.le_refl _))).mono ?_); rintro _ w1 ⟨rfl, hb⟩; replace c0 := below_cell hb c0; replace c1 := below_cell hb c1; replace hB := below_step hB hb; clear hb
  go_wp2_with fail
  go_ret
  exact ⟨rfl, hB⟩
theorem walkFDecadeOf2 (a b : Int) (A : Option Addr) (n c : Nat) (v : Nat → Int) (w : World) (hm : n ≤ maxLen) (hn : ¬ n ≤ 1048576) : Calls Try.prog 7 #[.agg #[.int .i64 a, .int .i64 b], .slice A n c] w fun e w' => e = .returned (.bool true) ∧ Below w.heap.size w w' := by
  have hs : ∀ w, _ := fun w => szFractionS_any A n c hm w
  simp only [szB_no hn] at hs
  obtain ⟨W, hW⟩ : ∃ W, W = (w.alloc (.cells #[.int .i64 a, .int .i64 b] 39)) := ⟨_, rfl⟩
  have c0 : W.cell? ⟨w.heap.size, 0, none⟩ = some (.int .i64 a) := by rw [hW]; simp [go_sem]
  have c1 : W.cell? ⟨w.heap.size, 1, none⟩ = some (.int .i64 b) := by rw [hW]; simp [go_sem]
  have hB : Below w.heap.size w W := by rw [hW]; exact ((Below.refl _ _).alloc (by simp <;> omega) _)
  subst hW
  go_enter Try.func7, Try.ntmps7
  ((go_wp2_with fail); (with_reducible refine (hs _).mono ?_); rintro _ _ ⟨rfl, rfl⟩)
  go_wp2_with fail
  go_ret
  exact ⟨rfl, hB⟩
end Go.Proofs.Ytoalpihlflifmaa
