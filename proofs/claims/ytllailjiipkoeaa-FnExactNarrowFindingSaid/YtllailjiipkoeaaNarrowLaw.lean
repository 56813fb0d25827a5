/- The walk of the law on NarrowFinding: it returns true and leaves old memory alone. No conditions. -/
import Derived.Test.YtllailjiipkoeaaNarrow
import Derived.Test.YtllailjiipkoeaaMads
import Derived.RegionTactic
import Derived.BigRegion
namespace Go.Proofs.Ytllailjiipkoeaa
open Go.RowKit
set_option linter.unusedSimpArgs false
set_option linter.unusedVariables false
set_option maxHeartbeats 4000000
theorem toFinding_any (a b c : Int) (w : World) : Calls Try.prog 18 #[.agg #[.int .i64 a, .int .i64 b, .int .i64 c]] w fun e w' => e = .returned (.agg #[.int .i64 a, .int .i64 b, .int .i64 c]) ∧ Below w.heap.size w w' := by
  go_enter Try.func18, Try.ntmps18
  go_wp2
  exact bodyPost_ret (v := .agg #[.int .i64 a, .int .i64 b, .int .i64 c]) (by simp [results, Try.results18, go_sem]) rfl ⟨rfl, by (repeat (first | exact Below.refl _ _ | assumption | (refine Below.drew ?_) | (refine below_alloc ?_ _) | (refine Below.setCell ?_ (by first | (simp; done) | (simp; omega) | omega | (have hq := hB.size; (try simp at hq ⊢); omega)) _) | (refine Below.alloc ?_ (by first | (simp; done) | (simp; omega) | omega | (have hq := hB.size; (try simp at hq ⊢); omega)) _) | (refine below_step ?_ (by assumption))))⟩
def eqB (a b c d e f : Int) : Bool := decide (a = d) && decide (b = e) && decide (c = f)
theorem eqFinding_any (a b c d e f : Int) (w : World) : Calls Try.prog 27 #[.agg #[.int .i64 a, .int .i64 b, .int .i64 c], .agg #[.int .i64 d, .int .i64 e, .int .i64 f]] w fun x w' => x = .returned (.bool (eqB a b c d e f)) ∧ Below w.heap.size w w' := by
  go_enter Try.func27, Try.ntmps27
  go_wp2
  all_goals go_ret
  all_goals exact ⟨ret_bool (by simp_all [eqB]), by (repeat (first | exact Below.refl _ _ | assumption | (refine Below.drew ?_) | (refine below_alloc ?_ _) | (refine Below.setCell ?_ (by first | (simp; done) | (simp; omega) | omega | (have hq := hB.size; (try simp at hq ⊢); omega)) _) | (refine Below.alloc ?_ (by first | (simp; done) | (simp; omega) | omega | (have hq := hB.size; (try simp at hq ⊢); omega)) _) | (refine below_step ?_ (by assumption))))⟩
theorem sizeFinding : (Try.prog.info? 27).map (·.size) = some 3 := by kernel_rfl
theorem narV_form (a b c d e f : Int) : ∃ x y z : Int, ∃ o : Bool, narV a b c d e f = .tuple #[.agg #[.int .i64 x, .int .i64 y, .int .i64 z], .bool o] := by
  unfold narV; split
  · exact ⟨_, _, _, _, rfl⟩
  · exact ⟨_, _, _, _, rfl⟩

theorem walkNarrow (a b c d e f : Int) (w : World) : Calls Try.prog 8 #[.agg #[.int .i64 a, .int .i64 b, .int .i64 c], .agg #[.int .i64 d, .int .i64 e, .int .i64 f]] w fun x w' => x = .returned (.bool true) ∧ Below w.heap.size w w' := by
  obtain ⟨x, y, z, o, hv⟩ := narV_form a b c d e f
  have hs := fun w => spec_Narrow a b c d e f w
  have hi := fun w => impl_Narrow a b c d e f w
  simp only [hv] at hs hi
  clear hv
  have Hs := Lib.hid hs; clear hs
  have Hi := Lib.hid hi; clear hi
  obtain ⟨W, hW⟩ : ∃ W, W = ((w.alloc (.cells #[.int .i64 a, .int .i64 b, .int .i64 c] 25)).alloc (.cells #[.int .i64 d, .int .i64 e, .int .i64 f] 25)) := ⟨_, rfl⟩
  have c0 : W.cell? ⟨w.heap.size, 0, none⟩ = some (.int .i64 a) := by rw [hW]; simp [go_sem]
  have c1 : W.cell? ⟨w.heap.size, 1, none⟩ = some (.int .i64 b) := by rw [hW]; simp [go_sem]
  have c2 : W.cell? ⟨w.heap.size, 2, none⟩ = some (.int .i64 c) := by rw [hW]; simp [go_sem]
  have c3 : W.cell? ⟨w.heap.size + 1, 0, none⟩ = some (.int .i64 d) := by rw [hW]; simp [go_sem]
  have c4 : W.cell? ⟨w.heap.size + 1, 1, none⟩ = some (.int .i64 e) := by rw [hW]; simp [go_sem]
  have c5 : W.cell? ⟨w.heap.size + 1, 2, none⟩ = some (.int .i64 f) := by rw [hW]; simp [go_sem]
  have hB : Below w.heap.size w W := by rw [hW]; exact (((Below.refl _ _).alloc (by simp <;> omega) _).alloc (by simp <;> omega) _)
  subst hW
  go_enter Try.func8, Try.ntmps8
  go_wp2_with fail
  apply region_made
  case hm => kernel_rfl
  case hok => kernel_rfl
  case hsz => rfl
  case hal => kernel_rfl
  case H =>
    intro u hu
    have Ec0 := ext_cell (below_cell hu c0)
    have Ec1 := ext_cell (below_cell hu c1)
    have Ec2 := ext_cell (below_cell hu c2)
    have Ec3 := ext_cell (below_cell hu c3)
    have Ec4 := ext_cell (below_cell hu c4)
    have Ec5 := ext_cell (below_cell hu c5)
    dsimp only [List.map, tame]
    (repeat (first | go_big_quiet_step ((first | (go_at_call 18; exact calm_of (toFinding_any _ _ _ _)) | (go_at_call 25; exact calm_of (Hs.out _)))) | simp only [TF]))
    exact wpQuiet_nil rfl
  case hst => simp only [storesOk, true_and, and_true]; exact ⟨_, rfl, sizeFinding, by simp [Value.oneCell']⟩
  intro G w1 hb hf hd
  simp only [madeFacts, true_and, and_true] at hf
  obtain ⟨hg5, hh5⟩ := hf
  clear hd
  dsimp only [alSlots, List.filterMap, putAll]
  have c6 : w1.cell? ⟨G 5, 0, none⟩ = some (.int .i64 x) := made_cell hh5 rfl
  have c7 : w1.cell? ⟨G 5, 1, none⟩ = some (.int .i64 y) := made_cell hh5 rfl
  have c8 : w1.cell? ⟨G 5, 2, none⟩ = some (.int .i64 z) := made_cell hh5 rfl
  clear hh5
  generalize G 5 = g5 at *
  simp only [Act.put, List.setIfInBounds_toArray, List.set_cons_succ, List.set_cons_zero]
  (replace c0 := below_cell hb c0; replace c1 := below_cell hb c1; replace c2 := below_cell hb c2; replace c3 := below_cell hb c3; replace c4 := below_cell hb c4; replace c5 := below_cell hb c5; replace hB := below_step hB hb; clear hb)
  go_wp2_with fail
  apply region_made
  case hm => kernel_rfl
  case hok => kernel_rfl
  case hsz => rfl
  case hal => kernel_rfl
  case H =>
    intro u hu
    have Ec0 := ext_cell (below_cell hu c0)
    have Ec1 := ext_cell (below_cell hu c1)
    have Ec2 := ext_cell (below_cell hu c2)
    have Ec3 := ext_cell (below_cell hu c3)
    have Ec4 := ext_cell (below_cell hu c4)
    have Ec5 := ext_cell (below_cell hu c5)
    have Ec6 := ext_cell (below_cell hu c6)
    have Ec7 := ext_cell (below_cell hu c7)
    have Ec8 := ext_cell (below_cell hu c8)
    dsimp only [List.map, tame]
    (repeat (first | go_big_quiet_step ((first | (go_at_call 18; exact calm_of (toFinding_any _ _ _ _)) | (go_at_call 26; exact calm_of (Hi.out _)))) | simp only [TF]))
    exact wpQuiet_nil rfl
  case hst => simp only [storesOk, true_and, and_true]; exact ⟨_, rfl, sizeFinding, by simp [Value.oneCell']⟩
  intro G w1 hb hf hd
  simp only [madeFacts, true_and, and_true] at hf
  obtain ⟨hg7, hh7⟩ := hf
  clear hd
  dsimp only [alSlots, List.filterMap, putAll]
  have c9 : w1.cell? ⟨G 7, 0, none⟩ = some (.int .i64 x) := made_cell hh7 rfl
  have c10 : w1.cell? ⟨G 7, 1, none⟩ = some (.int .i64 y) := made_cell hh7 rfl
  have c11 : w1.cell? ⟨G 7, 2, none⟩ = some (.int .i64 z) := made_cell hh7 rfl
  clear hh7
  generalize G 7 = g7 at *
  simp only [Act.put, List.setIfInBounds_toArray, List.set_cons_succ, List.set_cons_zero]
  (replace c0 := below_cell hb c0; replace c1 := below_cell hb c1; replace c2 := below_cell hb c2; replace c3 := below_cell hb c3; replace c4 := below_cell hb c4; replace c5 := below_cell hb c5; replace c6 := below_cell hb c6; replace c7 := below_cell hb c7; replace c8 := below_cell hb c8; replace hB := below_step hB hb; clear hb)
  have e1 : eqB x y z x y z = true := by simp [eqB]
  have hq := fun w => eqFinding_any x y z x y z w
  simp only [e1] at hq
  clear e1
  have ob : (o != o) = false := by simp
  ((go_wp2_with fail); (with_reducible refine (hq _).mono ?_); rintro _ w1 ⟨rfl, hb⟩; replace hB := below_step hB hb; clear hb)
  go_wp2_with fail
  go_ret
  exact ⟨rfl, hB⟩
end Go.Proofs.Ytllailjiipkoeaa
