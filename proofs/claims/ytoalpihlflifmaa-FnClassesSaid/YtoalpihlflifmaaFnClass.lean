/- FnClasses: the draws of two findings, and the law's walk. -/
import Derived.Test.YtoalpihlflifmaaDraw
import Derived.Test.YtoalpihlflifmaaClass
import Derived.Test.YtoalpihlflifmaaNarrow
import Derived.BigRegion
import Derived.Deep.RegionWith
import Derived.Deep.DeepCutAuto
namespace Go.Proofs.Ytoalpihlflifmaa
open Go.RowKit
set_option linter.unusedSimpArgs false
set_option linter.unusedVariables false
set_option maxHeartbeats 4000000
def pk (j : Nat) : Int := [1, 500, 1000, 5000, 20000, 100000].getD j 0
theorem spec_l28 (w : World) (D g : Nat) (hc : Cur w D g) (hDw : D ≤ w.heap.size) : Calls Try.prog 61 #[.pointer (some ⟨g, 0, none⟩)] w fun e w' => ∃ n a b : Int, e = .returned (.agg #[.int .i64 n, .int .i64 a, .int .i64 b]) ∧
    (1 ≤ n ∧ n ≤ 100000 ∧ -2000 ≤ a ∧ a ≤ b ∧ b ≤ 4000) ∧ Cur w' D g ∧ w.grownBy w' (some g) := by
  have hgl := hc.lt
  obtain ⟨W, hW⟩ : ∃ W, W = (w.alloc (.cells #[.int .i64 0, .int .i64 0, .int .i64 0] 54)) := ⟨_, rfl⟩
  have c0 : W.cell? ⟨w.heap.size, 0, none⟩ = some (.int .i64 0) := by rw [hW]; simp [go_sem]
  have c1 : W.cell? ⟨w.heap.size, 1, none⟩ = some (.int .i64 0) := by rw [hW]; simp [go_sem]
  have c2 : W.cell? ⟨w.heap.size, 2, none⟩ = some (.int .i64 0) := by rw [hW]; simp [go_sem]
  have z0 : W.frozen? ⟨w.heap.size, 0, none⟩ = false := by rw [hW]; simp [go_sem]
  have z1 : W.frozen? ⟨w.heap.size, 1, none⟩ = false := by rw [hW]; simp [go_sem]
  have z2 : W.frozen? ⟨w.heap.size, 2, none⟩ = false := by rw [hW]; simp [go_sem]
  have hO : w.grownBy W (some g) := by rw [hW]; exact only_alloc (only_refl _ _) _
  have hc : Cur W D g := by rw [hW]; exact hc.below (below_alloc (Below.refl _ _) _)
  have hWs : W.heap.size = w.heap.size + 1 := by rw [hW]; simp
  have HWS := Lib.hid hWs; clear hWs
  subst hW
  have fp : ∀ W : World, Fl (W.alloc (.cells #[.int .i64 1, .int .i64 500, .int .i64 1000, .int .i64 5000, .int .i64 20000, .int .i64 100000] 3)) (some ⟨W.heap.size, 0, none⟩) 6 1 pk := by
    intro W _
    refine ⟨_, _, rfl, fun j hj => ?_⟩
    obtain rfl | rfl | rfl | rfl | rfl | rfl : j = 0 ∨ j = 1 ∨ j = 2 ∨ j = 3 ∨ j = 4 ∨ j = 5 := by omega
    all_goals simp [go_sem, pk]
  have FP := Lib.hid fp; clear fp
  have hT := fun n k w => spec_ToleranceOf n k w
  go_enter Try.func61, Try.ntmps61
  ((go_wp2_with fail); (with_reducible refine (spec_Pick _ D g ?hcur _ 6 6 pk (by decide) (by decide) (by simpa using FP.out (w.alloc (.cells #[.int .i64 0, .int .i64 0, .int .i64 0] 54))) (by intro b off e; injection e with e; injection e with e; omega)).mono ?_); (case hcur => (repeat (first | (with_reducible assumption) | (with_reducible refine Cur.drew ?_) | (with_reducible refine Cur.drewN ?_ _) | (with_reducible refine Cur.set ?_ (by first | (simp; done) | (simp; omega) | omega) (by first | (simp; done) | (simp; omega) | omega) _) | (with_reducible refine Cur.below ?_ (below_alloc (Below.refl _ _) _)) | (with_reducible refine Cur.below ?_ (by with_reducible assumption))))); rintro _ w1 ⟨n, rfl, ⟨j, hj, hn⟩, hcn, hg⟩; replace hO : w.grownBy w1 (some g) := only_trans (by (repeat (first | (with_reducible assumption) | (with_reducible exact only_refl _ _) | (with_reducible refine only_drew ?_) | (with_reducible refine only_drewN ?_ _) | (with_reducible refine only_alloc ?_ _) | (with_reducible refine only_setNew ?_ (by first | (simp; done) | (simp; omega) | omega) _) | (with_reducible refine only_set ?_ _ _) | (with_reducible refine only_step ?_ (by with_reducible assumption))))) hg; replace hc := hcn; clear hcn; (first | replace z0 := only_frozen hg (lt_of_cell c0) z0 (by first | (simp; done) | (simp; omega) | omega) | replace z0 := only_frozen hg (below_lt (below_alloc (Below.refl _ _) _) (lt_of_cell c0)) (below_frozen (below_alloc (Below.refl _ _) _) (lt_of_cell c0) z0) (by first | (simp; done) | (simp; omega) | omega)); (first | replace z1 := only_frozen hg (lt_of_cell c1) z1 (by first | (simp; done) | (simp; omega) | omega) | replace z1 := only_frozen hg (below_lt (below_alloc (Below.refl _ _) _) (lt_of_cell c1)) (below_frozen (below_alloc (Below.refl _ _) _) (lt_of_cell c1) z1) (by first | (simp; done) | (simp; omega) | omega)); (first | replace z2 := only_frozen hg (lt_of_cell c2) z2 (by first | (simp; done) | (simp; omega) | omega) | replace z2 := only_frozen hg (below_lt (below_alloc (Below.refl _ _) _) (lt_of_cell c2)) (below_frozen (below_alloc (Below.refl _ _) _) (lt_of_cell c2) z2) (by first | (simp; done) | (simp; omega) | omega)); (first | replace c0 := only_cell hg c0 (by first | (simp; done) | (simp; omega) | omega) | replace c0 := only_cell hg (below_cell (below_alloc (Below.refl _ _) _) c0) (by first | (simp; done) | (simp; omega) | omega)); (first | replace c1 := only_cell hg c1 (by first | (simp; done) | (simp; omega) | omega) | replace c1 := only_cell hg (below_cell (below_alloc (Below.refl _ _) _) c1) (by first | (simp; done) | (simp; omega) | omega)); (first | replace c2 := only_cell hg c2 (by first | (simp; done) | (simp; omega) | omega) | replace c2 := only_cell hg (below_cell (below_alloc (Below.refl _ _) _) c2) (by first | (simp; done) | (simp; omega) | omega)); clear hg)
  have hn1 : 1 ≤ n ∧ n ≤ 100000 := by
    obtain rfl | rfl | rfl | rfl | rfl | rfl : j = 0 ∨ j = 1 ∨ j = 2 ∨ j = 3 ∨ j = 4 ∨ j = 5 := by omega
    all_goals rw [hn]; decide
  clear hn hj
  ((go_wp2_with fail); (with_reducible refine (spec_Below _ D g ?hcur _).mono ?_); (case hcur => (repeat (first | (with_reducible assumption) | (with_reducible refine Cur.drew ?_) | (with_reducible refine Cur.drewN ?_ _) | (with_reducible refine Cur.set ?_ (by first | (simp; done) | (simp; omega) | omega) (by first | (simp; done) | (simp; omega) | omega) _) | (with_reducible refine Cur.below ?_ (below_alloc (Below.refl _ _) _)) | (with_reducible refine Cur.below ?_ (by with_reducible assumption))))); rintro _ w1 ⟨x, rfl, ⟨hx0, hx1, _⟩, hcn, hg⟩; replace hO : w.grownBy w1 (some g) := only_trans (by (repeat (first | (with_reducible assumption) | (with_reducible exact only_refl _ _) | (with_reducible refine only_drew ?_) | (with_reducible refine only_drewN ?_ _) | (with_reducible refine only_alloc ?_ _) | (with_reducible refine only_setNew ?_ (by first | (simp; done) | (simp; omega) | omega) _) | (with_reducible refine only_set ?_ _ _) | (with_reducible refine only_step ?_ (by with_reducible assumption))))) hg; replace hc := hcn; clear hcn; (first | replace z0 := only_frozen hg (lt_of_cell c0) z0 (by first | (simp; done) | (simp; omega) | omega) | replace z0 := only_frozen hg (below_lt (below_alloc (Below.refl _ _) _) (lt_of_cell c0)) (below_frozen (below_alloc (Below.refl _ _) _) (lt_of_cell c0) z0) (by first | (simp; done) | (simp; omega) | omega)); (first | replace z1 := only_frozen hg (lt_of_cell c1) z1 (by first | (simp; done) | (simp; omega) | omega) | replace z1 := only_frozen hg (below_lt (below_alloc (Below.refl _ _) _) (lt_of_cell c1)) (below_frozen (below_alloc (Below.refl _ _) _) (lt_of_cell c1) z1) (by first | (simp; done) | (simp; omega) | omega)); (first | replace z2 := only_frozen hg (lt_of_cell c2) z2 (by first | (simp; done) | (simp; omega) | omega) | replace z2 := only_frozen hg (below_lt (below_alloc (Below.refl _ _) _) (lt_of_cell c2)) (below_frozen (below_alloc (Below.refl _ _) _) (lt_of_cell c2) z2) (by first | (simp; done) | (simp; omega) | omega)); (first | replace c0 := only_cell hg c0 (by first | (simp; done) | (simp; omega) | omega) | replace c0 := only_cell hg (below_cell (below_alloc (Below.refl _ _) _) c0) (by first | (simp; done) | (simp; omega) | omega)); (first | replace c1 := only_cell hg c1 (by first | (simp; done) | (simp; omega) | omega) | replace c1 := only_cell hg (below_cell (below_alloc (Below.refl _ _) _) c1) (by first | (simp; done) | (simp; omega) | omega)); (first | replace c2 := only_cell hg c2 (by first | (simp; done) | (simp; omega) | omega) | replace c2 := only_cell hg (below_cell (below_alloc (Below.refl _ _) _) c2) (by first | (simp; done) | (simp; omega) | omega)); clear hg)
  have hx1 := hx1 (by decide)
  obtain ⟨t, ht⟩ : ∃ t, tolB n (1 + x) = t := ⟨_, rfl⟩
  have hT := fun w => hT n (1 + x) w
  have htb : 1 ≤ t ∧ t ≤ 1000 := by rw [← ht]; exact tolB_pos (by rw [inB_iff]; omega) (by rw [inB_iff]; omega)
  simp only [ht] at hT
  clear ht
  ((go_wp2_with fail); (with_reducible refine (hT _).mono ?_); rintro _ w1 ⟨rfl, hb⟩; have hO : w.grownBy w1 (some g) := only_step (by (repeat (first | (with_reducible assumption) | (with_reducible exact only_refl _ _) | (with_reducible refine only_drew ?_) | (with_reducible refine only_drewN ?_ _) | (with_reducible refine only_alloc ?_ _) | (with_reducible refine only_setNew ?_ (by first | (simp; done) | (simp; omega) | omega) _) | (with_reducible refine only_set ?_ _ _) | (with_reducible refine only_step ?_ (by with_reducible assumption))))) hb; have hc := Cur.below (by (repeat (first | (with_reducible assumption) | (with_reducible refine Cur.drew ?_) | (with_reducible refine Cur.drewN ?_ _) | (with_reducible refine Cur.set ?_ (by first | (simp; done) | (simp; omega) | omega) (by first | (simp; done) | (simp; omega) | omega) _) | (with_reducible refine Cur.below ?_ (below_alloc (Below.refl _ _) _)) | (with_reducible refine Cur.below ?_ (by with_reducible assumption))))) hb; (first | replace z0 := below_frozen hb (lt_of_cell c0) z0 | replace z0 := below_frozen hb (below_lt (below_alloc (Below.refl _ _) _) (lt_of_cell c0)) (below_frozen (below_alloc (Below.refl _ _) _) (lt_of_cell c0) z0)); (first | replace z1 := below_frozen hb (lt_of_cell c1) z1 | replace z1 := below_frozen hb (below_lt (below_alloc (Below.refl _ _) _) (lt_of_cell c1)) (below_frozen (below_alloc (Below.refl _ _) _) (lt_of_cell c1) z1)); (first | replace z2 := below_frozen hb (lt_of_cell c2) z2 | replace z2 := below_frozen hb (below_lt (below_alloc (Below.refl _ _) _) (lt_of_cell c2)) (below_frozen (below_alloc (Below.refl _ _) _) (lt_of_cell c2) z2)); (first | replace c0 := below_cell hb c0 | replace c0 := below_cell hb (below_cell (below_alloc (Below.refl _ _) _) c0)); (first | replace c1 := below_cell hb c1 | replace c1 := below_cell hb (below_cell (below_alloc (Below.refl _ _) _) c1)); (first | replace c2 := below_cell hb c2 | replace c2 := below_cell hb (below_cell (below_alloc (Below.refl _ _) _) c2)); clear hb)
  ((go_wp2_with fail); (with_reducible refine (spec_Below _ D g ?hcur _).mono ?_); (case hcur => (repeat (first | (with_reducible assumption) | (with_reducible refine Cur.drew ?_) | (with_reducible refine Cur.drewN ?_ _) | (with_reducible refine Cur.set ?_ (by first | (simp; done) | (simp; omega) | omega) (by first | (simp; done) | (simp; omega) | omega) _) | (with_reducible refine Cur.below ?_ (below_alloc (Below.refl _ _) _)) | (with_reducible refine Cur.below ?_ (by with_reducible assumption))))); rintro _ w1 ⟨a, rfl, ⟨ha0, ha1, _⟩, hcn, hg⟩; replace hO : w.grownBy w1 (some g) := only_trans (by (repeat (first | (with_reducible assumption) | (with_reducible exact only_refl _ _) | (with_reducible refine only_drew ?_) | (with_reducible refine only_drewN ?_ _) | (with_reducible refine only_alloc ?_ _) | (with_reducible refine only_setNew ?_ (by first | (simp; done) | (simp; omega) | omega) _) | (with_reducible refine only_set ?_ _ _) | (with_reducible refine only_step ?_ (by with_reducible assumption))))) hg; replace hc := hcn; clear hcn; (first | replace z0 := only_frozen hg (lt_of_cell c0) z0 (by first | (simp; done) | (simp; omega) | omega) | replace z0 := only_frozen hg (below_lt (below_alloc (Below.refl _ _) _) (lt_of_cell c0)) (below_frozen (below_alloc (Below.refl _ _) _) (lt_of_cell c0) z0) (by first | (simp; done) | (simp; omega) | omega)); (first | replace z1 := only_frozen hg (lt_of_cell c1) z1 (by first | (simp; done) | (simp; omega) | omega) | replace z1 := only_frozen hg (below_lt (below_alloc (Below.refl _ _) _) (lt_of_cell c1)) (below_frozen (below_alloc (Below.refl _ _) _) (lt_of_cell c1) z1) (by first | (simp; done) | (simp; omega) | omega)); (first | replace z2 := only_frozen hg (lt_of_cell c2) z2 (by first | (simp; done) | (simp; omega) | omega) | replace z2 := only_frozen hg (below_lt (below_alloc (Below.refl _ _) _) (lt_of_cell c2)) (below_frozen (below_alloc (Below.refl _ _) _) (lt_of_cell c2) z2) (by first | (simp; done) | (simp; omega) | omega)); (first | replace c0 := only_cell hg c0 (by first | (simp; done) | (simp; omega) | omega) | replace c0 := only_cell hg (below_cell (below_alloc (Below.refl _ _) _) c0) (by first | (simp; done) | (simp; omega) | omega)); (first | replace c1 := only_cell hg c1 (by first | (simp; done) | (simp; omega) | omega) | replace c1 := only_cell hg (below_cell (below_alloc (Below.refl _ _) _) c1) (by first | (simp; done) | (simp; omega) | omega)); (first | replace c2 := only_cell hg c2 (by first | (simp; done) | (simp; omega) | omega) | replace c2 := only_cell hg (below_cell (below_alloc (Below.refl _ _) _) c2) (by first | (simp; done) | (simp; omega) | omega)); clear hg)
  have ha1 := ha1 (by omega)
  ((go_wp2_with fail); (with_reducible refine (spec_Below _ D g ?hcur _).mono ?_); (case hcur => (repeat (first | (with_reducible assumption) | (with_reducible refine Cur.drew ?_) | (with_reducible refine Cur.drewN ?_ _) | (with_reducible refine Cur.set ?_ (by first | (simp; done) | (simp; omega) | omega) (by first | (simp; done) | (simp; omega) | omega) _) | (with_reducible refine Cur.below ?_ (below_alloc (Below.refl _ _) _)) | (with_reducible refine Cur.below ?_ (by with_reducible assumption))))); rintro _ w1 ⟨b, rfl, ⟨hb0, hb1, _⟩, hcn, hg⟩; replace hO : w.grownBy w1 (some g) := only_trans (by (repeat (first | (with_reducible assumption) | (with_reducible exact only_refl _ _) | (with_reducible refine only_drew ?_) | (with_reducible refine only_drewN ?_ _) | (with_reducible refine only_alloc ?_ _) | (with_reducible refine only_setNew ?_ (by first | (simp; done) | (simp; omega) | omega) _) | (with_reducible refine only_set ?_ _ _) | (with_reducible refine only_step ?_ (by with_reducible assumption))))) hg; replace hc := hcn; clear hcn; (first | replace z0 := only_frozen hg (lt_of_cell c0) z0 (by first | (simp; done) | (simp; omega) | omega) | replace z0 := only_frozen hg (below_lt (below_alloc (Below.refl _ _) _) (lt_of_cell c0)) (below_frozen (below_alloc (Below.refl _ _) _) (lt_of_cell c0) z0) (by first | (simp; done) | (simp; omega) | omega)); (first | replace z1 := only_frozen hg (lt_of_cell c1) z1 (by first | (simp; done) | (simp; omega) | omega) | replace z1 := only_frozen hg (below_lt (below_alloc (Below.refl _ _) _) (lt_of_cell c1)) (below_frozen (below_alloc (Below.refl _ _) _) (lt_of_cell c1) z1) (by first | (simp; done) | (simp; omega) | omega)); (first | replace z2 := only_frozen hg (lt_of_cell c2) z2 (by first | (simp; done) | (simp; omega) | omega) | replace z2 := only_frozen hg (below_lt (below_alloc (Below.refl _ _) _) (lt_of_cell c2)) (below_frozen (below_alloc (Below.refl _ _) _) (lt_of_cell c2) z2) (by first | (simp; done) | (simp; omega) | omega)); (first | replace c0 := only_cell hg c0 (by first | (simp; done) | (simp; omega) | omega) | replace c0 := only_cell hg (below_cell (below_alloc (Below.refl _ _) _) c0) (by first | (simp; done) | (simp; omega) | omega)); (first | replace c1 := only_cell hg c1 (by first | (simp; done) | (simp; omega) | omega) | replace c1 := only_cell hg (below_cell (below_alloc (Below.refl _ _) _) c1) (by first | (simp; done) | (simp; omega) | omega)); (first | replace c2 := only_cell hg c2 (by first | (simp; done) | (simp; omega) | omega) | replace c2 := only_cell hg (below_cell (below_alloc (Below.refl _ _) _) c2) (by first | (simp; done) | (simp; omega) | omega)); clear hg)
  have hb1 := hb1 (by omega)
  go_wp2_with fail
  refine bodyPost_ret (v := .agg #[.int .i64 n, .int .i64 (a - 2 * t), .int .i64 (a - 2 * t + b)]) (by simp [results, Try.results61, go_sem, *]) rfl ?_
  exact ⟨n, a - 2 * t, a - 2 * t + b, rfl, by omega, by (repeat (first | (with_reducible assumption) | (with_reducible refine Cur.drew ?_) | (with_reducible refine Cur.drewN ?_ _) | (with_reducible refine Cur.set ?_ (by first | (simp; done) | (simp; omega) | omega) (by first | (simp; done) | (simp; omega) | omega) _) | (with_reducible refine Cur.below ?_ (below_alloc (Below.refl _ _) _)) | (with_reducible refine Cur.below ?_ (by with_reducible assumption)))), by (repeat (first | (with_reducible assumption) | (with_reducible exact only_refl _ _) | (with_reducible refine only_drew ?_) | (with_reducible refine only_drewN ?_ _) | (with_reducible refine only_alloc ?_ _) | (with_reducible refine only_setNew ?_ (by first | (simp; done) | (simp; omega) | omega) _) | (with_reducible refine only_set ?_ _ _) | (with_reducible refine only_step ?_ (by with_reducible assumption))))⟩
def FB (w wx : World) (D g p : Nat) (n a b c d : Int) : Prop := Rw wx w.heap.size 54 #[.int .i64 0, .int .i64 0, .int .i64 0] ∧ Rw wx (w.heap.size + 1) 54 #[.int .i64 0, .int .i64 0, .int .i64 0] ∧
  Rw wx p 54 #[.int .i64 n, .int .i64 a, .int .i64 b] ∧ Rw wx (p + 1) 54 #[.int .i64 n, .int .i64 c, .int .i64 d] ∧ Cur wx D g ∧ w.grownBy wx (some g)
theorem spec_Findings (A : Option Addr) (n k : Nat) (v : Nat → Int) (w : World) (hn : n ≤ 1048576) (hF : Fb w A n v) : Calls Try.prog 32 #[.slice A n k] w fun e w' => ∃ n a b c d : Int, e = .returned (.tuple #[.agg #[.int .i64 n, .int .i64 a, .int .i64 b], .agg #[.int .i64 n, .int .i64 c, .int .i64 d]]) ∧
    (1 ≤ n ∧ n ≤ 100000 ∧ -2000 ≤ a ∧ a ≤ b ∧ b ≤ 4000 ∧ -2003 ≤ c ∧ c ≤ d ∧ d ≤ 5000) ∧ Below w.heap.size w w' := by
  have HA := Lib.hid hF.lt
  have HF := Lib.hid hF; clear hF
  have hB : Below w.heap.size w ((w.alloc (.cells #[.int .i64 0, .int .i64 0, .int .i64 0] 54)).alloc (.cells #[.int .i64 0, .int .i64 0, .int .i64 0] 54)) := below_alloc (below_alloc (Below.refl _ _) _) _
  have r0 : Rw ((w.alloc (.cells #[.int .i64 0, .int .i64 0, .int .i64 0] 54)).alloc (.cells #[.int .i64 0, .int .i64 0, .int .i64 0] 54)) w.heap.size 54 #[.int .i64 0, .int .i64 0, .int .i64 0] := (Rw.new _ _ _).below (below_alloc (Below.refl _ _) _)
  have r1 : Rw ((w.alloc (.cells #[.int .i64 0, .int .i64 0, .int .i64 0] 54)).alloc (.cells #[.int .i64 0, .int .i64 0, .int .i64 0] 54)) (w.heap.size + 1) 54 #[.int .i64 0, .int .i64 0, .int .i64 0] := by simpa using Rw.new (w.alloc (.cells #[.int .i64 0, .int .i64 0, .int .i64 0] 54)) _ _
  go_enter Try.func32, Try.ntmps32
  go_wp2_with fail
  with_reducible refine (spec_New A n k v _ hn (HF.out.below hB) w.heap.size hB.size HA.out).mono ?_
  rintro _ w1 ⟨g, rfl, hg0, hc, hb⟩
  have hg1 : w.heap.size + 1 < g := by simp at hg0; omega
  clear hg0
  replace r0 := r0.below hb
  replace r1 := r1.below hb
  replace hB := below_step hB hb
  clear hb
  have hO : w.grownBy w1 (some g) := only_of_below hB
  have hs0 := hB.size
  clear hB
  ((go_wp2_with fail); (with_reducible refine (spec_l28 _ _ g ?hcur hs0).mono ?_); (case hcur => (repeat (first | (with_reducible assumption) | (with_reducible refine Cur.drew ?_) | (with_reducible refine Cur.drewN ?_ _) | (with_reducible refine Cur.set ?_ (by first | (simp; done) | (simp; omega) | omega) (by first | (simp; done) | (simp; omega) | omega) _) | (with_reducible refine Cur.below ?_ (below_alloc (Below.refl _ _) _)) | (with_reducible refine Cur.below ?_ (by with_reducible assumption))))); rintro _ w1 ⟨n, a, b, rfl, ⟨hn1, hn2, ha, hab, hb1⟩, hcn, hg⟩; replace hO : w.grownBy w1 (some g) := only_trans (by (repeat (first | (with_reducible assumption) | (with_reducible exact only_refl _ _) | (with_reducible refine only_drew ?_) | (with_reducible refine only_drewN ?_ _) | (with_reducible refine only_alloc ?_ _) | (with_reducible refine only_setNew ?_ (by first | (simp; done) | (simp; omega) | omega) _) | (with_reducible refine only_set ?_ _ _) | (with_reducible refine only_step ?_ (by with_reducible assumption))))) hg; replace hc := hcn; clear hcn; (first | replace r0 := only_row hg r0 (by first | (simp; done) | (simp; omega) | omega) | replace r0 := only_row hg (Rw.below r0 (below_alloc (Below.refl _ _) _)) (by first | (simp; done) | (simp; omega) | omega)); (first | replace r1 := only_row hg r1 (by first | (simp; done) | (simp; omega) | omega) | replace r1 := only_row hg (Rw.below r1 (below_alloc (Below.refl _ _) _)) (by first | (simp; done) | (simp; omega) | omega)); clear hg)
  clear hs0
  have hs1 := hO.size
  have hs3 := r1.lt
  have hgl := hc.lt
  have r2 : Rw ((w1.alloc (.cells #[.int .i64 n, .int .i64 a, .int .i64 b] 54)).alloc (.cells #[.int .i64 n, .int .i64 a, .int .i64 b] 54)) w1.heap.size 54 #[.int .i64 n, .int .i64 a, .int .i64 b] := (Rw.new _ _ _).below (below_alloc (Below.refl _ _) _)
  have r3 : Rw ((w1.alloc (.cells #[.int .i64 n, .int .i64 a, .int .i64 b] 54)).alloc (.cells #[.int .i64 n, .int .i64 a, .int .i64 b] 54)) (w1.heap.size + 1) 54 #[.int .i64 n, .int .i64 a, .int .i64 b] := by simpa using Rw.new (w1.alloc (.cells #[.int .i64 n, .int .i64 a, .int .i64 b] 54)) _ _
  have hb := below_alloc (below_alloc (Below.refl w1.heap.size w1) (.cells #[.int .i64 n, .int .i64 a, .int .i64 b] 54)) (.cells #[.int .i64 n, .int .i64 a, .int .i64 b] 54)
  replace r0 := r0.below hb
  replace r1 := r1.below hb
  replace hc := hc.below hb
  replace hO := only_step hO hb
  clear hb
  go_wp2_with fail
  obtain ⟨p, hp⟩ : ∃ p, w1.heap.size = p := ⟨_, rfl⟩
  rw [hp] at r2 r3 hs1 hs3 hgl
  simp only [hp]
  clear hp
  obtain ⟨W, hW⟩ : ∃ W, W = ((w1.alloc (.cells #[.int .i64 n, .int .i64 a, .int .i64 b] 54)).alloc (.cells #[.int .i64 n, .int .i64 a, .int .i64 b] 54)) := ⟨_, rfl⟩
  rw [← hW] at r0 r1 r2 r3 hc hO
  rw [← hW]
  clear hW
  go_cut [] (fun wx => ∃ c : Int, (a - 3 ≤ c ∧ c ≤ a + 3) ∧ FB w wx w.heap.size g p n a b c b)
  case first =>
    have c7 := r2.cell (i := 1) rfl
    have c10 := r3.cell (i := 1) rfl
    have z10 := r3.frozen 1
    go_region_with (
    (go_at_call 62; (with_reducible refine (spec_Below _ w.heap.size g ?hcur _).mono ?_); (case hcur => (repeat (first | (with_reducible assumption) | (with_reducible refine Cur.drew ?_) | (with_reducible refine Cur.drewN ?_ _) | (with_reducible refine Cur.set ?_ (by first | (simp; done) | (simp; omega) | omega) (by first | (simp; done) | (simp; omega) | omega) _) | (with_reducible refine Cur.below ?_ (below_alloc (Below.refl _ _) _)) | (with_reducible refine Cur.below ?_ (by with_reducible assumption))))); rintro _ w1 ⟨x, rfl, ⟨hx0, hx1, _⟩, hcn, hg⟩; replace hO : w.grownBy w1 (some g) := only_trans (by (repeat (first | (with_reducible assumption) | (with_reducible exact only_refl _ _) | (with_reducible refine only_drew ?_) | (with_reducible refine only_drewN ?_ _) | (with_reducible refine only_alloc ?_ _) | (with_reducible refine only_setNew ?_ (by first | (simp; done) | (simp; omega) | omega) _) | (with_reducible refine only_set ?_ _ _) | (with_reducible refine only_step ?_ (by with_reducible assumption))))) hg; replace hc := hcn; clear hcn; (first | replace r0 := only_row hg r0 (by first | (simp; done) | (simp; omega) | omega) | replace r0 := only_row hg (Rw.below r0 (below_alloc (Below.refl _ _) _)) (by first | (simp; done) | (simp; omega) | omega)); (first | replace r1 := only_row hg r1 (by first | (simp; done) | (simp; omega) | omega) | replace r1 := only_row hg (Rw.below r1 (below_alloc (Below.refl _ _) _)) (by first | (simp; done) | (simp; omega) | omega)); (first | replace r2 := only_row hg r2 (by first | (simp; done) | (simp; omega) | omega) | replace r2 := only_row hg (Rw.below r2 (below_alloc (Below.refl _ _) _)) (by first | (simp; done) | (simp; omega) | omega)); (first | replace r3 := only_row hg r3 (by first | (simp; done) | (simp; omega) | omega) | replace r3 := only_row hg (Rw.below r3 (below_alloc (Below.refl _ _) _)) (by first | (simp; done) | (simp; omega) | omega)); (first | replace z10 := only_frozen hg (lt_of_cell c10) z10 (by first | (simp; done) | (simp; omega) | omega) | replace z10 := only_frozen hg (below_lt (below_alloc (Below.refl _ _) _) (lt_of_cell c10)) (below_frozen (below_alloc (Below.refl _ _) _) (lt_of_cell c10) z10) (by first | (simp; done) | (simp; omega) | omega)); (first | replace c7 := only_cell hg c7 (by first | (simp; done) | (simp; omega) | omega) | replace c7 := only_cell hg (below_cell (below_alloc (Below.refl _ _) _) c7) (by first | (simp; done) | (simp; omega) | omega)); (first | replace c10 := only_cell hg c10 (by first | (simp; done) | (simp; omega) | omega) | replace c10 := only_cell hg (below_cell (below_alloc (Below.refl _ _) _) c10) (by first | (simp; done) | (simp; omega) | omega)); clear hg)
    )
    all_goals
      have hx1 := hx1 (by decide)
      have e1 : IntKind.i64.wrap (IntKind.i64.wrap (a + x) - 3) = a + x - 3 := by simp only [IntKind.wrap_i64]; omega
      rw [e1]
      clear e1
      go_wp2_with fail
      go_meet
      exact ⟨a + x - 3, by omega, r0.far (by simp; omega) _, r1.far (by simp; omega) _, r2.far (by simp) _, r3.set 1 _, hc.set (by simp; omega) (by simp; omega) _, only_setNew hO (by simp; omega) _⟩
  case rest =>
    obtain ⟨c, hcb, r0, r1, r2, r3, hc, hO⟩ := hcut
    go_wp2_with fail
    go_cut [] (fun wx => ∃ c d : Int, (a - 3 ≤ c ∧ c ≤ a + 3 ∧ c ≤ d ∧ d ≤ c + 8) ∧ FB w wx w.heap.size g p n a b c d)
    case first =>
      have c10 := r3.cell (i := 1) rfl
      have c11 := r3.cell (i := 2) rfl
      have z11 := r3.frozen 2
      go_region_with (
      (go_at_call 62; (with_reducible refine (spec_Below _ w.heap.size g ?hcur _).mono ?_); (case hcur => (repeat (first | (with_reducible assumption) | (with_reducible refine Cur.drew ?_) | (with_reducible refine Cur.drewN ?_ _) | (with_reducible refine Cur.set ?_ (by first | (simp; done) | (simp; omega) | omega) (by first | (simp; done) | (simp; omega) | omega) _) | (with_reducible refine Cur.below ?_ (below_alloc (Below.refl _ _) _)) | (with_reducible refine Cur.below ?_ (by with_reducible assumption))))); rintro _ w1 ⟨y, rfl, ⟨hy0, hy1, _⟩, hcn, hg⟩; replace hO : w.grownBy w1 (some g) := only_trans (by (repeat (first | (with_reducible assumption) | (with_reducible exact only_refl _ _) | (with_reducible refine only_drew ?_) | (with_reducible refine only_drewN ?_ _) | (with_reducible refine only_alloc ?_ _) | (with_reducible refine only_setNew ?_ (by first | (simp; done) | (simp; omega) | omega) _) | (with_reducible refine only_set ?_ _ _) | (with_reducible refine only_step ?_ (by with_reducible assumption))))) hg; replace hc := hcn; clear hcn; (first | replace r0 := only_row hg r0 (by first | (simp; done) | (simp; omega) | omega) | replace r0 := only_row hg (Rw.below r0 (below_alloc (Below.refl _ _) _)) (by first | (simp; done) | (simp; omega) | omega)); (first | replace r1 := only_row hg r1 (by first | (simp; done) | (simp; omega) | omega) | replace r1 := only_row hg (Rw.below r1 (below_alloc (Below.refl _ _) _)) (by first | (simp; done) | (simp; omega) | omega)); (first | replace r2 := only_row hg r2 (by first | (simp; done) | (simp; omega) | omega) | replace r2 := only_row hg (Rw.below r2 (below_alloc (Below.refl _ _) _)) (by first | (simp; done) | (simp; omega) | omega)); (first | replace r3 := only_row hg r3 (by first | (simp; done) | (simp; omega) | omega) | replace r3 := only_row hg (Rw.below r3 (below_alloc (Below.refl _ _) _)) (by first | (simp; done) | (simp; omega) | omega)); (first | replace z11 := only_frozen hg (lt_of_cell c11) z11 (by first | (simp; done) | (simp; omega) | omega) | replace z11 := only_frozen hg (below_lt (below_alloc (Below.refl _ _) _) (lt_of_cell c11)) (below_frozen (below_alloc (Below.refl _ _) _) (lt_of_cell c11) z11) (by first | (simp; done) | (simp; omega) | omega)); (first | replace c10 := only_cell hg c10 (by first | (simp; done) | (simp; omega) | omega) | replace c10 := only_cell hg (below_cell (below_alloc (Below.refl _ _) _) c10) (by first | (simp; done) | (simp; omega) | omega)); (first | replace c11 := only_cell hg c11 (by first | (simp; done) | (simp; omega) | omega) | replace c11 := only_cell hg (below_cell (below_alloc (Below.refl _ _) _) c11) (by first | (simp; done) | (simp; omega) | omega)); clear hg)
      )
      all_goals
        have hy1 := hy1 (by decide)
        have e1 : IntKind.i64.wrap (c + y) = c + y := by simp only [IntKind.wrap_i64]; omega
        rw [e1]
        clear e1
        go_wp2_with fail
        go_meet
        exact ⟨c, c + y, by omega, r0.far (by simp; omega) _, r1.far (by simp; omega) _, r2.far (by simp) _, r3.set 2 _, hc.set (by simp; omega) (by simp; omega) _, only_setNew hO (by simp; omega) _⟩
    case rest =>
      obtain ⟨c, d, hcd, r0, r1, r2, r3, hc, hO⟩ := hcut
      have c0 := r0.cell (i := 0) rfl
      have c1 := r0.cell (i := 1) rfl
      have c2 := r0.cell (i := 2) rfl
      have c3 := r1.cell (i := 0) rfl
      have c4 := r1.cell (i := 1) rfl
      have c5 := r1.cell (i := 2) rfl
      have c6 := r2.cell (i := 0) rfl
      have c7 := r2.cell (i := 1) rfl
      have c8 := r2.cell (i := 2) rfl
      have c9 := r3.cell (i := 0) rfl
      have c10 := r3.cell (i := 1) rfl
      have c11 := r3.cell (i := 2) rfl
      have z0 := r0.frozen 0
      have z1 := r0.frozen 1
      have z2 := r0.frozen 2
      have z3 := r1.frozen 0
      have z4 := r1.frozen 1
      have z5 := r1.frozen 2
      have HO := Lib.hid hO; clear hO
      have R0 := Lib.hid r0; clear r0
      have R1 := Lib.hid r1; clear r1
      clear r2 r3 hc
      go_wp2_with fail
      go_region
      go_wp2_with fail
      obtain ⟨wS, hS⟩ : ∃ wS, wS = ((((((wc.setCell ⟨w.heap.size, 0, none⟩ (.int .i64 n)).setCell ⟨w.heap.size, 1, none⟩ (.int .i64 a)).setCell ⟨w.heap.size, 2, none⟩ (.int .i64 b)).setCell ⟨w.heap.size + 1, 0, none⟩ (.int .i64 n)).setCell ⟨w.heap.size + 1, 1, none⟩ (.int .i64 c)).setCell ⟨w.heap.size + 1, 2, none⟩ (.int .i64 d)).drew := ⟨_, rfl⟩
      have q0 : Rw wS w.heap.size 54 #[.int .i64 n, .int .i64 a, .int .i64 b] := by
        rw [hS]
        exact ((R0.out.set3 _ _ _).far3 (by omega) _ _ _ _ _ _).drew
      have q1 : Rw wS (w.heap.size + 1) 54 #[.int .i64 n, .int .i64 c, .int .i64 d] := by
        rw [hS]
        exact ((R1.out.far3 (by omega) _ _ _ _ _ _).set3 _ _ _).drew
      have hO : w.grownBy wS (some g) := by
        have hO := HO.out
        rw [hS]
        (repeat (first | (with_reducible assumption) | (with_reducible exact only_refl _ _) | (with_reducible refine only_drew ?_) | (with_reducible refine only_drewN ?_ _) | (with_reducible refine only_alloc ?_ _) | (with_reducible refine only_setNew ?_ (by first | (simp; done) | (simp; omega) | omega) _) | (with_reducible refine only_set ?_ _ _) | (with_reducible refine only_step ?_ (by with_reducible assumption))))
      rw [← hS]
      clear hS c0 c1 c2 c3 c4 c5 c6 c7 c8 c9 c10 c11 z0 z1 z2 z3 z4 z5
      have c0 := q0.cell (i := 0) rfl
      have c1 := q0.cell (i := 1) rfl
      have c2 := q0.cell (i := 2) rfl
      have c3 := q1.cell (i := 0) rfl
      have c4 := q1.cell (i := 1) rfl
      have c5 := q1.cell (i := 2) rfl
      refine bodyPost_ret (v := .tuple #[.agg #[.int .i64 n, .int .i64 a, .int .i64 b], .agg #[.int .i64 n, .int .i64 c, .int .i64 d]]) (by simp [results, Try.results32, go_sem, c0, c1, c2, c3, c4, c5]) rfl ?_
      exact ⟨n, a, b, c, d, rfl, by omega, only_below (Below.refl _ _) hO (by omega)⟩
end Go.Proofs.Ytoalpihlflifmaa
