/- FnSamples: the draw of a plan, what holds of all plans of at most 14 pieces, and the law's walk. -/
import Derived.Test.YtoalpihlflifmaaDraw
import Derived.Test.YtoalpihlflifmaaAccept
namespace Go.Proofs.Ytoalpihlflifmaa
open Go.RowKit
set_option linter.unusedSimpArgs false
set_option linter.unusedVariables false
set_option maxHeartbeats 4000000
def chkB (L S A b : Nat) : Bool := decide (0 ≤ countB L S A b) && decide (countB L S A b ≤ chooseB L S) && (decide (b = 0) || decide (countB L S A b ≤ countB L S A ((b : Int) - 1))) && (decide ((b : Int) ≤ greatB L S A) == decide (countB L S A b = chooseB L S))
def chkE (L S A b : Nat) : Bool := decide (countB L ((L : Int) - b + 1) 0 b = 0) && (decide ((L : Int) - b + 1 = 1) || decide (0 < countB L ((L : Int) - b + 1 - 1) 0 b)) &&
  inB (countB L S A b) (-1000000000000) 1000000000000 && inB (chooseB L S) 1 1000000000000 && redO (countB L S A b) (chooseB L S) && decide (rT (countB L S A b) (chooseB L S) * chooseB L S = countB L S A b * rB (countB L S A b) (chooseB L S))
def chkP (L S A : Nat) : Bool := decide ((A : Int) ≤ greatB L S A) && ((List.range (L + 1)).all fun b => chkB L S A b) && ((List.range L).all fun b => chkE L S A (b + 1))
set_option maxRecDepth 100000 in
theorem chk_all : ((List.range 14).all fun L => (List.range (L + 1)).all fun S => (List.range (min 4 (S + 2))).all fun A => chkP (L + 1) (S + 1) A) = true := by decide +kernel
theorem rT_bd {t b : Int} (h : redO t b = true) : 0 ≤ rB t b ∧ rB t b ≤ 1000000 ∧ -1000000 ≤ rT t b ∧ rT t b ≤ 1000000 := by
  unfold redO at h
  obtain ⟨h1, h2, _⟩ := frB_iff.1 h
  omega
theorem sample_all {L S A : Nat} (h1 : 1 ≤ L ∧ L ≤ 14) (h2 : 1 ≤ S ∧ S ≤ L) (h3 : A < min 4 (S + 1)) : chkP L S A = true := by
  have h := chk_all
  rw [List.all_eq_true] at h
  have h := h (L - 1) (by simp; omega)
  rw [List.all_eq_true] at h
  have h := h (S - 1) (by simp; omega)
  rw [List.all_eq_true] at h
  have h := h A (by simp; omega)
  rw [show L - 1 + 1 = L by omega, show S - 1 + 1 = S by omega] at h
  exact h
theorem sample_b {L S A b : Nat} (h : chkP L S A = true) (hb : b ≤ L) : 0 ≤ countB L S A b ∧ countB L S A b ≤ chooseB L S ∧ (b = 0 ∨ countB L S A b ≤ countB L S A ((b : Int) - 1)) ∧ ((b : Int) ≤ greatB L S A ∧ countB L S A b = chooseB L S ∨ greatB L S A < b ∧ countB L S A b < chooseB L S) := by
  simp only [chkP, Bool.and_eq_true] at h
  have h := h.1.2
  rw [List.all_eq_true] at h
  have h := h b (by simp; omega)
  simp only [chkB, Bool.and_eq_true, Bool.or_eq_true, decide_eq_true_eq, beq_iff_eq] at h
  obtain ⟨⟨⟨g1, g2⟩, g3⟩, g4⟩ := h
  refine ⟨g1, g2, g3, ?_⟩
  have g5 := decide_eq_decide.1 g4
  by_cases h5 : (b : Int) ≤ greatB L S A
  · exact Or.inl ⟨h5, g5.1 h5⟩
  · exact Or.inr ⟨by omega, by have := fun h => h5 (g5.2 h); omega⟩
theorem sample_g {L S A : Nat} (h : chkP L S A = true) : (A : Int) ≤ greatB L S A := by
  simp only [chkP, Bool.and_eq_true, decide_eq_true_eq] at h
  exact h.1.1
theorem sample_e {L S A b : Nat} (h : chkP L S A = true) (hb : 1 ≤ b ∧ b ≤ L) : countB L ((L : Int) - b + 1) 0 b = 0 ∧ ((L : Int) - b + 1 = 1 ∨ 0 < countB L ((L : Int) - b + 1 - 1) 0 b) ∧
    ∃ X Y : Int, accV L S A b = .tuple #[.agg #[.int .i64 X, .int .i64 Y], .bool true] ∧ X * chooseB L S = countB L S A b * Y := by
  have hnn := (sample_b h (b := b) (by omega)).1
  simp only [chkP, Bool.and_eq_true] at h
  have h := h.2
  rw [List.all_eq_true] at h
  have h := h (b - 1) (by simp; omega)
  rw [show b - 1 + 1 = b by omega] at h
  simp only [chkE, Bool.and_eq_true, Bool.or_eq_true, decide_eq_true_eq] at h
  obtain ⟨⟨⟨⟨⟨g1, g2⟩, g3⟩, g4⟩, g5⟩, g6⟩ := h
  have k4 := inB_iff.1 g4
  refine ⟨g1, g2, _, _, ?_, g6⟩
  unfold accV
  have hn : ¬ countB L S A b = -1 := by omega
  rw [if_neg hn, mkV_yes (by omega) g3 (by simp only [inB_iff] at g4 ⊢; omega), redV_yes g5]
theorem impl_Least (n k : Int) (h1 : 1 ≤ n ∧ n ≤ 30) (h2 : 1 ≤ k ∧ k ≤ n) (w : World) : Calls Try.prog 43 #[.int .i64 n, .int .i64 k] w fun e w' => e = .returned (.int .i64 (n - k + 1)) ∧ Below w.heap.size w w' := by
  go_enter Try.func43, Try.ntmps43
  go_wp2
  go_ret
  exact ⟨rfl, by (repeat (first | exact Below.refl _ _ | assumption | (refine Below.drew ?_) | (refine below_alloc ?_ _) | (refine Below.setCell ?_ (by first | (simp; done) | (simp; omega) | omega | (have hq := hB.size; (try simp at hq ⊢); omega)) _) | (refine Below.alloc ?_ (by first | (simp; done) | (simp; omega) | omega | (have hq := hB.size; (try simp at hq ⊢); omega)) _) | (refine below_step ?_ (by assumption))))⟩
theorem spec_l29 (w : World) (D g : Nat) (hc : Cur w D g) (hDw : D ≤ w.heap.size) : Calls Try.prog 64 #[.pointer (some ⟨g, 0, none⟩)] w fun e w' => ∃ L S A : Nat, e = .returned (.agg #[.int .i64 L, .int .i64 S, .int .i64 A]) ∧
    ((1 ≤ L ∧ L ≤ 14) ∧ (1 ≤ S ∧ S ≤ L) ∧ A < min 4 (S + 1)) ∧ Cur w' D g ∧ w.grownBy w' (some g) := by
  have hgl := hc.lt
  have r0 : Rw (w.alloc (.cells #[.int .i64 0, .int .i64 0, .int .i64 0] 28)) w.heap.size 28 #[.int .i64 0, .int .i64 0, .int .i64 0] := Rw.new _ _ _
  have hO : w.grownBy (w.alloc (.cells #[.int .i64 0, .int .i64 0, .int .i64 0] 28)) (some g) := only_alloc (only_refl _ _) _
  have hc : Cur (w.alloc (.cells #[.int .i64 0, .int .i64 0, .int .i64 0] 28)) D g := hc.below (below_alloc (Below.refl _ _) _)
  go_enter Try.func64, Try.ntmps64
  ((go_wp2_with fail); (with_reducible refine (spec_Below _ D g ?hcur _).mono ?_); (case hcur => (repeat (first | (with_reducible assumption) | (with_reducible refine Cur.drew ?_) | (with_reducible refine Cur.drewN ?_ _) | (with_reducible refine Cur.set ?_ (by first | (simp; done) | (simp; omega) | omega) (by first | (simp; done) | (simp; omega) | omega) _) | (with_reducible refine Cur.below ?_ (below_alloc (Below.refl _ _) _)) | (with_reducible refine Cur.below ?_ (by with_reducible assumption))))); rintro _ w1 ⟨x, rfl, ⟨hx0, hx1, _⟩, hcn, hg⟩; replace hO : w.grownBy w1 (some g) := only_trans (by (repeat (first | (with_reducible assumption) | (with_reducible exact only_refl _ _) | (with_reducible refine only_drew ?_) | (with_reducible refine only_drewN ?_ _) | (with_reducible refine only_alloc ?_ _) | (with_reducible refine only_setNew ?_ (by first | (simp; done) | (simp; omega) | omega) _) | (with_reducible refine only_set ?_ _ _) | (with_reducible refine only_step ?_ (by with_reducible assumption))))) hg; replace hc := hcn; clear hcn; (first | replace r0 := only_row hg r0 (by first | (simp; done) | (simp; omega) | omega) | replace r0 := only_row hg (Rw.below r0 (below_alloc (Below.refl _ _) _)) (by first | (simp; done) | (simp; omega) | omega)); clear hg)
  have hx1 := hx1 (by decide)
  ((go_wp2_with fail); (with_reducible refine (spec_Below _ D g ?hcur _).mono ?_); (case hcur => (repeat (first | (with_reducible assumption) | (with_reducible refine Cur.drew ?_) | (with_reducible refine Cur.drewN ?_ _) | (with_reducible refine Cur.set ?_ (by first | (simp; done) | (simp; omega) | omega) (by first | (simp; done) | (simp; omega) | omega) _) | (with_reducible refine Cur.below ?_ (below_alloc (Below.refl _ _) _)) | (with_reducible refine Cur.below ?_ (by with_reducible assumption))))); rintro _ w1 ⟨y, rfl, ⟨hy0, hy1, _⟩, hcn, hg⟩; replace hO : w.grownBy w1 (some g) := only_trans (by (repeat (first | (with_reducible assumption) | (with_reducible exact only_refl _ _) | (with_reducible refine only_drew ?_) | (with_reducible refine only_drewN ?_ _) | (with_reducible refine only_alloc ?_ _) | (with_reducible refine only_setNew ?_ (by first | (simp; done) | (simp; omega) | omega) _) | (with_reducible refine only_set ?_ _ _) | (with_reducible refine only_step ?_ (by with_reducible assumption))))) hg; replace hc := hcn; clear hcn; (first | replace r0 := only_row hg r0 (by first | (simp; done) | (simp; omega) | omega) | replace r0 := only_row hg (Rw.below r0 (below_alloc (Below.refl _ _) _)) (by first | (simp; done) | (simp; omega) | omega)); clear hg)
  have hy1 := hy1 (by omega)
  rcases (by omega : y < 2 ∨ (2 ≤ y ∧ y ≤ 2) ∨ 2 < y) with hy2 | hy2 | hy2
  all_goals
    ((go_wp2_with fail); (with_reducible refine (spec_Below _ D g ?hcur _).mono ?_); (case hcur => (repeat (first | (with_reducible assumption) | (with_reducible refine Cur.drew ?_) | (with_reducible refine Cur.drewN ?_ _) | (with_reducible refine Cur.set ?_ (by first | (simp; done) | (simp; omega) | omega) (by first | (simp; done) | (simp; omega) | omega) _) | (with_reducible refine Cur.below ?_ (below_alloc (Below.refl _ _) _)) | (with_reducible refine Cur.below ?_ (by with_reducible assumption))))); rintro _ w1 ⟨z, rfl, ⟨hz0, hz1, _⟩, hcn, hg⟩; replace hO : w.grownBy w1 (some g) := only_trans (by (repeat (first | (with_reducible assumption) | (with_reducible exact only_refl _ _) | (with_reducible refine only_drew ?_) | (with_reducible refine only_drewN ?_ _) | (with_reducible refine only_alloc ?_ _) | (with_reducible refine only_setNew ?_ (by first | (simp; done) | (simp; omega) | omega) _) | (with_reducible refine only_set ?_ _ _) | (with_reducible refine only_step ?_ (by with_reducible assumption))))) hg; replace hc := hcn; clear hcn; (first | replace r0 := only_row hg r0 (by first | (simp; done) | (simp; omega) | omega) | replace r0 := only_row hg (Rw.below r0 (below_alloc (Below.refl _ _) _)) (by first | (simp; done) | (simp; omega) | omega)); clear hg)
    have hz1 := hz1 (by omega)
    have c0 := r0.cell (i := 0) rfl
    have c1 := r0.cell (i := 1) rfl
    have c2 := r0.cell (i := 2) rfl
    have z0 := r0.frozen 0
    have z1 := r0.frozen 1
    have z2 := r0.frozen 2
    obtain ⟨X, hX⟩ := Int.eq_ofNat_of_zero_le hx0
    obtain ⟨Y, hY⟩ := Int.eq_ofNat_of_zero_le hy0
    obtain ⟨Z, hZ⟩ := Int.eq_ofNat_of_zero_le hz0
    subst hX hY hZ
    go_wp2_with fail
    obtain ⟨wS, hS⟩ : ∃ wS, wS = (((w1.setCell ⟨w.heap.size, 0, none⟩ (.int .i64 (1 + (X : Int)))).setCell ⟨w.heap.size, 1, none⟩ (.int .i64 (1 + (Y : Int)))).setCell ⟨w.heap.size, 2, none⟩ (.int .i64 (Z : Int))) := ⟨_, rfl⟩
    have q0 : Rw wS w.heap.size 28 #[.int .i64 (1 + (X : Int)), .int .i64 (1 + (Y : Int)), .int .i64 (Z : Int)] := by
      rw [hS]
      exact r0.set3 _ _ _
    replace hO : w.grownBy wS (some g) := by
      rw [hS]
      (repeat (first | (with_reducible assumption) | (with_reducible exact only_refl _ _) | (with_reducible refine only_drew ?_) | (with_reducible refine only_drewN ?_ _) | (with_reducible refine only_alloc ?_ _) | (with_reducible refine only_setNew ?_ (by first | (simp; done) | (simp; omega) | omega) _) | (with_reducible refine only_set ?_ _ _) | (with_reducible refine only_step ?_ (by with_reducible assumption))))
    replace hc : Cur wS D g := by
      rw [hS]
      (repeat (first | (with_reducible assumption) | (with_reducible refine Cur.drew ?_) | (with_reducible refine Cur.drewN ?_ _) | (with_reducible refine Cur.set ?_ (by first | (simp; done) | (simp; omega) | omega) (by first | (simp; done) | (simp; omega) | omega) _) | (with_reducible refine Cur.below ?_ (below_alloc (Below.refl _ _) _)) | (with_reducible refine Cur.below ?_ (by with_reducible assumption))))
    rw [← hS]
    clear hS c0 c1 c2
    have c0 := q0.cell (i := 0) rfl
    have c1 := q0.cell (i := 1) rfl
    have c2 := q0.cell (i := 2) rfl
    refine bodyPost_ret (v := .agg #[.int .i64 (1 + (X : Int)), .int .i64 (1 + (Y : Int)), .int .i64 (Z : Int)]) (by simp [results, Try.results64, go_sem, c0, c1, c2]) rfl ?_
    exact ⟨1 + X, 1 + Y, Z, by push_cast; rfl, by omega, hc, hO⟩
theorem spec_DrawPlan (A : Option Addr) (n k : Nat) (v : Nat → Int) (w : World) (hn : n ≤ 1048576) (hF : Fb w A n v) : Calls Try.prog 38 #[.slice A n k] w fun e w' => ∃ L S A : Nat, e = .returned (.agg #[.int .i64 L, .int .i64 S, .int .i64 A]) ∧
    ((1 ≤ L ∧ L ≤ 14) ∧ (1 ≤ S ∧ S ≤ L) ∧ A < min 4 (S + 1)) ∧ Below w.heap.size w w' := by
  have HA := Lib.hid hF.lt
  have HF := Lib.hid hF; clear hF
  have hB : Below w.heap.size w (w.alloc (.cells #[.int .i64 0, .int .i64 0, .int .i64 0] 28)) := below_alloc (Below.refl _ _) _
  have r0 : Rw (w.alloc (.cells #[.int .i64 0, .int .i64 0, .int .i64 0] 28)) w.heap.size 28 #[.int .i64 0, .int .i64 0, .int .i64 0] := Rw.new _ _ _
  go_enter Try.func38, Try.ntmps38
  go_wp2_with fail
  with_reducible refine (spec_New A n k v _ hn (HF.out.below hB) w.heap.size hB.size HA.out).mono ?_
  rintro _ w1 ⟨g, rfl, hg0, hc, hb⟩
  have hg1 : w.heap.size < g := by simp at hg0; omega
  clear hg0
  replace r0 := r0.below hb
  replace hB := below_step hB hb
  clear hb
  have hO : w.grownBy w1 (some g) := only_of_below hB
  have hs0 := hB.size
  clear hB
  ((go_wp2_with fail); (with_reducible refine (spec_l29 _ _ g ?hcur hs0).mono ?_); (case hcur => (repeat (first | (with_reducible assumption) | (with_reducible refine Cur.drew ?_) | (with_reducible refine Cur.drewN ?_ _) | (with_reducible refine Cur.set ?_ (by first | (simp; done) | (simp; omega) | omega) (by first | (simp; done) | (simp; omega) | omega) _) | (with_reducible refine Cur.below ?_ (below_alloc (Below.refl _ _) _)) | (with_reducible refine Cur.below ?_ (by with_reducible assumption))))); rintro _ w1 ⟨L, S, P, rfl, ⟨hL, hS1, hP⟩, hcn, hg⟩; replace hO : w.grownBy w1 (some g) := only_trans (by (repeat (first | (with_reducible assumption) | (with_reducible exact only_refl _ _) | (with_reducible refine only_drew ?_) | (with_reducible refine only_drewN ?_ _) | (with_reducible refine only_alloc ?_ _) | (with_reducible refine only_setNew ?_ (by first | (simp; done) | (simp; omega) | omega) _) | (with_reducible refine only_set ?_ _ _) | (with_reducible refine only_step ?_ (by with_reducible assumption))))) hg; replace hc := hcn; clear hcn; (first | replace r0 := only_row hg r0 (by first | (simp; done) | (simp; omega) | omega) | replace r0 := only_row hg (Rw.below r0 (below_alloc (Below.refl _ _) _)) (by first | (simp; done) | (simp; omega) | omega)); clear hg)
  have c0 := r0.cell (i := 0) rfl
  have c1 := r0.cell (i := 1) rfl
  have c2 := r0.cell (i := 2) rfl
  have z0 := r0.frozen 0
  have z1 := r0.frozen 1
  have z2 := r0.frozen 2
  go_wp2_with fail
  obtain ⟨wS, hS⟩ : ∃ wS, wS = (((w1.setCell ⟨w.heap.size, 0, none⟩ (.int .i64 L)).setCell ⟨w.heap.size, 1, none⟩ (.int .i64 S)).setCell ⟨w.heap.size, 2, none⟩ (.int .i64 P)) := ⟨_, rfl⟩
  have q0 : Rw wS w.heap.size 28 #[.int .i64 L, .int .i64 S, .int .i64 P] := by
    rw [hS]
    exact r0.set3 _ _ _
  replace hO : w.grownBy wS (some g) := by
    rw [hS]
    (repeat (first | (with_reducible assumption) | (with_reducible exact only_refl _ _) | (with_reducible refine only_drew ?_) | (with_reducible refine only_drewN ?_ _) | (with_reducible refine only_alloc ?_ _) | (with_reducible refine only_setNew ?_ (by first | (simp; done) | (simp; omega) | omega) _) | (with_reducible refine only_set ?_ _ _) | (with_reducible refine only_step ?_ (by with_reducible assumption))))
  rw [← hS]
  clear hS c0 c1 c2
  have c0 := q0.cell (i := 0) rfl
  have c1 := q0.cell (i := 1) rfl
  have c2 := q0.cell (i := 2) rfl
  refine bodyPost_ret (v := .agg #[.int .i64 L, .int .i64 S, .int .i64 P]) (by simp [results, Try.results38, go_sem, c0, c1, c2]) rfl ?_
  exact ⟨L, S, P, rfl, ⟨hL, hS1, hP⟩, only_below (Below.refl _ _) hO (by omega)⟩
end Go.Proofs.Ytoalpihlflifmaa
