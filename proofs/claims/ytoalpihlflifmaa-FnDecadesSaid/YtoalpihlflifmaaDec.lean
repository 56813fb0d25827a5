/- The contracts of DecadeOf. -/
import Derived.Test.YtoalpihlflifmaaHalveS
import Derived.Test.YtoalpihlflifmaaLawF
import Derived.Test.YtoalpihlflifmaaMads2
namespace Go.Proofs.Ytoalpihlflifmaa
open Go.RowKit
set_option linter.unusedSimpArgs false
set_option linter.unusedVariables false
set_option maxHeartbeats 4000000
/-- The five summands. -/
def lz (v : Nat → Int) (P' Q' : Int) : Nat → Int := fun j => if j = 0 then P' else if j = 1 then Q' else if j = 2 then P' else if j = 3 then Q' else if j = 4 then v 4 else if j = 5 then v 5 else if j = 6 then v 4 else if j = 7 then v 5 else if j = 8 then v 6 else v 7
/-- The four weights. -/
def zz (P Q X4 Y4 X5 Y5 X7 Y7 : Int) : Nat → Int := fun j => if j = 0 then P else if j = 1 then Q else if j = 2 then X4 else if j = 3 then Y4 else if j = 4 then X5 else if j = 5 then Y5 else if j = 6 then X7 else Y7
theorem lz_own {w : World} {g : Nat} {v : Nat → Int} {P' Q' : Int} (h : w.heap[g]? = some (.cells #[.int .i64 P', .int .i64 Q', .int .i64 P', .int .i64 Q', .int .i64 (v 4), .int .i64 (v 5), .int .i64 (v 4), .int .i64 (v 5), .int .i64 (v 6), .int .i64 (v 7)] 25 (0, 0))) : Own w g 25 10 (lz v P' Q') :=
  ⟨_, h, fun j hj => by
    match j, hj with
    | 0, _ => rfl | 1, _ => rfl | 2, _ => rfl | 3, _ => rfl | 4, _ => rfl | 5, _ => rfl | 6, _ => rfl | 7, _ => rfl | 8, _ => rfl | 9, _ => rfl⟩
theorem zz_own {w : World} {g : Nat} {P Q X4 Y4 X5 Y5 X7 Y7 : Int} (h : w.heap[g]? = some (.cells #[.int .i64 P, .int .i64 Q, .int .i64 X4, .int .i64 Y4, .int .i64 X5, .int .i64 Y5, .int .i64 X7, .int .i64 Y7] 25 (0, 0))) : Own w g 25 (4 * 2) (zz P Q X4 Y4 X5 Y5 X7 Y7) :=
  ⟨_, h, fun j hj => by
    match j, hj with
    | 0, _ => rfl | 1, _ => rfl | 2, _ => rfl | 3, _ => rfl | 4, _ => rfl | 5, _ => rfl | 6, _ => rfl | 7, _ => rfl⟩
set_option maxRecDepth 100000 in
theorem impl_DecadeX (a b : Int) (A : Option Addr) (c : Nat) (v : Nat → Int) (w : World) (h0 : frB a b = true) (hd : ∀ k, k < 4 → frB (v (k * 2)) (v (k * 2 + 1)) = true) (f0 : Fl w A 4 2 v)
    (X Y P Q P' Q' S T X4 Y4 X5 Y5 X6 Y6 X7 Y7 : Int) (O1 O2 O3 O4 O5 O6 O7 : Bool)
    (hM : ∀ w, Calls Try.prog 53 #[.agg #[.int .i64 a, .int .i64 b], .agg #[.int .i64 (v 0), .int .i64 (v 1)]] w fun e w' => e = .returned (.tuple #[.agg #[.int .i64 X, .int .i64 Y], .bool O1]) ∧ Below w.heap.size w w')
    (hH : ∀ w, Calls Try.prog 22 #[.agg #[.int .i64 X, .int .i64 Y], .agg #[.int .i64 (v 2), .int .i64 (v 3)]] w fun e w' => e = .returned (.tuple #[.agg #[.int .i64 P, .int .i64 Q], .agg #[.int .i64 P', .int .i64 Q'], .bool O2]) ∧ Below w.heap.size w w')
    (hS : ∀ g w, Own w g 25 10 (lz v P' Q') → Calls Try.prog 18 #[.slice (some ⟨g, 0, none⟩) 5 5] w fun e w' => e = .returned (.tuple #[.agg #[.int .i64 S, .int .i64 T], .bool O3]) ∧ Below w.heap.size w w')
    (h4 : ∀ w, Calls Try.prog 54 #[.agg #[.int .i64 S, .int .i64 T], .int .i64 5] w fun e w' => e = .returned (.tuple #[.agg #[.int .i64 X4, .int .i64 Y4], .bool O4]) ∧ Below w.heap.size w w')
    (h5 : ∀ w, Calls Try.prog 53 #[.agg #[.int .i64 X4, .int .i64 Y4], .agg #[.int .i64 (v 4), .int .i64 (v 5)]] w fun e w' => e = .returned (.tuple #[.agg #[.int .i64 X5, .int .i64 Y5], .bool O5]) ∧ Below w.heap.size w w')
    (h6 : ∀ w, Calls Try.prog 53 #[.agg #[.int .i64 X4, .int .i64 Y4], .agg #[.int .i64 (v 6), .int .i64 (v 7)]] w fun e w' => e = .returned (.tuple #[.agg #[.int .i64 X6, .int .i64 Y6], .bool O6]) ∧ Below w.heap.size w w')
    (h7 : ∀ w, Calls Try.prog 54 #[.agg #[.int .i64 X6, .int .i64 Y6], .int .i64 2] w fun e w' => e = .returned (.tuple #[.agg #[.int .i64 X7, .int .i64 Y7], .bool O7]) ∧ Below w.heap.size w w') :
    Calls Try.prog 28 #[.agg #[.int .i64 a, .int .i64 b], .slice A 4 c] w fun e w' => if (O1 && O2 && O3 && O4 && O5 && O6 && O7) = true then FR1 w 4 (zz P Q X4 Y4 X5 Y5 X7 Y7) true e w' else FR0 w false e w' := by
  have hF := fun w => impl_FracOk a b w
  rw [h0] at hF
  have HD := Lib.hid hd; clear hd
  obtain ⟨PO, hPO⟩ : ∃ PO : Ending → World → Prop, PO = fun e w' => if (O1 && O2 && O3 && O4 && O5 && O6 && O7) = true then FR1 w 4 (zz P Q X4 Y4 X5 Y5 X7 Y7) true e w' else FR0 w false e w' := ⟨_, rfl⟩
  rw [← hPO]
  have HPO := Lib.hid hPO; clear hPO
  obtain ⟨W, hW⟩ : ∃ W, W = (w.alloc (.cells #[.int .i64 a, .int .i64 b] 25)) := ⟨_, rfl⟩
  have c0 : W.cell? ⟨w.heap.size, 0, none⟩ = some (.int .i64 a) := by rw [hW]; simp [go_sem]
  have c1 : W.cell? ⟨w.heap.size, 1, none⟩ = some (.int .i64 b) := by rw [hW]; simp [go_sem]
  have hB : Below w.heap.size w W := by rw [hW]; exact ((Below.refl _ _).alloc (by simp <;> omega) _)
  subst hW
  replace f0 := f0.below hB
  go_enter Try.func28, Try.ntmps28
  ((go_wp2_with fail); (with_reducible refine (hF _).mono ?_); rintro _ w1 ⟨rfl, hb⟩; replace f0 := Fl.below f0 hb; replace c0 := below_cell hb c0; replace c1 := below_cell hb c1; replace hB := below_step hB hb; clear hb)
  clear hF h0
  go_wp2_with fail
  go_loopw [7, 33] (fun _ i wr => ∃ k : Nat, k ≤ 4 ∧ i = .int .i64 k ∧ Fl wr A 4 2 v ∧ wr.cell? ⟨w.heap.size, 0, none⟩ = some (.int .i64 a) ∧ wr.cell? ⟨w.heap.size, 1, none⟩ = some (.int .i64 b) ∧ Below w.heap.size w wr) (fun _ i _ => 4 - (intOf i).toNat)
  case atStart => exact ⟨0, by omega, rfl, f0, c0, c1, hB⟩
  case round =>
    clear f0 c0 c1 hB
    obtain ⟨k, hk, rfl, f0, c0, c1, hB⟩ := hrel
    by_cases hk4 : k < 4
    · obtain ⟨blk, off, rfl, hcs⟩ := f0 (by omega)
      have c2 := hcs (k * 2) (by omega)
      have c3 := hcs (k * 2 + 1) (by omega)
      rw [← Nat.add_assoc] at c3
      clear hcs
      have hK := fun w => impl_FracOk (v (k * 2)) (v (k * 2 + 1)) w
      rw [HD.out k hk4] at hK
      have hb := below_alloc (Below.refl wr.heap.size wr) (.cells #[.int .i64 (v (k * 2)), .int .i64 (v (k * 2 + 1))] 25)
      go_wp2_with fail
      (skip; replace f0 := Fl.below f0 hb; replace c0 := below_cell hb c0; replace c1 := below_cell hb c1; replace hB := below_step hB hb; clear hb)
      ((go_wp2_with fail); (with_reducible refine (hK _).mono ?_); rintro _ w1 ⟨rfl, hb⟩; replace f0 := Fl.below f0 hb; replace c0 := below_cell hb c0; replace c1 := below_cell hb c1; replace hB := below_step hB hb; clear hb)
      go_wp2_with fail
      go_roundw
      case rel => exact ⟨k + 1, by omega, by go_num, f0, c0, c1, hB⟩
      case measure => simp [intOf]; omega
    · obtain rfl : k = 4 := by omega
      obtain ⟨blk, off, rfl, hcs⟩ := f0 (by omega)
      have c2 : wr.cell? ⟨blk, off, none⟩ = some (.int .i64 (v 0)) := hcs 0 (by omega)
      have c3 : wr.cell? ⟨blk, off + 1, none⟩ = some (.int .i64 (v 1)) := hcs 1 (by omega)
      have c4 : wr.cell? ⟨blk, off + 2, none⟩ = some (.int .i64 (v 2)) := hcs 2 (by omega)
      have c5 : wr.cell? ⟨blk, off + 3, none⟩ = some (.int .i64 (v 3)) := hcs 3 (by omega)
      have c6 : wr.cell? ⟨blk, off + 4, none⟩ = some (.int .i64 (v 4)) := hcs 4 (by omega)
      have c7 : wr.cell? ⟨blk, off + 5, none⟩ = some (.int .i64 (v 5)) := hcs 5 (by omega)
      have c8 : wr.cell? ⟨blk, off + 6, none⟩ = some (.int .i64 (v 6)) := hcs 6 (by omega)
      have c9 : wr.cell? ⟨blk, off + 7, none⟩ = some (.int .i64 (v 7)) := hcs 7 (by omega)
      clear hcs f0
      go_wp2_with fail
      apply region_made
      case hm => kernel_rfl
      case hok => kernel_rfl
      case hsz => rfl
      case hal => kernel_rfl
      case H =>
        intro u hu
        have Ec0 := ext_cell (below_cell hu c0)
        have Ec1 := ext_cell (below_cell hu c1)
        have Ec2 := ext_cell (below_cell hu c2)
        have Ec3 := ext_cell (below_cell hu c3)
        have Ec4 := ext_cell (below_cell hu c4)
        have Ec5 := ext_cell (below_cell hu c5)
        have Ec6 := ext_cell (below_cell hu c6)
        have Ec7 := ext_cell (below_cell hu c7)
        have Ec8 := ext_cell (below_cell hu c8)
        have Ec9 := ext_cell (below_cell hu c9)
        dsimp only [List.map, tame]
        (repeat (first | go_big_quiet_step (((go_at_call 53; with_reducible exact calm_of (hM _)))) | simp only [TF]))
        exact wpQuiet_nil rfl
      case hst => simp only [storesOk, true_and, and_true]; exact ⟨_, rfl, sizeFraction, by simp [Value.oneCell']⟩
      intro G w1 hb hf hd
      simp only [madeFacts, true_and, and_true] at hf
      obtain ⟨hg8, hh8⟩ := hf
      clear hd
      dsimp only [alSlots, List.filterMap, putAll]
      have c10 : w1.cell? ⟨G 8, 0, none⟩ = some (.int .i64 X) := made_cell hh8 rfl
      have c11 : w1.cell? ⟨G 8, 1, none⟩ = some (.int .i64 Y) := made_cell hh8 rfl
      clear hh8
      generalize G 8 = g8 at *
      simp only [Act.put, List.setIfInBounds_toArray, List.set_cons_succ, List.set_cons_zero]
      (replace c0 := below_cell hb c0; replace c1 := below_cell hb c1; replace c2 := below_cell hb c2; replace c3 := below_cell hb c3; replace c4 := below_cell hb c4; replace c5 := below_cell hb c5; replace c6 := below_cell hb c6; replace c7 := below_cell hb c7; replace c8 := below_cell hb c8; replace c9 := below_cell hb c9; replace hB := below_step hB hb; clear hb)
      clear hM
      go_wp2_with fail
      apply region_made
      case hm => kernel_rfl
      case hok => kernel_rfl
      case hsz => rfl
      case hal => kernel_rfl
      case H =>
        intro u hu
        have Ec0 := ext_cell (below_cell hu c0)
        have Ec1 := ext_cell (below_cell hu c1)
        have Ec2 := ext_cell (below_cell hu c2)
        have Ec3 := ext_cell (below_cell hu c3)
        have Ec4 := ext_cell (below_cell hu c4)
        have Ec5 := ext_cell (below_cell hu c5)
        have Ec6 := ext_cell (below_cell hu c6)
        have Ec7 := ext_cell (below_cell hu c7)
        have Ec8 := ext_cell (below_cell hu c8)
        have Ec9 := ext_cell (below_cell hu c9)
        have Ec10 := ext_cell (below_cell hu c10)
        have Ec11 := ext_cell (below_cell hu c11)
        dsimp only [List.map, tame]
        (repeat (first | go_big_quiet_step (((go_at_call 22; with_reducible exact calm_of (hH _)))) | simp only [TF]))
        exact wpQuiet_nil rfl
      case hst => simp only [storesOk, true_and, and_true]; exact ⟨⟨_, rfl, sizeFraction, by simp [Value.oneCell']⟩, ⟨_, rfl, sizeFraction, by simp [Value.oneCell']⟩⟩
      intro G w1 hb hf hd
      simp only [madeFacts, true_and, and_true] at hf
      obtain ⟨⟨hg10, hh10⟩, ⟨hg11, hh11⟩⟩ := hf
      have hd10_11 := hd 10 (by decide) 11 (by decide) (by decide)
      clear hd
      dsimp only [alSlots, List.filterMap, putAll]
      have c12 : w1.cell? ⟨G 10, 0, none⟩ = some (.int .i64 P) := made_cell hh10 rfl
      have c13 : w1.cell? ⟨G 10, 1, none⟩ = some (.int .i64 Q) := made_cell hh10 rfl
      clear hh10
      have c14 : w1.cell? ⟨G 11, 0, none⟩ = some (.int .i64 P') := made_cell hh11 rfl
      have c15 : w1.cell? ⟨G 11, 1, none⟩ = some (.int .i64 Q') := made_cell hh11 rfl
      clear hh11
      generalize G 10 = g10 at *
      generalize G 11 = g11 at *
      simp only [Act.put, List.setIfInBounds_toArray, List.set_cons_succ, List.set_cons_zero]
      (replace c0 := below_cell hb c0; replace c1 := below_cell hb c1; replace c2 := below_cell hb c2; replace c3 := below_cell hb c3; replace c4 := below_cell hb c4; replace c5 := below_cell hb c5; replace c6 := below_cell hb c6; replace c7 := below_cell hb c7; replace c8 := below_cell hb c8; replace c9 := below_cell hb c9; replace c10 := below_cell hb c10; replace c11 := below_cell hb c11; replace hB := below_step hB hb; clear hb)
      clear hH
      go_wp2_with fail
      apply M2.region_madeK ⟨70, .tuple #[.agg #[.int .i64 S, .int .i64 T], .bool O3], fun g => .slice (some ⟨g, 0, none⟩) 5 5, fun ob => ob = .cells #[.int .i64 P', .int .i64 Q', .int .i64 P', .int .i64 Q', .int .i64 (v 4), .int .i64 (v 5), .int .i64 (v 4), .int .i64 (v 5), .int .i64 (v 6), .int .i64 (v 7)] 25 (0, 0)⟩ [.t, .t, .t, .t, .t, .t, .t, .t, .t, .t, .t, .m, .u, .t, .t, .t, .t, .t, .t]
      case hkd => kernel_rfl
      case hm => kernel_rfl
      case hok => kernel_rfl
      case hsz => rfl
      case hal => kernel_rfl
      case hmx => kernel_rfl
      case hus => kernel_rfl
      case hom => rfl
      case hou => rfl
      case H =>
        intro u hu
        have Ec6 := ext_cell (below_cell hu c6)
        have Ec7 := ext_cell (below_cell hu c7)
        have Ec8 := ext_cell (below_cell hu c8)
        have Ec9 := ext_cell (below_cell hu c9)
        have Ec14 := ext_cell (below_cell hu c14)
        have Ec15 := ext_cell (below_cell hu c15)
        dsimp only [List.zipWith, M2.tameK, tame]
        (repeat (first | go_big_quiet_step (fail) | simp only [TF]))
        exact wpQuiet_nil rfl
      case hst => simp only [storesOk, true_and, and_true]; exact ⟨_, rfl, sizeFraction, by simp [Value.oneCell']⟩
      case hmkr =>
        intro a' u K ha hu hK
        have e1 := ha (.tmp 59) (by simp [Op.operands])
        have e2 := ha (.tmp 60) (by simp [Op.operands])
        have e3 := ha (.tmp 63) (by simp [Op.operands])
        have e4 := ha (.tmp 66) (by simp [Op.operands])
        have e5 := ha (.tmp 69) (by simp [Op.operands])
        simp [Act.eval] at e1 e2 e3 e4 e5
        refine M2.wp_value (.slice (some ⟨u.heap.size, 0, none⟩) 5 5) (u' := u.alloc (.cells #[.int .i64 P', .int .i64 Q', .int .i64 P', .int .i64 Q', .int .i64 (v 4), .int .i64 (v 5), .int .i64 (v 4), .int .i64 (v 5), .int .i64 (v 6), .int .i64 (v 7)] 25)) (by simp [execOp, e1, e2, e3, e4, e5, go_sem]) ?_
        exact hK u.heap.size _ _ (Nat.le_refl _) (heap_alloc_new u _) rfl (below_alloc (Below.refl _ _) _)
      case huse =>
        intro a' u K g ob ha hb hu hg hob hC hK
        subst hC
        simp [Act.eval] at hb
        refine M2.wp_enter 18 #[.slice (some ⟨g, 0, none⟩) 5 5] (by simp [execOp, resolve, invoke, hb, go_sem]) ?_
        refine (hS g u (lz_own hob)).mono ?_
        rintro _ w' ⟨rfl, hb'⟩
        exact ⟨_, rfl, hK w' hb'⟩
      intro G gb w1 hb hgb hf hd
      simp only [madeFacts, true_and, and_true] at hf
      obtain ⟨hg13, hh13⟩ := hf
      clear hd
      dsimp only [alSlots, List.filterMap, putAll]
      have c16 : w1.cell? ⟨G 13, 0, none⟩ = some (.int .i64 S) := made_cell hh13 rfl
      have c17 : w1.cell? ⟨G 13, 1, none⟩ = some (.int .i64 T) := made_cell hh13 rfl
      clear hh13
      generalize G 13 = g13 at *
      simp only [Act.put, List.setIfInBounds_toArray, List.set_cons_succ, List.set_cons_zero]
      replace c6 := below_cell hb c6; replace c7 := below_cell hb c7; replace c8 := below_cell hb c8; replace c9 := below_cell hb c9; replace c12 := below_cell hb c12; replace c13 := below_cell hb c13; replace hB := below_step hB hb; clear hb
      clear c0 c1 c2 c3 c4 c5 c10 c11 c14 c15 hS
      ((go_wp2_with fail); (with_reducible refine (h4 _).mono ?_); rintro _ w1 ⟨rfl, hb⟩; replace c6 := below_cell hb c6; replace c7 := below_cell hb c7; replace c8 := below_cell hb c8; replace c9 := below_cell hb c9; replace c12 := below_cell hb c12; replace c13 := below_cell hb c13; replace hB := below_step hB hb; clear hb)
      clear h4 c16 c17
      have hb := below_alloc (Below.refl w1.heap.size w1) (.cells #[.int .i64 X4, .int .i64 Y4] 25)
      have c18 : (w1.alloc (.cells #[.int .i64 X4, .int .i64 Y4] 25)).cell? ⟨w1.heap.size, 0, none⟩ = some (.int .i64 X4) := by simp [go_sem]
      have c19 : (w1.alloc (.cells #[.int .i64 X4, .int .i64 Y4] 25)).cell? ⟨w1.heap.size, 1, none⟩ = some (.int .i64 Y4) := by simp [go_sem]
      (skip; replace c6 := below_cell hb c6; replace c7 := below_cell hb c7; replace c8 := below_cell hb c8; replace c9 := below_cell hb c9; replace c12 := below_cell hb c12; replace c13 := below_cell hb c13; replace hB := below_step hB hb; clear hb)
      go_wp2_with fail
      apply region_made
      case hm => kernel_rfl
      case hok => kernel_rfl
      case hsz => rfl
      case hal => kernel_rfl
      case H =>
        intro u hu
        have Ec6 := ext_cell (below_cell hu c6)
        have Ec7 := ext_cell (below_cell hu c7)
        have Ec8 := ext_cell (below_cell hu c8)
        have Ec9 := ext_cell (below_cell hu c9)
        have Ec12 := ext_cell (below_cell hu c12)
        have Ec13 := ext_cell (below_cell hu c13)
        have Ec18 := ext_cell (below_cell hu c18)
        have Ec19 := ext_cell (below_cell hu c19)
        dsimp only [List.map, tame]
        (repeat (first | go_big_quiet_step (((go_at_call 53; with_reducible exact calm_of (h5 _)))) | simp only [TF]))
        exact wpQuiet_nil rfl
      case hst => simp only [storesOk, true_and, and_true]; exact ⟨_, rfl, sizeFraction, by simp [Value.oneCell']⟩
      intro G w1 hb hf hd
      simp only [madeFacts, true_and, and_true] at hf
      obtain ⟨hg17, hh17⟩ := hf
      clear hd
      dsimp only [alSlots, List.filterMap, putAll]
      have c20 : w1.cell? ⟨G 17, 0, none⟩ = some (.int .i64 X5) := made_cell hh17 rfl
      have c21 : w1.cell? ⟨G 17, 1, none⟩ = some (.int .i64 Y5) := made_cell hh17 rfl
      clear hh17
      generalize G 17 = g17 at *
      simp only [Act.put, List.setIfInBounds_toArray, List.set_cons_succ, List.set_cons_zero]
      (replace c6 := below_cell hb c6; replace c7 := below_cell hb c7; replace c8 := below_cell hb c8; replace c9 := below_cell hb c9; replace c12 := below_cell hb c12; replace c13 := below_cell hb c13; replace c18 := below_cell hb c18; replace c19 := below_cell hb c19; replace hB := below_step hB hb; clear hb)
      clear h5
      go_wp2_with fail
      apply region_made
      case hm => kernel_rfl
      case hok => kernel_rfl
      case hsz => rfl
      case hal => kernel_rfl
      case H =>
        intro u hu
        have Ec6 := ext_cell (below_cell hu c6)
        have Ec7 := ext_cell (below_cell hu c7)
        have Ec8 := ext_cell (below_cell hu c8)
        have Ec9 := ext_cell (below_cell hu c9)
        have Ec12 := ext_cell (below_cell hu c12)
        have Ec13 := ext_cell (below_cell hu c13)
        have Ec18 := ext_cell (below_cell hu c18)
        have Ec19 := ext_cell (below_cell hu c19)
        have Ec20 := ext_cell (below_cell hu c20)
        have Ec21 := ext_cell (below_cell hu c21)
        dsimp only [List.map, tame]
        (repeat (first | go_big_quiet_step (((go_at_call 53; with_reducible exact calm_of (h6 _)))) | simp only [TF]))
        exact wpQuiet_nil rfl
      case hst => simp only [storesOk, true_and, and_true]; exact ⟨_, rfl, sizeFraction, by simp [Value.oneCell']⟩
      intro G w1 hb hf hd
      simp only [madeFacts, true_and, and_true] at hf
      obtain ⟨hg19, hh19⟩ := hf
      clear hd
      dsimp only [alSlots, List.filterMap, putAll]
      have c22 : w1.cell? ⟨G 19, 0, none⟩ = some (.int .i64 X6) := made_cell hh19 rfl
      have c23 : w1.cell? ⟨G 19, 1, none⟩ = some (.int .i64 Y6) := made_cell hh19 rfl
      clear hh19
      generalize G 19 = g19 at *
      simp only [Act.put, List.setIfInBounds_toArray, List.set_cons_succ, List.set_cons_zero]
      (replace c6 := below_cell hb c6; replace c7 := below_cell hb c7; replace c8 := below_cell hb c8; replace c9 := below_cell hb c9; replace c12 := below_cell hb c12; replace c13 := below_cell hb c13; replace c18 := below_cell hb c18; replace c19 := below_cell hb c19; replace c20 := below_cell hb c20; replace c21 := below_cell hb c21; replace hB := below_step hB hb; clear hb)
      clear h6 c6 c7 c8 c9
      ((go_wp2_with fail); (with_reducible refine (h7 _).mono ?_); rintro _ w1 ⟨rfl, hb⟩; replace c12 := below_cell hb c12; replace c13 := below_cell hb c13; replace c18 := below_cell hb c18; replace c19 := below_cell hb c19; replace c20 := below_cell hb c20; replace c21 := below_cell hb c21; replace hB := below_step hB hb; clear hb)
      clear h7 c22 c23
      have l12 := lt_of_cell c12
      have l18 := lt_of_cell c18
      have l20 := lt_of_cell c20
      simp only at l12 l18 l20
      have hcase : O1 = false ∨ O1 = true ∧ (O2 = false ∨ O2 = true ∧ (O3 = false ∨ O3 = true ∧ (O4 = false ∨ O4 = true ∧ (O5 = false ∨ O5 = true ∧ (O6 = false ∨ O6 = true ∧ (O7 = false ∨ O7 = true)))))) := by
        cases O1 <;> cases O2 <;> cases O3 <;> cases O4 <;> cases O5 <;> cases O6 <;> cases O7 <;> simp
      rcases hcase with rfl | ⟨rfl, rfl | ⟨rfl, rfl | ⟨rfl, rfl | ⟨rfl, rfl | ⟨rfl, rfl | ⟨rfl, rfl | rfl⟩⟩⟩⟩⟩⟩
      case inr.inr.inr.inr.inr.inr.inr =>
        go_wp2_with fail
        rw [HPO.out]
        simp only [Bool.and_self, if_true]
        exact ⟨_, _, rfl, by have := hB.size; simp; omega, zz_own (by rw [show w1.heap.size + 1 = (w1.alloc (.cells #[.int .i64 X7, .int .i64 Y7] 25)).heap.size by simp]; exact heap_alloc_new _ _), by (repeat (first | exact Below.refl _ _ | assumption | (refine Below.drew ?_) | (refine below_alloc ?_ _) | (refine Below.setCell ?_ (by first | (simp; done) | (simp; omega) | omega | (have hq := hB.size; (try simp at hq ⊢); omega)) _) | (refine Below.alloc ?_ (by first | (simp; done) | (simp; omega) | omega | (have hq := hB.size; (try simp at hq ⊢); omega)) _) | (refine below_step ?_ (by assumption))))⟩
      all_goals
        go_wp2_with fail
        rw [HPO.out]
        simp only [Bool.and_self, Bool.and_false, Bool.false_and, Bool.false_eq_true, if_false]
        exact ⟨none, 0, rfl, by (repeat (first | exact Below.refl _ _ | assumption | (refine Below.drew ?_) | (refine below_alloc ?_ _) | (refine Below.setCell ?_ (by first | (simp; done) | (simp; omega) | omega | (have hq := hB.size; (try simp at hq ⊢); omega)) _) | (refine Below.alloc ?_ (by first | (simp; done) | (simp; omega) | omega | (have hq := hB.size; (try simp at hq ⊢); omega)) _) | (refine below_step ?_ (by assumption))))⟩
end Go.Proofs.Ytoalpihlflifmaa
