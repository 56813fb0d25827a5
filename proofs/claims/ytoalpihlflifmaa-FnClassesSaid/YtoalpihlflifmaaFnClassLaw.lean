/- The walk of the law FnClasses: it returns true. No conditions. -/
import Derived.Test.YtoalpihlflifmaaFnClass
namespace Go.Proofs.Ytoalpihlflifmaa
open Go.RowKit
set_option linter.unusedSimpArgs false
set_option linter.unusedVariables false
set_option maxHeartbeats 4000000
/-- What the law asks of one class. -/
theorem class_law {n a b c d k : Int} (hn : 1 ≤ n ∧ n ≤ 100000) (h1 : -2000 ≤ a ∧ a ≤ b ∧ b ≤ 4000) (h2 : -2003 ≤ c ∧ c ≤ d ∧ d ≤ 5000) (hk : 1 ≤ k ∧ k ≤ 3) :
    ∃ t, tolB n k = t ∧ 1 ≤ t ∧ t ≤ 1000 ∧
      (verdB n a b k = 1 ∧ -t ≤ a ∧ b ≤ t ∧ 0 < bestB n a b ∧ bestB n a b ≤ k ∨
       verdB n a b k = 0 ∧ (b < -t ∨ t < a) ∧ (bestB n a b ≤ 0 ∨ k < bestB n a b) ∨
       verdB n a b k = 2 ∧ -t ≤ b ∧ a ≤ t ∧ (a < -t ∨ t < b) ∧ (bestB n a b ≤ 0 ∨ k < bestB n a b)) := by
  have hf : findB n a b = true := by simp only [findB, Bool.and_eq_true, inB_iff]; omega
  have m1 : ∀ k, 1 ≤ k ∧ k ≤ 3 → tolB n k = max (n / 1000) 1 * mulB k := fun k hk => by
    unfold tolB
    rw [if_pos (by simp only [Bool.and_eq_true, inB_iff]; omega)]
  have e1 := m1 1 (by omega)
  have e2 := m1 2 (by omega)
  have e3 := m1 3 (by omega)
  have v1 := verdB_in hf (show inB 1 1 3 = true by decide)
  have v2 := verdB_in hf (show inB 2 1 3 = true by decide)
  have v3 := verdB_in hf (show inB 3 1 3 = true by decide)
  simp only [mulB] at e1 e2 e3
  simp at e1 e2 e3
  have hm : 1 ≤ max (n / 1000) 1 ∧ max (n / 1000) 1 ≤ 100 := by omega
  revert e1 e2 e3 hm
  generalize max (n / 1000) 1 = m
  intro e1 e2 e3 hm
  refine ⟨tolB n k, rfl, ?_⟩
  rw [e1] at v1
  rw [e2] at v2
  rw [e3] at v3
  obtain rfl | rfl | rfl : k = 1 ∨ k = 2 ∨ k = 3 := by omega
  · rw [e1]
    unfold bestB
    rw [v1, v2, v3]
    (repeat' split) <;> omega
  · rw [e2]
    unfold bestB
    rw [v1, v2, v3]
    (repeat' split) <;> omega
  · rw [e3]
    unfold bestB
    rw [v1, v2, v3]
    (repeat' split) <;> omega
theorem nar_form {n a b c d : Int} (hn : 1 ≤ n ∧ n ≤ 100000) (h1 : -2000 ≤ a ∧ a ≤ b ∧ b ≤ 4000) (h2 : -2003 ≤ c ∧ c ≤ d ∧ d ≤ 5000) :
    ∃ (x y z : Int) (o : Bool), narV n a b n c d = .tuple #[.agg #[.int .i64 x, .int .i64 y, .int .i64 z], .bool o] ∧
      (o = true ∧ a ≤ y ∧ z ≤ b ∧ c ≤ y ∧ z ≤ d ∧ a ≤ d ∧ c ≤ b ∧ (∀ k, 1 ≤ k ∧ k ≤ 3 → verdB n a b k ≠ 2 → verdB x y z k = verdB n a b k) ∨ o = false ∧ (d < a ∨ b < c)) := by
  have hf : findB n a b = true := by simp only [findB, Bool.and_eq_true, inB_iff]; omega
  have hg : findB n c d = true := by simp only [findB, Bool.and_eq_true, inB_iff]; omega
  by_cases h : max a c ≤ min b d
  · have hb : narB n a b n c d = true := by simp only [narB, Bool.and_eq_true, decide_eq_true_eq]; exact ⟨⟨⟨hf, hg⟩, trivial⟩, h⟩
    refine ⟨n, max a c, min b d, true, by unfold narV; rw [if_pos hb], Or.inl ⟨rfl, by omega, by omega, by omega, by omega, by omega, by omega, ?_⟩⟩
    intro k hk hv
    have hk' : inB k 1 3 = true := by rw [inB_iff]; omega
    have hh : findB n (max a c) (min b d) = true := by simp only [findB, Bool.and_eq_true, inB_iff]; omega
    rw [verdB_in hf hk'] at hv ⊢
    rw [verdB_in hh hk']
    revert hv
    (repeat' split) <;> omega
  · have hb : ¬ narB n a b n c d = true := by simp only [narB, Bool.and_eq_true, decide_eq_true_eq]; exact fun hx => h hx.2
    exact ⟨0, 0, 0, false, by unfold narV; rw [if_neg hb], Or.inr ⟨rfl, by omega⟩⟩
set_option maxRecDepth 100000 in
theorem walkClasses (A : Option Addr) (n k : Nat) (v : Nat → Int) (w : World) (hm : n ≤ maxLen) (hF : Fb w A n v) : Calls Try.prog 9 #[.slice A n k] w fun e w' => e = .returned (.bool true) ∧ Below w.heap.size w w' := by
  have hB := Below.refl w.heap.size w
  have hs : ∀ w, _ := fun w => laws_big A n k w hm
  by_cases hn : n ≤ 1048576
  · rw [show decide (1048576 < n) = false by simp; omega] at hs
    have HF := Lib.hid hF; clear hF
    go_enter Try.func9, Try.ntmps9
    ((go_wp2_with fail); (with_reducible refine (hs _).mono ?_); rintro _ _ ⟨rfl, rfl⟩)
    go_wp2_with fail
    with_reducible refine (spec_Findings A n k v _ hn HF.out).mono ?_
    rintro _ w1 ⟨m, a, b, c, d, rfl, ⟨hm1, hm2, ha, hab, hb1, hc1, hcd, hd⟩, hb⟩
    replace hB := below_step hB hb
    clear hb
    obtain ⟨x, y, z, o, hv, hnar⟩ := nar_form (n := m) (a := a) (b := b) (c := c) (d := d) (by omega) (by omega) (by omega)
    have hN := fun w => impl_Narrow m a b m c d w
    simp only [hv] at hN
    clear hv
    have hf : findB m a b = true := by simp only [findB, Bool.and_eq_true, inB_iff]; omega
    have hOk := fun w => impl_FindingOk m a b w
    simp only [hf] at hOk
    clear hf
    have hK := fun (j : Int) => class_law (n := m) (a := a) (b := b) (c := c) (d := d) (k := j) (by omega) (by omega) (by omega)
    have hBest := fun w => impl_BestClass m a b w
    revert hK hBest
    generalize bestB m a b = q
    intro hK hBest
    have HK := Lib.hid hK; clear hK
    have HN := Lib.hid hnar; clear hnar
    have hb := below_alloc (below_alloc (Below.refl w1.heap.size w1) (.cells #[.int .i64 m, .int .i64 a, .int .i64 b] 54)) (.cells #[.int .i64 m, .int .i64 c, .int .i64 d] 54)
    have c0 : ((w1.alloc (.cells #[.int .i64 m, .int .i64 a, .int .i64 b] 54)).alloc (.cells #[.int .i64 m, .int .i64 c, .int .i64 d] 54)).cell? ⟨w1.heap.size, 0, none⟩ = some (.int .i64 m) := by simp [go_sem]
    have c1 : ((w1.alloc (.cells #[.int .i64 m, .int .i64 a, .int .i64 b] 54)).alloc (.cells #[.int .i64 m, .int .i64 c, .int .i64 d] 54)).cell? ⟨w1.heap.size, 1, none⟩ = some (.int .i64 a) := by simp [go_sem]
    have c2 : ((w1.alloc (.cells #[.int .i64 m, .int .i64 a, .int .i64 b] 54)).alloc (.cells #[.int .i64 m, .int .i64 c, .int .i64 d] 54)).cell? ⟨w1.heap.size, 2, none⟩ = some (.int .i64 b) := by simp [go_sem]
    have c3 : ((w1.alloc (.cells #[.int .i64 m, .int .i64 a, .int .i64 b] 54)).alloc (.cells #[.int .i64 m, .int .i64 c, .int .i64 d] 54)).cell? ⟨w1.heap.size + 1, 0, none⟩ = some (.int .i64 m) := by simp [go_sem]
    have c4 : ((w1.alloc (.cells #[.int .i64 m, .int .i64 a, .int .i64 b] 54)).alloc (.cells #[.int .i64 m, .int .i64 c, .int .i64 d] 54)).cell? ⟨w1.heap.size + 1, 1, none⟩ = some (.int .i64 c) := by simp [go_sem]
    have c5 : ((w1.alloc (.cells #[.int .i64 m, .int .i64 a, .int .i64 b] 54)).alloc (.cells #[.int .i64 m, .int .i64 c, .int .i64 d] 54)).cell? ⟨w1.heap.size + 1, 2, none⟩ = some (.int .i64 d) := by simp [go_sem]
    (skip; replace hB := below_step hB hb; clear hb)
    ((go_wp2_with fail); (with_reducible refine (hBest _).mono ?_); rintro _ w1 ⟨rfl, hb⟩; replace c0 := below_cell hb c0; replace c1 := below_cell hb c1; replace c2 := below_cell hb c2; replace c3 := below_cell hb c3; replace c4 := below_cell hb c4; replace c5 := below_cell hb c5; replace hB := below_step hB hb; clear hb)
    ((go_wp2_with fail); (with_reducible refine (hN _).mono ?_); rintro _ w1 ⟨rfl, hb⟩; replace c0 := below_cell hb c0; replace c1 := below_cell hb c1; replace c2 := below_cell hb c2; replace c3 := below_cell hb c3; replace c4 := below_cell hb c4; replace c5 := below_cell hb c5; replace hB := below_step hB hb; clear hb)
    have hb := below_alloc (Below.refl w1.heap.size w1) (.cells #[.int .i64 x, .int .i64 y, .int .i64 z] 54)
    have c6 : (w1.alloc (.cells #[.int .i64 x, .int .i64 y, .int .i64 z] 54)).cell? ⟨w1.heap.size, 0, none⟩ = some (.int .i64 x) := by simp [go_sem]
    have c7 : (w1.alloc (.cells #[.int .i64 x, .int .i64 y, .int .i64 z] 54)).cell? ⟨w1.heap.size, 1, none⟩ = some (.int .i64 y) := by simp [go_sem]
    have c8 : (w1.alloc (.cells #[.int .i64 x, .int .i64 y, .int .i64 z] 54)).cell? ⟨w1.heap.size, 2, none⟩ = some (.int .i64 z) := by simp [go_sem]
    (skip; replace c0 := below_cell hb c0; replace c1 := below_cell hb c1; replace c2 := below_cell hb c2; replace c3 := below_cell hb c3; replace c4 := below_cell hb c4; replace c5 := below_cell hb c5; replace hB := below_step hB hb; clear hb)
    go_wp2_with fail
    obtain ⟨W, hW⟩ : ∃ W, W = (w1.alloc (.cells #[.int .i64 x, .int .i64 y, .int .i64 z] 54)) := ⟨_, rfl⟩
    rw [← hW] at c0 c1 c2 c3 c4 c5 c6 c7 c8 hB
    rw [← hW]
    clear hW
    have HB := Lib.hid hB; clear hB
    clear hBest hN
    go_loopw [8, 9, 10] (fun i _ _ wr => ∃ j : Nat, (1 ≤ j ∧ j ≤ 4) ∧ i = .int .i64 j ∧ Below W.heap.size W wr) (fun i _ _ _ => 4 - (intOf i).toNat)
    case atStart => exact ⟨1, by omega, rfl, Below.refl _ _⟩
    case round =>
      obtain ⟨j, hj, rfl, hB⟩ := hrel
      replace c0 := below_cell hB c0
      replace c1 := below_cell hB c1
      replace c2 := below_cell hB c2
      replace c3 := below_cell hB c3
      replace c4 := below_cell hB c4
      replace c5 := below_cell hB c5
      replace c6 := below_cell hB c6
      replace c7 := below_cell hB c7
      replace c8 := below_cell hB c8
      by_cases hj3 : j ≤ 3
      · obtain ⟨t, ht, ht1, ht2, hcase⟩ := HK.out j (by omega)
        have hT := fun w => impl_ToleranceOf m j w
        simp only [ht] at hT
        clear ht
        have hV := fun w => impl_VerdictOf m a b j w
        have hU := fun w => impl_VerdictOf x y z j w
        have hN2 : o = true → verdB m a b j ≠ 2 → verdB x y z j = verdB m a b j := fun h1 h2 => by
          rcases HN.out with h | h
          · exact h.2.2.2.2.2.2.2 j (by omega) h2
          · rw [h1] at h; cases h.1
        revert hcase hV hU hN2
        generalize verdB m a b j = V
        generalize verdB x y z j = U
        intro hcase hV hU hN2
        have hcase : V = 1 ∧ -t ≤ a ∧ b ≤ t ∧ 0 < q ∧ q ≤ j ∧ (o = true → U = 1) ∨ V = 0 ∧ (b < -t ∨ t < a) ∧ (q ≤ 0 ∨ j < q) ∧ (o = true → U = 0) ∨ V = 2 ∧ -t ≤ b ∧ a ≤ t ∧ (a < -t ∨ t < b) ∧ (q ≤ 0 ∨ j < q) ∧ (o = true → U = U) := by
          rcases hcase with ⟨h, g⟩ | ⟨h, g⟩ | ⟨h, g⟩
          · exact Or.inl ⟨h, g.1, g.2.1, g.2.2.1, g.2.2.2, fun ho => (hN2 ho (by rw [h]; decide)).trans h⟩
          · exact Or.inr (Or.inl ⟨h, g.1, g.2, fun ho => (hN2 ho (by rw [h]; decide)).trans h⟩)
          · exact Or.inr (Or.inr ⟨h, g.1, g.2.1, g.2.2.1, g.2.2.2, fun _ => rfl⟩)
        clear hN2
        have hO : o = false ∨ o = true := by cases o <;> simp
        rcases hcase with ⟨rfl, k1, k2, k3, k4, kU⟩ | ⟨rfl, k1, k2 | k2, kU⟩ | ⟨rfl, k1, k2, k3 | k3, k4 | k4, kU⟩
        all_goals
          rcases hO with rfl | rfl
          · clear kU
            go_wp2_with (first | (go_at_call 35; (with_reducible refine (hV _).mono ?_); rintro _ w1 ⟨rfl, hb⟩; replace c0 := below_cell hb c0; replace c1 := below_cell hb c1; replace c2 := below_cell hb c2; replace c3 := below_cell hb c3; replace c4 := below_cell hb c4; replace c5 := below_cell hb c5; replace c6 := below_cell hb c6; replace c7 := below_cell hb c7; replace c8 := below_cell hb c8; replace hB := below_step hB hb; clear hb) | (go_at_call 36; (with_reducible refine (hT _).mono ?_); rintro _ w1 ⟨rfl, hb⟩; replace c0 := below_cell hb c0; replace c1 := below_cell hb c1; replace c2 := below_cell hb c2; replace c3 := below_cell hb c3; replace c4 := below_cell hb c4; replace c5 := below_cell hb c5; replace c6 := below_cell hb c6; replace c7 := below_cell hb c7; replace c8 := below_cell hb c8; replace hB := below_step hB hb; clear hb))
            all_goals
              go_roundw
              case rel => exact ⟨j + 1, by omega, by go_num, hB⟩
              case measure => simp [intOf]; omega
          · have hu := kU rfl
            clear kU
            first | subst hu | clear hu
            go_wp2_with (first | (go_at_call 35; (with_reducible refine (hV _).mono ?_); rintro _ w1 ⟨rfl, hb⟩; replace c0 := below_cell hb c0; replace c1 := below_cell hb c1; replace c2 := below_cell hb c2; replace c3 := below_cell hb c3; replace c4 := below_cell hb c4; replace c5 := below_cell hb c5; replace c6 := below_cell hb c6; replace c7 := below_cell hb c7; replace c8 := below_cell hb c8; replace hB := below_step hB hb; clear hb) | (go_at_call 35; (with_reducible refine (hU _).mono ?_); rintro _ w1 ⟨rfl, hb⟩; replace c0 := below_cell hb c0; replace c1 := below_cell hb c1; replace c2 := below_cell hb c2; replace c3 := below_cell hb c3; replace c4 := below_cell hb c4; replace c5 := below_cell hb c5; replace c6 := below_cell hb c6; replace c7 := below_cell hb c7; replace c8 := below_cell hb c8; replace hB := below_step hB hb; clear hb) | (go_at_call 36; (with_reducible refine (hT _).mono ?_); rintro _ w1 ⟨rfl, hb⟩; replace c0 := below_cell hb c0; replace c1 := below_cell hb c1; replace c2 := below_cell hb c2; replace c3 := below_cell hb c3; replace c4 := below_cell hb c4; replace c5 := below_cell hb c5; replace c6 := below_cell hb c6; replace c7 := below_cell hb c7; replace c8 := below_cell hb c8; replace hB := below_step hB hb; clear hb))
            all_goals
              go_roundw
              case rel => exact ⟨j + 1, by omega, by go_num, hB⟩
              case measure => simp [intOf]; omega
      · obtain rfl : j = 4 := by omega
        rcases HN.out with ⟨rfl, y1, y2, y3, y4, y5, y6, _⟩ | ⟨rfl, y1 | y1⟩
        all_goals
          go_wp2_with (first | (go_at_call 37; (with_reducible refine (hOk _).mono ?_); rintro _ w1 ⟨rfl, hb⟩; replace c0 := below_cell hb c0; replace c1 := below_cell hb c1; replace c2 := below_cell hb c2; replace c3 := below_cell hb c3; replace c4 := below_cell hb c4; replace c5 := below_cell hb c5; replace c6 := below_cell hb c6; replace c7 := below_cell hb c7; replace c8 := below_cell hb c8; replace hB := below_step hB hb; clear hb))
          go_ret
          exact ⟨by first | (simp; done) | (simp <;> omega), below_step HB.out hB⟩
  · rw [show decide (1048576 < n) = true by simp; omega] at hs
    go_enter Try.func9, Try.ntmps9
    ((go_wp2_with fail); (with_reducible refine (hs _).mono ?_); rintro _ _ ⟨rfl, rfl⟩)
    go_wp2_with fail
    go_ret
    exact ⟨rfl, hB⟩
end Go.Proofs.Ytoalpihlflifmaa
