/- HalveDown: what is refused; the law's walk. -/
import Derived.Test.YtoalpihlflifmaaHd
namespace Go.Proofs.Ytoalpihlflifmaa
open Go.RowKit
set_option linter.unusedSimpArgs false
set_option linter.unusedVariables false
set_option maxHeartbeats 4000000
theorem impl_HalveDown_no (a b : Int) (A : Option Addr) (n c : Nat) (v : Nat → Int) (w : World) (hn : n ≤ 1048576) (h : frB a b = false ∨ frB a b = true ∧ 8 < n) :
    Calls Try.prog 24 #[.agg #[.int .i64 a, .int .i64 b], .slice A n c] w (FR0 w false) := by
  have hF := fun w => impl_FracOk a b w
  obtain ⟨W, hW⟩ : ∃ W, W = (w.alloc (.cells #[.int .i64 a, .int .i64 b] 25)) := ⟨_, rfl⟩
  have c0 : W.cell? ⟨w.heap.size, 0, none⟩ = some (.int .i64 a) := by rw [hW]; simp [go_sem]
  have c1 : W.cell? ⟨w.heap.size, 1, none⟩ = some (.int .i64 b) := by rw [hW]; simp [go_sem]
  have hB : Below w.heap.size w W := by rw [hW]; exact ((Below.refl _ _).alloc (by simp <;> omega) _)
  subst hW
  rcases h with h | ⟨h, h8⟩
  all_goals
    rw [h] at hF
    clear h
    go_enter Try.func24, Try.ntmps24
    ((go_wp2_with fail); (with_reducible refine (hF _).mono ?_); rintro _ w1 ⟨rfl, hb⟩; replace c0 := below_cell hb c0; replace c1 := below_cell hb c1; replace hB := below_step hB hb; clear hb)
    go_wp2_with fail
    refine bodyPost_ret (by first | (simp [results, Try.results24, go_sem, *]; done) | (simp [results, Try.results24, go_sem, *]; rfl)) rfl ?_
    exact ⟨none, 0, rfl, hB⟩
theorem spec_HalveDown_no (a b : Int) (A : Option Addr) (n c : Nat) (v : Nat → Int) (w : World) (hn : n ≤ 1048576) (h : frB a b = false ∨ frB a b = true ∧ 8 < n) (f0 : Fl w A n 2 v) :
    Calls Try.prog 23 #[.agg #[.int .i64 a, .int .i64 b], .slice A n c] w (FR0 w false) := by
  have hF := fun w => spec_FracOk a b w
  have hH := fun w => spec_Halve a b (v 0) (v 1) w
  obtain ⟨X, Y, P, Q, O, hv, hO⟩ : ∃ (X Y P Q : Int) (O : Bool), hvV a b (v 0) (v 1) = .tuple #[.agg #[.int .i64 X, .int .i64 Y], .agg #[.int .i64 P, .int .i64 Q], .bool O] ∧ (frB a b = false → O = false) := by
    cases ho : hvO a b (v 0) (v 1)
    · exact ⟨_, _, _, _, _, hvV_no ho, fun _ => rfl⟩
    · refine ⟨_, _, _, _, _, hvV_yes ho, fun h => ?_⟩
      rw [hvO_left h] at ho; cases ho
  simp only [hv] at hH
  clear hv
  have hc : frB a b = false ∧ O = false ∧ n = 0 ∨ O = false ∧ 0 < n ∨ 8 < n := by
    rcases h with h | ⟨h, h8⟩
    · rcases Nat.eq_zero_or_pos n with h0 | h0
      · exact Or.inl ⟨h, hO h, h0⟩
      · exact Or.inr (Or.inl ⟨hO h, h0⟩)
    · exact Or.inr (Or.inr h8)
  clear h hO
  have HF := Lib.hid f0; clear f0
  obtain ⟨W, hW⟩ : ∃ W, W = (w.alloc (.cells #[.int .i64 a, .int .i64 b] 25)) := ⟨_, rfl⟩
  have c0 : W.cell? ⟨w.heap.size, 0, none⟩ = some (.int .i64 a) := by rw [hW]; simp [go_sem]
  have c1 : W.cell? ⟨w.heap.size, 1, none⟩ = some (.int .i64 b) := by rw [hW]; simp [go_sem]
  have hB : Below w.heap.size w W := by rw [hW]; exact ((Below.refl _ _).alloc (by simp <;> omega) _)
  subst hW
  go_enter Try.func23, Try.ntmps23
  go_wp2_with fail
  have k0 : OwnS ((w.alloc (.cells #[.int .i64 a, .int .i64 b] 25)).alloc (.cells #[.int .i64 a, .int .i64 b] 25)) w.heap.size (.slice (some ⟨w.heap.size + 1, 0, none⟩) 1 1) 1 [a, b] := by
    have := OwnS.one (w := w.alloc (.cells #[.int .i64 a, .int .i64 b] 25)) (B := w.heap.size) (x := a) (y := b) (by simp)
    simpa using this
  have hb := below_alloc (Below.refl (w.alloc (.cells #[.int .i64 a, .int .i64 b] 25)).heap.size (w.alloc (.cells #[.int .i64 a, .int .i64 b] 25))) (.cells #[.int .i64 a, .int .i64 b] 25)
  replace hB := below_step hB hb
  replace c0 := below_cell hb c0
  replace c1 := below_cell hb c1
  clear hb
  go_wp2_with fail
  go_loopw [6, 7] (fun s i wr => i = .int .i64 (0 : Nat) ∧ s = .slice (some ⟨w.heap.size + 1, 0, none⟩) 1 1 ∧ OwnS wr w.heap.size s 1 [a, b] ∧ wr.cell? ⟨w.heap.size, 0, none⟩ = some (.int .i64 a) ∧ wr.cell? ⟨w.heap.size, 1, none⟩ = some (.int .i64 b) ∧ Below w.heap.size w wr) (fun _ i _ => n - (intOf i).toNat)
  case atStart => exact ⟨rfl, rfl, k0, c0, c1, hB⟩
  case round =>
    clear k0 hB c0 c1
    obtain ⟨rfl, rfl, p0, c10, c11, hB⟩ := hrel
    by_cases hkn : 0 < n
    · obtain ⟨blk, off, rfl, hcs⟩ := (HF.out.below hB) (by omega)
      have c0 : wr.cell? ⟨blk, off, none⟩ = some (.int .i64 (v 0)) := hcs 0 (by omega)
      have c1 : wr.cell? ⟨blk, off + 1, none⟩ = some (.int .i64 (v 1)) := hcs 1 (by omega)
      clear hcs
      obtain ⟨g, cap, hs, ⟨hg, hcap⟩, o0⟩ := p0.at
      injection hs with hs1 hs2 hs3
      injection hs1 with hs1
      injection hs1 with hs1
      subst hs1
      subst hs3
      have c2 : wr.cell? ⟨w.heap.size + 1, 0, none⟩ = some (.int .i64 a) := o0.cell (j := 0) (by omega)
      have c3 : wr.cell? ⟨w.heap.size + 1, 1, none⟩ = some (.int .i64 b) := o0.cell (j := 1) (by omega)
      clear o0 hs2
      cases O
      · go_wp2_with fail
        apply region_made
        case hm => kernel_rfl
        case hok => kernel_rfl
        case hsz => rfl
        case hal => kernel_rfl
        case H =>
          intro u hu
          have Ec0 := ext_cell (below_cell hu c0)
          have Ec1 := ext_cell (below_cell hu c1)
          have Ec2 := ext_cell (below_cell hu c2)
          have Ec3 := ext_cell (below_cell hu c3)
          have Ec10 := ext_cell (below_cell hu c10)
          have Ec11 := ext_cell (below_cell hu c11)
          dsimp only [List.map, tame]
          (repeat (first | go_big_quiet_step (((go_at_call 20; exact calm_of (hH _)))) | simp only [TF]))
          exact wpQuiet_nil rfl
        case hst => simp only [storesOk, true_and, and_true]; exact ⟨⟨_, rfl, sizeFraction, by simp [Value.oneCell']⟩, ⟨_, rfl, sizeFraction, by simp [Value.oneCell']⟩⟩
        intro G w1 hb hf hd
        simp only [madeFacts, true_and, and_true] at hf
        obtain ⟨⟨hg8, hh8⟩, ⟨hg9, hh9⟩⟩ := hf
        have hd8_9 := hd 8 (by decide) 9 (by decide) (by decide)
        clear hd
        dsimp only [alSlots, List.filterMap, putAll]
        have c6 : w1.cell? ⟨G 8, 0, none⟩ = some (.int .i64 X) := made_cell hh8 rfl
        have c7 : w1.cell? ⟨G 8, 1, none⟩ = some (.int .i64 Y) := made_cell hh8 rfl
        clear hh8
        have c8 : w1.cell? ⟨G 9, 0, none⟩ = some (.int .i64 P) := made_cell hh9 rfl
        have c9 : w1.cell? ⟨G 9, 1, none⟩ = some (.int .i64 Q) := made_cell hh9 rfl
        clear hh9
        generalize G 8 = g8 at *
        generalize G 9 = g9 at *
        simp only [Act.put, List.setIfInBounds_toArray, List.set_cons_succ, List.set_cons_zero]
        (replace c0 := below_cell hb c0; replace c1 := below_cell hb c1; replace c2 := below_cell hb c2; replace c3 := below_cell hb c3; replace c10 := below_cell hb c10; replace c11 := below_cell hb c11; replace p0 := OwnS.below p0 hb; replace hB := below_step hB hb; clear hb)
        go_wp2_with fail
        refine bodyPost_ret (by first | (simp [results, Try.results23, go_sem, *]; done) | (simp [results, Try.results23, go_sem, *]; rfl)) rfl ?_
        exact ⟨_, _, rfl, by (repeat (first | exact Below.refl _ _ | assumption | (refine Below.drew ?_) | (refine below_alloc ?_ _) | (refine Below.setCell ?_ (by first | (simp; done) | (simp; omega) | omega | (have hq := hB.size; (try simp at hq ⊢); omega)) _) | (refine Below.alloc ?_ (by first | (simp; done) | (simp; omega) | omega | (have hq := hB.size; (try simp at hq ⊢); omega)) _) | (refine below_step ?_ (by assumption))))⟩
      · have h8 : 8 < n := by simpa [hkn, Nat.ne_of_gt hkn] using hc
        go_wp2_with fail
        apply region_made
        case hm => kernel_rfl
        case hok => kernel_rfl
        case hsz => rfl
        case hal => kernel_rfl
        case H =>
          intro u hu
          have Ec0 := ext_cell (below_cell hu c0)
          have Ec1 := ext_cell (below_cell hu c1)
          have Ec2 := ext_cell (below_cell hu c2)
          have Ec3 := ext_cell (below_cell hu c3)
          have Ec10 := ext_cell (below_cell hu c10)
          have Ec11 := ext_cell (below_cell hu c11)
          dsimp only [List.map, tame]
          (repeat (first | go_big_quiet_step (((go_at_call 20; exact calm_of (hH _)))) | simp only [TF]))
          exact wpQuiet_nil rfl
        case hst => simp only [storesOk, true_and, and_true]; exact ⟨⟨_, rfl, sizeFraction, by simp [Value.oneCell']⟩, ⟨_, rfl, sizeFraction, by simp [Value.oneCell']⟩⟩
        intro G w1 hb hf hd
        simp only [madeFacts, true_and, and_true] at hf
        obtain ⟨⟨hg8, hh8⟩, ⟨hg9, hh9⟩⟩ := hf
        have hd8_9 := hd 8 (by decide) 9 (by decide) (by decide)
        clear hd
        dsimp only [alSlots, List.filterMap, putAll]
        have c6 : w1.cell? ⟨G 8, 0, none⟩ = some (.int .i64 X) := made_cell hh8 rfl
        have c7 : w1.cell? ⟨G 8, 1, none⟩ = some (.int .i64 Y) := made_cell hh8 rfl
        clear hh8
        have c8 : w1.cell? ⟨G 9, 0, none⟩ = some (.int .i64 P) := made_cell hh9 rfl
        have c9 : w1.cell? ⟨G 9, 1, none⟩ = some (.int .i64 Q) := made_cell hh9 rfl
        clear hh9
        generalize G 8 = g8 at *
        generalize G 9 = g9 at *
        simp only [Act.put, List.setIfInBounds_toArray, List.set_cons_succ, List.set_cons_zero]
        (replace c0 := below_cell hb c0; replace c1 := below_cell hb c1; replace c2 := below_cell hb c2; replace c3 := below_cell hb c3; replace c10 := below_cell hb c10; replace c11 := below_cell hb c11; replace p0 := OwnS.below p0 hb; replace hB := below_step hB hb; clear hb)
        go_wp2_with fail
        refine bodyPost_ret (by first | (simp [results, Try.results23, go_sem, *]; done) | (simp [results, Try.results23, go_sem, *]; rfl)) rfl ?_
        exact ⟨_, _, rfl, by (repeat (first | exact Below.refl _ _ | assumption | (refine Below.drew ?_) | (refine below_alloc ?_ _) | (refine Below.setCell ?_ (by first | (simp; done) | (simp; omega) | omega | (have hq := hB.size; (try simp at hq ⊢); omega)) _) | (refine Below.alloc ?_ (by first | (simp; done) | (simp; omega) | omega | (have hq := hB.size; (try simp at hq ⊢); omega)) _) | (refine below_step ?_ (by assumption))))⟩
    · obtain rfl : n = 0 := by omega
      have hfr : frB a b = false := by
        rcases hc with ⟨h, _⟩ | ⟨_, h⟩ | h
        · exact h
        · omega
        · omega
      rw [hfr] at hF
      clear hfr hc
      ((go_wp2_with fail); (with_reducible refine (hF _).mono ?_); rintro _ w1 ⟨rfl, hb⟩; replace c10 := below_cell hb c10; replace c11 := below_cell hb c11; replace p0 := OwnS.below p0 hb; replace hB := below_step hB hb; clear hb)
      go_wp2_with fail
      refine bodyPost_ret (by first | (simp [results, Try.results23, go_sem, *]; done) | (simp [results, Try.results23, go_sem, *]; rfl)) rfl ?_
      exact ⟨_, _, rfl, by (repeat (first | exact Below.refl _ _ | assumption | (refine Below.drew ?_) | (refine below_alloc ?_ _) | (refine Below.setCell ?_ (by first | (simp; done) | (simp; omega) | omega | (have hq := hB.size; (try simp at hq ⊢); omega)) _) | (refine Below.alloc ?_ (by first | (simp; done) | (simp; omega) | omega | (have hq := hB.size; (try simp at hq ⊢); omega)) _) | (refine below_step ?_ (by assumption))))⟩
theorem walkHalveDown (a b : Int) (A : Option Addr) (n c : Nat) (v : Nat → Int) (w : World) (hm : n ≤ maxLen) (f0 : Fl w A n 2 v) :
    Calls Try.prog 6 #[.agg #[.int .i64 a, .int .i64 b], .slice A n c] w fun e w' => e = .returned (.bool true) ∧ Below w.heap.size w w' := by
  by_cases hn : n ≤ 1048576
  · by_cases h : frB a b = false ∨ frB a b = true ∧ 8 < n
    · exact walkFHalveDown0 a b A n c v w hm hn f0 false (fun A c w f => spec_HalveDown_no a b A n c v w hn h f) (fun A c w f => impl_HalveDown_no a b A n c v w hn h)
    · have h1 : frB a b = true := by
        cases e : frB a b
        · exact absurd (Or.inl e) h
        · rfl
      have h8 : n ≤ 8 := by
        rcases Nat.lt_or_ge 8 n with h2 | h2
        · exact absurd (Or.inr ⟨h1, h2⟩) h
        · exact h2
      cases hs' : hs a b v n with
      | none => exact walkFHalveDown0 a b A n c v w hm hn f0 false (fun A c w f => by have := spec_HalveDown a b A n c v w h1 h8 f; rw [hs'] at this; exact this) (fun A c w f => by have := impl_HalveDown a b A n c v w h1 h8 f; rw [hs'] at this; exact this)
      | some r =>
        obtain ⟨m, t, u⟩ := r
        exact walkFHalveDown1 a b A n c v w hm hn f0 true (n + 1) (fun j => (m ++ [t, u]).getD j 0) (by omega) (fun A c w f => by have := spec_HalveDown a b A n c v w h1 h8 f; rw [hs'] at this; exact this) (fun A c w f => by have := impl_HalveDown a b A n c v w h1 h8 f; rw [hs'] at this; exact this)
  · exact walkFHalveDown2 a b A n c v w hm hn
end Go.Proofs.Ytoalpihlflifmaa
