/- DecadeOf: the values, what is refused, the law's walk. -/
import Derived.Test.YtoalpihlflifmaaDecS
import Derived.Test.YtoalpihlflifmaaSumFLaws
namespace Go.Proofs.Ytoalpihlflifmaa
open Go.RowKit
set_option linter.unusedSimpArgs false
set_option linter.unusedVariables false
set_option maxHeartbeats 4000000
theorem and_drop {a b : Bool} (h : a = false → b = false) : (a && b) = b := by
  cases a <;> cases b <;> simp at h ⊢
theorem dec_both (a b : Int) (v : Nat → Int) (h0 : frB a b = true) (hd : ∀ k, k < 4 → frB (v (k * 2)) (v (k * 2 + 1)) = true) : ∃ (o : Bool) (z : Nat → Int),
    (∀ A c w, Fl w A 4 2 v → Calls Try.prog 27 #[.agg #[.int .i64 a, .int .i64 b], .slice A 4 c] w fun e w' => if o = true then FR1 w 4 z true e w' else FR0 w false e w') ∧
    (∀ A c w, Fl w A 4 2 v → Calls Try.prog 28 #[.agg #[.int .i64 a, .int .i64 b], .slice A 4 c] w fun e w' => if o = true then FR1 w 4 z true e w' else FR0 w false e w') := by
  obtain ⟨P, Q, P', Q', O2, hv⟩ := hvV_form (aT a b (ng (v 0)) (v 1)) (aB a b (ng (v 0)) (v 1)) (v 2) (v 3)
  obtain ⟨S, T, O3, hs⟩ := sumV_form 5 (lz v P' Q')
  refine ⟨_, _, fun A c w f0 => spec_DecadeX a b A c v w h0 hd f0 (ng (v 0)) (ng (v 4)) (ng (v 6)) (aT a b (ng (v 0)) (v 1)) (aB a b (ng (v 0)) (v 1)) P Q P' Q' S T (tT S T 1 5) (tB S T 1 5)
    (aT (tT S T 1 5) (tB S T 1 5) (ng (v 4)) (v 5)) (aB (tT S T 1 5) (tB S T 1 5) (ng (v 4)) (v 5)) (hT (tT S T 1 5) (tB S T 1 5) (ng (v 6)) (v 7)) (hB' (tT S T 1 5) (tB S T 1 5) (ng (v 6)) (v 7))
    (aO a b (ng (v 0)) (v 1)) O2 O3 (tO S T 1 5) (aO (tT S T 1 5) (tB S T 1 5) (ng (v 4)) (v 5)) (hO (tT S T 1 5) (tB S T 1 5) (ng (v 6)) (v 7))
    (fun w => spec_minus _ _ w) (fun w => spec_minus _ _ w) (fun w => spec_minus _ _ w) (fun w => by rw [← addV_eq]; exact spec_Add _ _ _ _ w) (fun w => by rw [← hv]; exact spec_Halve _ _ _ _ w)
    (fun g w ow => by rw [← hs]; exact spec_Sum _ 5 5 _ w (by decide) (ow.fl (Nat.le_refl _))) (fun w => by rw [← timV_eq]; exact spec_Times _ _ _ _ w) (fun w => by rw [← addV_eq]; exact spec_Add _ _ _ _ w) (fun w => spec_half _ _ _ _ w), fun A c w f0 => ?_⟩
  have hi := impl_DecadeX a b A c v w h0 hd f0 (aT a b (ng (v 0)) (v 1)) (aB a b (ng (v 0)) (v 1)) P Q P' Q' S T (tT S T 1 5) (tB S T 1 5)
    (aT (tT S T 1 5) (tB S T 1 5) (ng (v 4)) (v 5)) (aB (tT S T 1 5) (tB S T 1 5) (ng (v 4)) (v 5)) (aT (tT S T 1 5) (tB S T 1 5) (ng (v 6)) (v 7)) (aB (tT S T 1 5) (tB S T 1 5) (ng (v 6)) (v 7)) (hT (tT S T 1 5) (tB S T 1 5) (ng (v 6)) (v 7)) (hB' (tT S T 1 5) (tB S T 1 5) (ng (v 6)) (v 7))
    (aO a b (ng (v 0)) (v 1)) O2 O3 (tO S T 1 5) (aO (tT S T 1 5) (tB S T 1 5) (ng (v 4)) (v 5)) (aO (tT S T 1 5) (tB S T 1 5) (ng (v 6)) (v 7)) (hO (tT S T 1 5) (tB S T 1 5) (ng (v 6)) (v 7))
    (fun w => impl_minus _ _ _ _ w) (fun w => by rw [← hv]; exact impl_Halve _ _ _ _ w) (fun g w ow => by rw [← hs]; exact impl_Sum _ 5 5 _ w (by decide) (ow.fl (Nat.le_refl _))) (fun w => impl_timesPart _ _ _ w) (fun w => impl_minus _ _ _ _ w) (fun w => impl_minus _ _ _ _ w) (fun w => impl_timesPart _ _ _ w)
  rw [Bool.and_assoc _ (aO (tT S T 1 5) (tB S T 1 5) (ng (v 6)) (v 7)), and_drop (fun h => hO_add h)] at hi
  exact hi
theorem impl_Dec_no (a b : Int) (A : Option Addr) (n c : Nat) (v : Nat → Int) (w : World) (hn : n ≤ 1048576) (h : n ≠ 4 ∨ n = 4 ∧ frB a b = false) :
    Calls Try.prog 28 #[.agg #[.int .i64 a, .int .i64 b], .slice A n c] w (FR0 w false) := by
  have hF := fun w => impl_FracOk a b w
  obtain ⟨W, hW⟩ : ∃ W, W = (w.alloc (.cells #[.int .i64 a, .int .i64 b] 25)) := ⟨_, rfl⟩
  have c0 : W.cell? ⟨w.heap.size, 0, none⟩ = some (.int .i64 a) := by rw [hW]; simp [go_sem]
  have c1 : W.cell? ⟨w.heap.size, 1, none⟩ = some (.int .i64 b) := by rw [hW]; simp [go_sem]
  have hB : Below w.heap.size w W := by rw [hW]; exact ((Below.refl _ _).alloc (by simp <;> omega) _)
  subst hW
  rcases h with h | ⟨rfl, h⟩
  · have hne : ((n : Int) == 4) = false := by simp; omega
    have hne2 : ((n : Int) != 4) = true := by simp; omega
    go_enter Try.func28, Try.ntmps28
    go_wp2_with fail
    refine bodyPost_ret (by first | (simp [results, Try.results28, go_sem, *]; done) | (simp [results, Try.results28, go_sem, *]; rfl)) rfl ?_
    exact ⟨none, 0, rfl, hB⟩
  · rw [h] at hF
    clear h
    go_enter Try.func28, Try.ntmps28
    ((go_wp2_with fail); (with_reducible refine (hF _).mono ?_); rintro _ w1 ⟨rfl, hb⟩; replace c0 := below_cell hb c0; replace c1 := below_cell hb c1; replace hB := below_step hB hb; clear hb)
    go_wp2_with fail
    refine bodyPost_ret (by first | (simp [results, Try.results28, go_sem, *]; done) | (simp [results, Try.results28, go_sem, *]; rfl)) rfl ?_
    exact ⟨none, 0, rfl, hB⟩
theorem impl_Dec_bad (a b : Int) (A : Option Addr) (c : Nat) (v : Nat → Int) (w : World) (h0 : frB a b = true) (k0 : Nat) (hk0 : k0 < 4) (hbad : frB (v (k0 * 2)) (v (k0 * 2 + 1)) = false) (hd : ∀ k, k < k0 → frB (v (k * 2)) (v (k * 2 + 1)) = true) (f0 : Fl w A 4 2 v) :
    Calls Try.prog 28 #[.agg #[.int .i64 a, .int .i64 b], .slice A 4 c] w (FR0 w false) := by
  have hF := fun w => impl_FracOk a b w
  rw [h0] at hF
  have HD := Lib.hid hd; clear hd
  have HBAD := Lib.hid hbad; clear hbad
  obtain ⟨W, hW⟩ : ∃ W, W = (w.alloc (.cells #[.int .i64 a, .int .i64 b] 25)) := ⟨_, rfl⟩
  have c0 : W.cell? ⟨w.heap.size, 0, none⟩ = some (.int .i64 a) := by rw [hW]; simp [go_sem]
  have c1 : W.cell? ⟨w.heap.size, 1, none⟩ = some (.int .i64 b) := by rw [hW]; simp [go_sem]
  have hB : Below w.heap.size w W := by rw [hW]; exact ((Below.refl _ _).alloc (by simp <;> omega) _)
  subst hW
  replace f0 := f0.below hB
  go_enter Try.func28, Try.ntmps28
  ((go_wp2_with fail); (with_reducible refine (hF _).mono ?_); rintro _ w1 ⟨rfl, hb⟩; replace f0 := Fl.below f0 hb; replace c0 := below_cell hb c0; replace c1 := below_cell hb c1; replace hB := below_step hB hb; clear hb)
  clear hF h0 c0 c1
  go_wp2_with fail
  go_loopw [7, 33] (fun _ i wr => ∃ k : Nat, k ≤ k0 ∧ i = .int .i64 k ∧ Fl wr A 4 2 v ∧ Below w.heap.size w wr) (fun _ i _ => 4 - (intOf i).toNat)
  case atStart => exact ⟨0, by omega, rfl, f0, hB⟩
  case round =>
    clear f0 hB
    obtain ⟨k, hk, rfl, f0, hB⟩ := hrel
    have hk4 : k < 4 := by omega
    obtain ⟨blk, off, rfl, hcs⟩ := f0 (by omega)
    have c2 := hcs (k * 2) (by omega)
    have c3 := hcs (k * 2 + 1) (by omega)
    rw [← Nat.add_assoc] at c3
    clear hcs
    have hK := fun w => impl_FracOk (v (k * 2)) (v (k * 2 + 1)) w
    have hb := below_alloc (Below.refl wr.heap.size wr) (.cells #[.int .i64 (v (k * 2)), .int .i64 (v (k * 2 + 1))] 25)
    by_cases hkk : k < k0
    · rw [HD.out k hkk] at hK
      go_wp2_with fail
      (skip; replace f0 := Fl.below f0 hb; replace hB := below_step hB hb; clear hb)
      ((go_wp2_with fail); (with_reducible refine (hK _).mono ?_); rintro _ w1 ⟨rfl, hb⟩; replace f0 := Fl.below f0 hb; replace hB := below_step hB hb; clear hb)
      go_wp2_with fail
      go_roundw
      case rel => exact ⟨k + 1, by omega, by go_num, f0, hB⟩
      case measure => simp [intOf]; omega
    · obtain rfl : k = k0 := by omega
      rw [HBAD.out] at hK
      go_wp2_with fail
      (skip; replace f0 := Fl.below f0 hb; replace hB := below_step hB hb; clear hb)
      ((go_wp2_with fail); (with_reducible refine (hK _).mono ?_); rintro _ w1 ⟨rfl, hb⟩; replace f0 := Fl.below f0 hb; replace hB := below_step hB hb; clear hb)
      go_wp2_with fail
      refine bodyPost_ret (by first | (simp [results, Try.results28, go_sem, *]; done) | (simp [results, Try.results28, go_sem, *]; rfl)) rfl ?_
      exact ⟨none, 0, rfl, hB⟩
theorem spec_Dec_no (a b : Int) (A : Option Addr) (n c : Nat) (v : Nat → Int) (w : World) (hn : n ≤ 1048576) (h : n ≠ 4 ∨ n = 4 ∧ frB a b = false) :
    Calls Try.prog 27 #[.agg #[.int .i64 a, .int .i64 b], .slice A n c] w (FR0 w false) := by
  have hF := fun w => spec_FracOk a b w
  obtain ⟨W, hW⟩ : ∃ W, W = (w.alloc (.cells #[.int .i64 a, .int .i64 b] 25)) := ⟨_, rfl⟩
  have c0 : W.cell? ⟨w.heap.size, 0, none⟩ = some (.int .i64 a) := by rw [hW]; simp [go_sem]
  have c1 : W.cell? ⟨w.heap.size, 1, none⟩ = some (.int .i64 b) := by rw [hW]; simp [go_sem]
  have hB : Below w.heap.size w W := by rw [hW]; exact ((Below.refl _ _).alloc (by simp <;> omega) _)
  subst hW
  have hb := below_alloc (Below.refl (w.alloc (.cells #[.int .i64 a, .int .i64 b] 25)).heap.size (w.alloc (.cells #[.int .i64 a, .int .i64 b] 25))) (.cells #[] 25)
  rcases h with h | ⟨rfl, h⟩
  · have hne : ((n : Int) == 4) = false := by simp; omega
    have hne2 : ((n : Int) != 4) = true := by simp; omega
    go_enter Try.func27, Try.ntmps27
    go_wp2_with fail
    refine bodyPost_ret (by first | (simp [results, Try.results27, go_sem, *]; done) | (simp [results, Try.results27, go_sem, *]; rfl)) rfl ?_
    exact ⟨_, _, rfl, by (repeat (first | exact Below.refl _ _ | assumption | (refine Below.drew ?_) | (refine below_alloc ?_ _) | (refine Below.setCell ?_ (by first | (simp; done) | (simp; omega) | omega | (have hq := hB.size; (try simp at hq ⊢); omega)) _) | (refine Below.alloc ?_ (by first | (simp; done) | (simp; omega) | omega | (have hq := hB.size; (try simp at hq ⊢); omega)) _) | (refine below_step ?_ (by assumption))))⟩
  · rw [h] at hF
    clear h
    go_enter Try.func27, Try.ntmps27
    (skip; replace c0 := below_cell hb c0; replace c1 := below_cell hb c1; replace hB := below_step hB hb; clear hb)
    ((go_wp2_with fail); (with_reducible refine (hF _).mono ?_); rintro _ w1 ⟨rfl, hb⟩; replace c0 := below_cell hb c0; replace c1 := below_cell hb c1; replace hB := below_step hB hb; clear hb)
    go_wp2_with fail
    refine bodyPost_ret (by first | (simp [results, Try.results27, go_sem, *]; done) | (simp [results, Try.results27, go_sem, *]; rfl)) rfl ?_
    exact ⟨_, _, rfl, by (repeat (first | exact Below.refl _ _ | assumption | (refine Below.drew ?_) | (refine below_alloc ?_ _) | (refine Below.setCell ?_ (by first | (simp; done) | (simp; omega) | omega | (have hq := hB.size; (try simp at hq ⊢); omega)) _) | (refine Below.alloc ?_ (by first | (simp; done) | (simp; omega) | omega | (have hq := hB.size; (try simp at hq ⊢); omega)) _) | (refine below_step ?_ (by assumption))))⟩
theorem spec_Dec_bad (a b : Int) (A : Option Addr) (c : Nat) (v : Nat → Int) (w : World) (h0 : frB a b = true) (k0 : Nat) (hk0 : k0 < 4) (hbad : frB (v (k0 * 2)) (v (k0 * 2 + 1)) = false) (hd : ∀ k, k < k0 → frB (v (k * 2)) (v (k * 2 + 1)) = true) (f0 : Fl w A 4 2 v) :
    Calls Try.prog 27 #[.agg #[.int .i64 a, .int .i64 b], .slice A 4 c] w (FR0 w false) := by
  have hF := fun w => spec_FracOk a b w
  rw [h0] at hF
  have HD := Lib.hid hd; clear hd
  have HBAD := Lib.hid hbad; clear hbad
  obtain ⟨W, hW⟩ : ∃ W, W = (w.alloc (.cells #[.int .i64 a, .int .i64 b] 25)) := ⟨_, rfl⟩
  have c0 : W.cell? ⟨w.heap.size, 0, none⟩ = some (.int .i64 a) := by rw [hW]; simp [go_sem]
  have c1 : W.cell? ⟨w.heap.size, 1, none⟩ = some (.int .i64 b) := by rw [hW]; simp [go_sem]
  have hB : Below w.heap.size w W := by rw [hW]; exact ((Below.refl _ _).alloc (by simp <;> omega) _)
  subst hW
  replace f0 := f0.below hB
  go_enter Try.func27, Try.ntmps27
  have hb := below_alloc (Below.refl (w.alloc (.cells #[.int .i64 a, .int .i64 b] 25)).heap.size (w.alloc (.cells #[.int .i64 a, .int .i64 b] 25))) (.cells #[] 25)
  (skip; replace f0 := Fl.below f0 hb; replace c0 := below_cell hb c0; replace c1 := below_cell hb c1; replace hB := below_step hB hb; clear hb)
  ((go_wp2_with fail); (with_reducible refine (hF _).mono ?_); rintro _ w1 ⟨rfl, hb⟩; replace f0 := Fl.below f0 hb; replace c0 := below_cell hb c0; replace c1 := below_cell hb c1; replace hB := below_step hB hb; clear hb)
  clear hF h0 c0 c1
  go_wp2_with fail
  go_loopw [7] (fun i wr => ∃ k : Nat, k ≤ k0 ∧ i = .int .i64 k ∧ Fl wr A 4 2 v ∧ Below w.heap.size w wr) (fun i _ => 4 - (intOf i).toNat)
  case atStart => exact ⟨0, by omega, rfl, f0, hB⟩
  case round =>
    clear f0 hB
    obtain ⟨k, hk, rfl, f0, hB⟩ := hrel
    have hk4 : k < 4 := by omega
    obtain ⟨blk, off, rfl, hcs⟩ := f0 (by omega)
    have c2 := hcs (k * 2) (by omega)
    have c3 := hcs (k * 2 + 1) (by omega)
    rw [← Nat.add_assoc] at c3
    clear hcs
    have hK := fun w => spec_FracOk (v (k * 2)) (v (k * 2 + 1)) w
    by_cases hkk : k < k0
    · rw [HD.out k hkk] at hK
      ((go_wp2_with fail); (with_reducible refine (hK _).mono ?_); rintro _ w1 ⟨rfl, hb⟩; replace f0 := Fl.below f0 hb; replace hB := below_step hB hb; clear hb)
      go_wp2_with fail
      go_roundw
      case rel => exact ⟨k + 1, by omega, by go_num, f0, hB⟩
      case measure => simp [intOf]; omega
    · obtain rfl : k = k0 := by omega
      rw [HBAD.out] at hK
      ((go_wp2_with fail); (with_reducible refine (hK _).mono ?_); rintro _ w1 ⟨rfl, hb⟩; replace f0 := Fl.below f0 hb; replace hB := below_step hB hb; clear hb)
      go_wp2_with fail
      refine bodyPost_ret (by first | (simp [results, Try.results27, go_sem, *]; done) | (simp [results, Try.results27, go_sem, *]; rfl)) rfl ?_
      exact ⟨_, _, rfl, by (repeat (first | exact Below.refl _ _ | assumption | (refine Below.drew ?_) | (refine below_alloc ?_ _) | (refine Below.setCell ?_ (by first | (simp; done) | (simp; omega) | omega | (have hq := hB.size; (try simp at hq ⊢); omega)) _) | (refine Below.alloc ?_ (by first | (simp; done) | (simp; omega) | omega | (have hq := hB.size; (try simp at hq ⊢); omega)) _) | (refine below_step ?_ (by assumption))))⟩
theorem first_bad {p : Nat → Bool} {n : Nat} (h : ¬ ∀ k, k < n → p k = true) : ∃ k, k < n ∧ p k = false ∧ ∀ j, j < k → p j = true := by
  induction n with
  | zero => exact absurd (fun k hk => absurd hk (by omega)) h
  | succ n ih =>
    by_cases h2 : ∀ k, k < n → p k = true
    · refine ⟨n, by omega, ?_, h2⟩
      cases e : p n
      · rfl
      · refine absurd (fun k hk => ?_) h
        rcases Nat.lt_or_ge k n with h3 | h3
        · exact h2 k h3
        · obtain rfl : k = n := by omega
          exact e
    · obtain ⟨k, h3, h4, h5⟩ := ih h2
      exact ⟨k, by omega, h4, h5⟩
theorem walkDecadeOf (a b : Int) (A : Option Addr) (n c : Nat) (v : Nat → Int) (w : World) (hm : n ≤ maxLen) (f0 : Fl w A n 2 v) :
    Calls Try.prog 7 #[.agg #[.int .i64 a, .int .i64 b], .slice A n c] w fun e w' => e = .returned (.bool true) ∧ Below w.heap.size w w' := by
  by_cases hn : n ≤ 1048576
  · by_cases h : n ≠ 4 ∨ n = 4 ∧ frB a b = false
    · exact walkFDecadeOf0 a b A n c v w hm hn f0 false (fun A c w f => spec_Dec_no a b A n c v w hn h) (fun A c w f => impl_Dec_no a b A n c v w hn h)
    · have h4 : n = 4 := by
        rcases Nat.decEq n 4 with h1 | h1
        · exact absurd (Or.inl h1) h
        · exact h1
      subst h4
      have h1 : frB a b = true := by
        cases e : frB a b
        · exact absurd (Or.inr ⟨rfl, e⟩) h
        · rfl
      by_cases hall : ∀ k, k < 4 → frB (v (k * 2)) (v (k * 2 + 1)) = true
      · obtain ⟨o, z, hS, hI⟩ := dec_both a b v h1 hall
        cases o
        · exact walkFDecadeOf0 a b A 4 c v w hm hn f0 false (fun A c w f => hS A c w f) (fun A c w f => hI A c w f)
        · exact walkFDecadeOf1 a b A 4 c v w hm hn f0 true 4 z (by decide) (fun A c w f => hS A c w f) (fun A c w f => hI A c w f)
      · obtain ⟨k0, h2, h3, h5⟩ := first_bad (p := fun k => frB (v (k * 2)) (v (k * 2 + 1))) hall
        exact walkFDecadeOf0 a b A 4 c v w hm hn f0 false (fun A c w f => spec_Dec_bad a b A c v w h1 k0 h2 h3 h5 f) (fun A c w f => impl_Dec_bad a b A c v w h1 k0 h2 h3 h5 f)
  · exact walkFDecadeOf2 a b A n c v w hm hn
end Go.Proofs.Ytoalpihlflifmaa
