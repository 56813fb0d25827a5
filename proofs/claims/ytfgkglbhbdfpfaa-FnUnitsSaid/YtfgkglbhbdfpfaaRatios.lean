/- The contracts of RatiosOk: the program's function and the reference's return the same bool ratB. A length of at most 2^20 alone is asked. -/
import Derived.Test.YtfgkglbhbdfpfaaGcd
import Derived.Test.YtfgkglbhbdfpfaaSlc
import Derived.Test.YtfgkglbhbdfpfaaRatioS
namespace Go.Proofs.Ytfgkglbhbdfpfaa
open Go.RowKit
set_option linter.unusedSimpArgs false
set_option linter.unusedVariables false
set_option maxHeartbeats 4000000
def ratP (v : Nat → Int) (k : Nat) : Bool := inB (v (k * 4)) 0 9 && inB (v (k * 4 + 1)) 0 9 && !(v (k * 4) == v (k * 4 + 1)) && frB (v (k * 4 + 2)) (v (k * 4 + 3)) && decide (0 < v (k * 4 + 2))
def ratB (n : Nat) (v : Nat → Int) : Bool := decide (n ≤ 12) && allN (ratP v) n
theorem ratB_no {n k : Nat} {v : Nat → Int} (hk : k < n) (h : ratP v k = false) : ratB n v = false := by simp [ratB, allN_no hk h]
theorem impl_RatiosOk (A : Option Addr) (n c : Nat) (v : Nat → Int) (w : World) (hm : n ≤ 1048576) (f0 : Fl w A n 4 v) : Calls Try.prog 12 #[.slice A n c] w fun e w' => e = .returned (.bool (ratB n v)) ∧ Below w.heap.size w w' := by
  by_cases h1 : n ≤ 12
  · go_enter Try.func12, Try.ntmps12
    go_wp2_with fail
    go_loopw [10] (fun x wr => ∃ k : Nat, k ≤ n ∧ x = .int .i64 k ∧ allN (ratP v) k = true ∧ Below w.heap.size w wr) (fun x _ => n - (intOf x).toNat)
    case atStart => exact ⟨0, Nat.zero_le _, rfl, rfl, Below.refl _ _⟩
    case round =>
      obtain ⟨k, hk, rfl, hs, hB⟩ := hrel
      by_cases hkn : k < n
      · obtain ⟨b, off, rfl, hc⟩ := (f0.below hB) (by omega)
        have c0 : wr.cell? ⟨b, off + k * 4, none⟩ = _ := hc (k * 4) (by omega)
        have c1 : wr.cell? ⟨b, off + k * 4 + 1, none⟩ = _ := hc (k * 4 + 1) (by omega)
        have c2 : wr.cell? ⟨b, off + k * 4 + 2, none⟩ = _ := hc (k * 4 + 2) (by omega)
        have c3 : wr.cell? ⟨b, off + k * 4 + 3, none⟩ = _ := hc (k * 4 + 3) (by omega)
        clear f0 hc
        have hcs : inB (v (k * 4)) 0 9 = false ∨ (inB (v (k * 4)) 0 9 = true ∧ (inB (v (k * 4 + 1)) 0 9 = false ∨ (inB (v (k * 4 + 1)) 0 9 = true ∧ ((v (k * 4) == v (k * 4 + 1)) = true ∨ ((v (k * 4) == v (k * 4 + 1)) = false ∧ (frB (v (k * 4 + 2)) (v (k * 4 + 3)) = false ∨ (frB (v (k * 4 + 2)) (v (k * 4 + 3)) = true ∧ (v (k * 4 + 2) ≤ 0 ∨ 0 < v (k * 4 + 2))))))))) := by
          cases inB (v (k * 4)) 0 9 <;> cases inB (v (k * 4 + 1)) 0 9 <;> cases (v (k * 4) == v (k * 4 + 1)) <;> cases frB (v (k * 4 + 2)) (v (k * 4 + 3)) <;> simp <;> omega
        have hb := below_alloc (Below.refl wr.heap.size wr) (.cells #[.int .i64 (v (k * 4)), .int .i64 (v (k * 4 + 1)), .int .i64 (v (k * 4 + 2)), .int .i64 (v (k * 4 + 3))] 46)
        have c4 : (wr.alloc (.cells #[.int .i64 (v (k * 4)), .int .i64 (v (k * 4 + 1)), .int .i64 (v (k * 4 + 2)), .int .i64 (v (k * 4 + 3))] 46)).cell? ⟨wr.heap.size, 2, none⟩ = some (.int .i64 (v (k * 4 + 2))) := by simp [go_sem]
        have hB2 := below_step hB hb
        clear hb
        have hF := fun w => impl_FracOk (v (k * 4 + 2)) (v (k * 4 + 3)) w
        rcases hcs with t1 | ⟨t1, t2 | ⟨t2, t3 | ⟨t3, t4 | ⟨t4, t5 | t5⟩⟩⟩⟩
        all_goals
          go_wp2_with (first | (go_at_call 31; (with_reducible refine (in_any _ _ _ _).mono ?_); rintro _ _ ⟨rfl, rfl⟩) | (go_at_call 32; (with_reducible refine (hF _).mono ?_); rintro _ w1 ⟨rfl, hb⟩; replace c4 := below_cell hb c4; replace hB2 := below_step hB2 hb; clear hb))
          first
            | (go_roundw
               case rel => exact ⟨k + 1, by omega, by go_num, by simp only [allN, Bool.and_eq_true]; exact ⟨hs, by simp [ratP, t1, t2, t3, t4, t5]⟩, by first | exact hB2 | (repeat (first | exact Below.refl _ _ | assumption | (refine Below.drew ?_) | (refine below_alloc ?_ _) | (refine Below.setCell ?_ (by first | (simp; done) | (simp; omega) | omega | (have hq := hB.size; (try simp at hq ⊢); omega)) _) | (refine Below.alloc ?_ (by first | (simp; done) | (simp; omega) | omega | (have hq := hB.size; (try simp at hq ⊢); omega)) _) | (refine below_step ?_ (by assumption))))⟩
               case measure => simp [intOf]; omega)
            | (go_ret
               exact ⟨ret_bool (by first | rw [ratB_no hkn (by simp [ratP, *])] | rw [ratB_no hkn (by simp [ratP, *]; omega)]), by first | exact hB2 | (repeat (first | exact Below.refl _ _ | assumption | (refine Below.drew ?_) | (refine below_alloc ?_ _) | (refine Below.setCell ?_ (by first | (simp; done) | (simp; omega) | omega | (have hq := hB.size; (try simp at hq ⊢); omega)) _) | (refine Below.alloc ?_ (by first | (simp; done) | (simp; omega) | omega | (have hq := hB.size; (try simp at hq ⊢); omega)) _) | (refine below_step ?_ (by assumption))))⟩)
      · obtain rfl : k = n := by omega
        go_wp2
        go_ret
        exact ⟨ret_bool (by simp [ratB, h1, hs]), hB⟩
  · go_enter Try.func12, Try.ntmps12
    go_wp2
    go_ret
    exact ⟨ret_bool (by simp [ratB, h1]), Below.refl _ _⟩
theorem spec_RatiosOk (A : Option Addr) (n c : Nat) (v : Nat → Int) (w : World) (hm : n ≤ 1048576) (f0 : Fl w A n 4 v) : Calls Try.prog 10 #[.slice A n c] w fun e w' => e = .returned (.bool (ratB n v)) ∧ Below w.heap.size w w' := by
  go_enter Try.func10, Try.ntmps10
  go_wp2_with fail
  go_loopw [3] (fun x wr => ∃ k : Nat, k ≤ n ∧ x = .int .i64 k ∧ allN (ratP v) k = true ∧ Below w.heap.size w wr) (fun x _ => n - (intOf x).toNat)
  case atStart => exact ⟨0, Nat.zero_le _, rfl, rfl, Below.refl _ _⟩
  case round =>
    obtain ⟨k, hk, rfl, hs, hB⟩ := hrel
    by_cases hkn : k < n
    · obtain ⟨b, off, rfl, hc⟩ := (f0.below hB) (by omega)
      have c0 : wr.cell? ⟨b, off + k * 4, none⟩ = _ := hc (k * 4) (by omega)
      have c1 : wr.cell? ⟨b, off + k * 4 + 1, none⟩ = _ := hc (k * 4 + 1) (by omega)
      have c2 : wr.cell? ⟨b, off + k * 4 + 2, none⟩ = _ := hc (k * 4 + 2) (by omega)
      have c3 : wr.cell? ⟨b, off + k * 4 + 3, none⟩ = _ := hc (k * 4 + 3) (by omega)
      clear f0 hc
      have hcs : inB (v (k * 4)) 0 9 = false ∨ (inB (v (k * 4)) 0 9 = true ∧ (inB (v (k * 4 + 1)) 0 9 = false ∨ (inB (v (k * 4 + 1)) 0 9 = true ∧ ((v (k * 4) == v (k * 4 + 1)) = true ∨ ((v (k * 4) == v (k * 4 + 1)) = false ∧ (frB (v (k * 4 + 2)) (v (k * 4 + 3)) = false ∨ (frB (v (k * 4 + 2)) (v (k * 4 + 3)) = true ∧ (v (k * 4 + 2) ≤ 0 ∨ 0 < v (k * 4 + 2))))))))) := by
        cases inB (v (k * 4)) 0 9 <;> cases inB (v (k * 4 + 1)) 0 9 <;> cases (v (k * 4) == v (k * 4 + 1)) <;> cases frB (v (k * 4 + 2)) (v (k * 4 + 3)) <;> simp <;> omega
      have hb := below_alloc (Below.refl wr.heap.size wr) (.cells #[.int .i64 (v (k * 4)), .int .i64 (v (k * 4 + 1)), .int .i64 (v (k * 4 + 2)), .int .i64 (v (k * 4 + 3))] 46)
      have c4 : (wr.alloc (.cells #[.int .i64 (v (k * 4)), .int .i64 (v (k * 4 + 1)), .int .i64 (v (k * 4 + 2)), .int .i64 (v (k * 4 + 3))] 46)).cell? ⟨wr.heap.size, 2, none⟩ = some (.int .i64 (v (k * 4 + 2))) := by simp [go_sem]
      have hB2 := below_step hB hb
      clear hb
      have hF := fun w => spec_FracOk (v (k * 4 + 2)) (v (k * 4 + 3)) w
      rcases hcs with t1 | ⟨t1, t2 | ⟨t2, t3 | ⟨t3, t4 | ⟨t4, t5 | t5⟩⟩⟩⟩
      all_goals
        go_wp2_with (first | (go_at_call 28; (with_reducible refine (l01In_any _ _ _ _).mono ?_); rintro _ _ ⟨rfl, rfl⟩) | (go_at_call 29; (with_reducible refine (hF _).mono ?_); rintro _ w1 ⟨rfl, hb⟩; replace c4 := below_cell hb c4; replace hB2 := below_step hB2 hb; clear hb))
        first
          | (go_roundw
             case rel => exact ⟨k + 1, by omega, by go_num, by simp only [allN, Bool.and_eq_true]; exact ⟨hs, by simp [ratP, t1, t2, t3, t4, t5]⟩, by first | exact hB2 | (repeat (first | exact Below.refl _ _ | assumption | (refine Below.drew ?_) | (refine below_alloc ?_ _) | (refine Below.setCell ?_ (by first | (simp; done) | (simp; omega) | omega | (have hq := hB.size; (try simp at hq ⊢); omega)) _) | (refine Below.alloc ?_ (by first | (simp; done) | (simp; omega) | omega | (have hq := hB.size; (try simp at hq ⊢); omega)) _) | (refine below_step ?_ (by assumption))))⟩
             case measure => simp [intOf]; omega)
          | (go_ret
             exact ⟨ret_bool (by first | rw [ratB_no hkn (by simp [ratP, *])] | rw [ratB_no hkn (by simp [ratP, *]; omega)]), by first | exact hB2 | (repeat (first | exact Below.refl _ _ | assumption | (refine Below.drew ?_) | (refine below_alloc ?_ _) | (refine Below.setCell ?_ (by first | (simp; done) | (simp; omega) | omega | (have hq := hB.size; (try simp at hq ⊢); omega)) _) | (refine Below.alloc ?_ (by first | (simp; done) | (simp; omega) | omega | (have hq := hB.size; (try simp at hq ⊢); omega)) _) | (refine below_step ?_ (by assumption))))⟩)
    · obtain rfl : k = n := by omega
      by_cases h1 : k ≤ 12
      all_goals
        go_wp2
        go_ret
        exact ⟨ret_bool (by rw [Bool.eq_iff_iff]; simp [ratB, hs] <;> omega), hB⟩
theorem walkRatiosOk (A : Option Addr) (n c : Nat) (v : Nat → Int) (w : World) (hm : n ≤ maxLen) (f0 : Fl w A n 4 v) : Calls Try.prog 3 #[.slice A n c] w fun e w' => e = .returned (.bool true) ∧ Below w.heap.size w w' := by
  have hB := Below.refl w.heap.size w
  by_cases hn : n ≤ 1048576
  · have hs : ∀ w, _ := fun w => szRatioS_any A n c hm w
    simp only [szB_yes hn] at hs
    go_enter Try.func3, Try.ntmps3
    ((go_wp2_with fail); (with_reducible refine (hs _).mono ?_); rintro _ _ ⟨rfl, rfl⟩)
    ((go_wp2_with fail); (with_reducible refine (toRatioS_any A n c v _ hn f0).mono ?_); rintro _ w1 ⟨g1, rfl, hg1, o1, hb⟩; replace f0 := Fl.below f0 hb; replace hB := below_step hB hb; clear hb)
    ((go_wp2_with fail); (with_reducible refine (spec_RatiosOk _ n n v _ hn (o1.fl (Nat.le_refl _))).mono ?_); rintro _ w1 ⟨rfl, hb⟩; replace f0 := Fl.below f0 hb; replace hB := below_step hB hb; clear hb)
    ((go_wp2_with fail); (with_reducible refine (toRatioS_any A n c v _ hn f0).mono ?_); rintro _ w1 ⟨g1, rfl, hg1, o1, hb⟩; replace f0 := Fl.below f0 hb; replace hB := below_step hB hb; clear hb)
    ((go_wp2_with fail); (with_reducible refine (impl_RatiosOk _ n n v _ hn (o1.fl (Nat.le_refl _))).mono ?_); rintro _ w1 ⟨rfl, hb⟩; replace f0 := Fl.below f0 hb; replace o1 := Own.below o1 hb; replace hB := below_step hB hb; clear hb)
    ((go_wp2_with fail); (with_reducible refine (toRatioS_any A n c v _ hn f0).mono ?_); rintro _ w1 ⟨g2, rfl, hg2, o2, hb⟩; replace f0 := Fl.below f0 hb; replace o1 := Own.below o1 hb; replace hB := below_step hB hb; clear hb)
    ((go_wp2_with fail); (with_reducible refine (eqRatioS_true _ _ n n n v _ hn (o1.fl (Nat.le_refl _)) (o2.fl (Nat.le_refl _))).mono ?_); rintro _ w1 ⟨rfl, hb⟩; replace hB := below_step hB hb; clear hb)
    go_wp2_with fail
    go_ret
    exact ⟨rfl, hB⟩
  · have hs : ∀ w, _ := fun w => szRatioS_any A n c hm w
    simp only [szB_no hn] at hs
    go_enter Try.func3, Try.ntmps3
    ((go_wp2_with fail); (with_reducible refine (hs _).mono ?_); rintro _ _ ⟨rfl, rfl⟩)
    go_wp2_with fail
    go_ret
    exact ⟨rfl, hB⟩
end Go.Proofs.Ytfgkglbhbdfpfaa
