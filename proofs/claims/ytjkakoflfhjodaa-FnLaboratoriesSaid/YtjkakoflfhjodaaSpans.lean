/- trial -/
import Derived.Test.YtjkakoflfhjodaaIn
import Derived.Test.YtjkakoflfhjodaaSlc
namespace Go.Proofs.Ytjkakoflfhjodaa
open Go.RowKit
set_option linter.unusedSimpArgs false
set_option linter.unusedVariables false
set_option maxHeartbeats 1000000

/-- Span k of v is valid. -/
def spanP (v : Nat → Int) (k : Nat) : Bool := inB (v (k * 2)) (-100000) 100000 && inB (v (k * 2 + 1)) (v (k * 2)) 100000
def spansB (n : Nat) (v : Nat → Int) : Bool := inB n 1 12 && allN (spanP v) n
theorem spansB_no {n k : Nat} {v : Nat → Int} (hk : k < n) (h : spanP v k = false) : spansB n v = false := by simp [spansB, allN_no hk h]
theorem spanP_iff {v : Nat → Int} {k : Nat} : spanP v k = true ↔ -100000 ≤ v (k * 2) ∧ v (k * 2) ≤ v (k * 2 + 1) ∧ v (k * 2 + 1) ≤ 100000 := by
  simp only [spanP, Bool.and_eq_true, inB_iff]; omega
theorem spanP_no {v : Nat → Int} {k : Nat} (h : ¬ (-100000 ≤ v (k * 2) ∧ v (k * 2) ≤ v (k * 2 + 1) ∧ v (k * 2 + 1) ≤ 100000)) : spanP v k = false := by
  rw [← spanP_iff] at h; simpa using h
theorem spansB_inv {n : Nat} {v : Nat → Int} (h : spansB n v = true) : 1 ≤ n ∧ n ≤ 12 ∧ ∀ k, k < n → -100000 ≤ v (k * 2) ∧ v (k * 2) ≤ v (k * 2 + 1) ∧ v (k * 2 + 1) ≤ 100000 := by
  simp only [spansB, Bool.and_eq_true, inB_iff, allN_iff] at h
  exact ⟨by omega, by omega, fun k hk => spanP_iff.1 (h.2 k hk)⟩

theorem impl_SpansOk (A : Option Addr) (n c : Nat) (v : Nat → Int) (w : World) (hF : Fl w A n 2 v) : Calls Try.prog 14 #[.slice A n c] w fun e w' => e = .returned (.bool (spansB n v)) ∧ Below w.heap.size w w' := by
  by_cases h1 : inB n 1 12 = true
  · obtain ⟨b1, b2⟩ := inB_iff.1 h1
    go_enter Try.func14, Try.ntmps14
    go_wp2_with (go_at_call 38; (with_reducible refine (in_any _ _ _ _).mono ?_); rintro _ _ ⟨rfl, rfl⟩)
    go_loopw [11] (fun x wr => ∃ k : Nat, k ≤ n ∧ x = .int .i64 k ∧ allN (spanP v) k = true ∧ Below w.heap.size w wr) (fun x _ => n - (intOf x).toNat)
    case atStart => exact ⟨0, Nat.zero_le _, rfl, rfl, Below.refl _ _⟩
    case round =>
      obtain ⟨k, hk, rfl, hs, hB⟩ := hrel
      by_cases hkn : k < n
      · obtain ⟨b, off, rfl, hc⟩ := (hF.below hB) (by omega)
        have c0 : wr.cell? ⟨b, off + k * 2, none⟩ = _ := hc (k * 2) (by omega)
        have c1 : wr.cell? ⟨b, off + k * 2 + 1, none⟩ = _ := hc (k * 2 + 1) (by omega)
        clear hF hc
        go_wp2_with (go_at_call 38; (with_reducible refine (in_any _ _ _ _).mono ?_); rintro _ _ ⟨rfl, rfl⟩)
        all_goals first
          | (go_roundw
             case rel => exact ⟨k + 1, by omega, by go_num, by simp only [allN, Bool.and_eq_true]; exact ⟨hs, spanP_iff.2 (by simp only [inB_iff] at *; omega)⟩, by (repeat (first | exact Below.refl _ _ | assumption | (refine Below.drew ?_) | (refine below_alloc ?_ _) | (refine Below.setCell ?_ (by first | (simp; done) | (simp; omega) | omega | (have hq := hB.size; (try simp at hq ⊢); omega)) _) | (refine Below.alloc ?_ (by first | (simp; done) | (simp; omega) | omega | (have hq := hB.size; (try simp at hq ⊢); omega)) _) | (refine below_step ?_ (by assumption))))⟩
             case measure => simp [intOf]; omega)
          | (go_ret
             refine ⟨ret_bool ?_, by (repeat (first | exact Below.refl _ _ | assumption | (refine Below.drew ?_) | (refine below_alloc ?_ _) | (refine Below.setCell ?_ (by first | (simp; done) | (simp; omega) | omega | (have hq := hB.size; (try simp at hq ⊢); omega)) _) | (refine Below.alloc ?_ (by first | (simp; done) | (simp; omega) | omega | (have hq := hB.size; (try simp at hq ⊢); omega)) _) | (refine below_step ?_ (by assumption))))⟩
             rw [spansB_no hkn (spanP_no _)]
             simp only [inB_iff] at *
             omega)
      · obtain rfl : k = n := by omega
        go_wp2
        go_ret
        exact ⟨ret_bool (by simp [spansB, *]), hB⟩
  · go_enter Try.func14, Try.ntmps14
    go_wp2_with (go_at_call 38; (with_reducible refine (in_any _ _ _ _).mono ?_); rintro _ _ ⟨rfl, rfl⟩)
    go_ret
    exact ⟨ret_bool (by simp [spansB, *]), Below.refl _ _⟩

theorem spec_SpansOk (A : Option Addr) (n c : Nat) (v : Nat → Int) (w : World) (hm : n ≤ 1048576) (hF : Fl w A n 2 v) : Calls Try.prog 12 #[.slice A n c] w fun e w' => e = .returned (.bool (spansB n v)) ∧ Below w.heap.size w w' := by
  go_enter Try.func12, Try.ntmps12
  go_wp2_with (go_at_call 36; (with_reducible refine (l01In_any _ _ _ _).mono ?_); rintro _ _ ⟨rfl, rfl⟩)
  go_loopw [3] (fun x wr => ∃ k : Nat, k ≤ n ∧ x = .int .i64 k ∧ allN (spanP v) k = true ∧ Below w.heap.size w wr) (fun x _ => n - (intOf x).toNat)
  case atStart => exact ⟨0, Nat.zero_le _, rfl, rfl, Below.refl _ _⟩
  case round =>
    obtain ⟨k, hk, rfl, hs, hB⟩ := hrel
    by_cases hkn : k < n
    · obtain ⟨b, off, rfl, hc⟩ := (hF.below hB) (by omega)
      have c0 : wr.cell? ⟨b, off + k * 2, none⟩ = _ := hc (k * 2) (by omega)
      have c1 : wr.cell? ⟨b, off + k * 2 + 1, none⟩ = _ := hc (k * 2 + 1) (by omega)
      clear hF hc
      by_cases h1 : inB (v (k * 2)) (-100000) 100000 = true <;> by_cases h2 : inB (v (k * 2 + 1)) (v (k * 2)) 100000 = true
      all_goals
        go_wp2_with fail
        (have Ec0 := ext_cell c0; have Ec1 := ext_cell c1; refine calm_lit (by kernel_rfl) (by kernel_rfl) ?_; (repeat (first | go_big_quiet_step ((go_at_call 36; exact calm_same (l01In_any _ _ _ _))) | simp only [TF])); refine wpQuiet_nil ?_; intro w1 hb; clear Ec0 Ec1; replace c0 := below_cell hb c0; replace c1 := below_cell hb c1; replace hB := below_step hB hb; clear hb)
        go_wp2
        first
          | (go_roundw
             case rel => exact ⟨k + 1, by omega, by go_num, by simp only [allN, Bool.and_eq_true]; exact ⟨hs, by simp [spanP, h1, h2]⟩, hB⟩
             case measure => simp [intOf]; omega)
          | (go_ret
             exact ⟨ret_bool (by rw [spansB_no hkn (by simp [spanP, h1, h2])]), hB⟩)
    · obtain rfl : k = n := by omega
      go_wp2_with (go_at_call 36; (with_reducible refine (l01In_any _ _ _ _).mono ?_); rintro _ _ ⟨rfl, rfl⟩)
      go_ret
      exact ⟨ret_bool (by simp [spansB, *]), hB⟩
end Go.Proofs.Ytjkakoflfhjodaa
