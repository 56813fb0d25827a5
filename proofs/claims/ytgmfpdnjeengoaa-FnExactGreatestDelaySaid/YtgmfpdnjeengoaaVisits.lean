/- The contracts of VisitsOk: for every slice of visits and every world, the program's function and the reference's return the same bool (visitsB), and leave old memory alone. No conditions. -/
import Derived.Test.YtgmfpdnjeengoaaIn
import Derived.Test.YtgmfpdnjeengoaaSlc
namespace Go.Proofs.Ytgmfpdnjeengoaa
open Go.RowKit
set_option linter.unusedSimpArgs false
set_option linter.unusedVariables false
set_option maxHeartbeats 1000000

/-- Visit k of v is valid. -/
def visitP (v : Nat → Int) (k : Nat) : Bool := inB (v (k * 2)) 1 1000 && inB (v (k * 2 + 1)) 1 100
def visitsB (n : Nat) (v : Nat → Int) : Bool := decide (n ≤ 12) && allN (visitP v) n
theorem visitsB_no {n k : Nat} {v : Nat → Int} (hk : k < n) (h : visitP v k = false) : visitsB n v = false := by simp [visitsB, allN_no hk h]
theorem visitsB_inv {n : Nat} {v : Nat → Int} (h : visitsB n v = true) : n ≤ 12 ∧ ∀ k, k < n → 1 ≤ v (k * 2) ∧ v (k * 2) ≤ 1000 ∧ 1 ≤ v (k * 2 + 1) ∧ v (k * 2 + 1) ≤ 100 := by
  simp only [visitsB, Bool.and_eq_true, decide_eq_true_eq, allN_iff] at h
  refine ⟨by omega, fun k hk => ?_⟩
  have := h.2 k hk
  simp only [visitP, Bool.and_eq_true, inB_iff] at this
  omega

theorem impl_VisitsOk (A : Option Addr) (n c : Nat) (v : Nat → Int) (w : World) (hm : n ≤ 1048576) (f0 : Fl w A n 2 v) : Calls Try.prog 37 #[.slice A n c] w fun e w' => e = .returned (.bool (visitsB n v)) ∧ Below w.heap.size w w' := by
  by_cases h1 : n ≤ 12
  · go_enter Try.func37, Try.ntmps37
    go_wp2_with (go_at_call 44; (with_reducible refine (in_any _ _ _ _).mono ?_); rintro _ _ ⟨rfl, rfl⟩)
    go_loopw [10] (fun x wr => ∃ k : Nat, k ≤ n ∧ x = .int .i64 k ∧ allN (visitP v) k = true ∧ Below w.heap.size w wr) (fun x _ => n - (intOf x).toNat)
    case atStart => exact ⟨0, Nat.zero_le _, rfl, rfl, Below.refl _ _⟩
    case round =>
      obtain ⟨k, hk, rfl, hs, hB⟩ := hrel
      by_cases hkn : k < n
      · obtain ⟨b, off, rfl, hc⟩ := (f0.below hB) (by omega)
        have c0 : wr.cell? ⟨b, off + k * 2, none⟩ = _ := hc (k * 2) (by omega)
        have c1 : wr.cell? ⟨b, off + k * 2 + 1, none⟩ = _ := hc (k * 2 + 1) (by omega)
        clear f0 hc
        by_cases t1 : inB (v (k * 2)) 1 1000 = true <;> by_cases t2 : inB (v (k * 2 + 1)) 1 100 = true
        all_goals
          go_wp2_with (go_at_call 44; (with_reducible refine (in_any _ _ _ _).mono ?_); rintro _ _ ⟨rfl, rfl⟩)
          first
            | (go_roundw
               case rel => exact ⟨k + 1, by omega, by go_num, by simp only [allN, Bool.and_eq_true]; exact ⟨hs, by simp [visitP, t1, t2]⟩, by (repeat (first | exact Below.refl _ _ | assumption | (refine Below.drew ?_) | (refine below_alloc ?_ _) | (refine Below.setCell ?_ (by first | (simp; done) | (simp; omega) | omega | (have hq := hB.size; (try simp at hq ⊢); omega)) _) | (refine Below.alloc ?_ (by first | (simp; done) | (simp; omega) | omega | (have hq := hB.size; (try simp at hq ⊢); omega)) _) | (refine below_step ?_ (by assumption))))⟩
               case measure => simp [intOf]; omega)
            | (go_ret
               exact ⟨ret_bool (by rw [visitsB_no hkn (by simp [visitP, t1, t2])]), by (repeat (first | exact Below.refl _ _ | assumption | (refine Below.drew ?_) | (refine below_alloc ?_ _) | (refine Below.setCell ?_ (by first | (simp; done) | (simp; omega) | omega | (have hq := hB.size; (try simp at hq ⊢); omega)) _) | (refine Below.alloc ?_ (by first | (simp; done) | (simp; omega) | omega | (have hq := hB.size; (try simp at hq ⊢); omega)) _) | (refine below_step ?_ (by assumption))))⟩)
      · obtain rfl : k = n := by omega
        go_wp2
        go_ret
        exact ⟨ret_bool (by simp [visitsB, *]), hB⟩
  · go_enter Try.func37, Try.ntmps37
    go_wp2_with (go_at_call 44; (with_reducible refine (in_any _ _ _ _).mono ?_); rintro _ _ ⟨rfl, rfl⟩)
    go_ret
    exact ⟨ret_bool (by simp [visitsB]; omega), Below.refl _ _⟩

theorem spec_VisitsOk (A : Option Addr) (n c : Nat) (v : Nat → Int) (w : World) (hm : n ≤ 1048576) (f0 : Fl w A n 2 v) : Calls Try.prog 35 #[.slice A n c] w fun e w' => e = .returned (.bool (visitsB n v)) ∧ Below w.heap.size w w' := by
  go_enter Try.func35, Try.ntmps35
  go_wp2_with (go_at_call 42; (with_reducible refine (l01In_any _ _ _ _).mono ?_); rintro _ _ ⟨rfl, rfl⟩)
  go_loopw [3] (fun x wr => ∃ k : Nat, k ≤ n ∧ x = .int .i64 k ∧ allN (visitP v) k = true ∧ Below w.heap.size w wr) (fun x _ => n - (intOf x).toNat)
  case atStart => exact ⟨0, Nat.zero_le _, rfl, rfl, Below.refl _ _⟩
  case round =>
    obtain ⟨k, hk, rfl, hs, hB⟩ := hrel
    by_cases hkn : k < n
    · obtain ⟨b, off, rfl, hc⟩ := (f0.below hB) (by omega)
      have c0 : wr.cell? ⟨b, off + k * 2, none⟩ = _ := hc (k * 2) (by omega)
      have c1 : wr.cell? ⟨b, off + k * 2 + 1, none⟩ = _ := hc (k * 2 + 1) (by omega)
      clear f0 hc
      by_cases h1 : inB (v (k * 2)) 1 1000 = true <;> by_cases h2 : inB (v (k * 2 + 1)) 1 100 = true
      all_goals
        go_wp2_with (go_at_call 42; (with_reducible refine (l01In_any _ _ _ _).mono ?_); rintro _ _ ⟨rfl, rfl⟩)
        first
          | (go_roundw
             case rel => exact ⟨k + 1, by omega, by go_num, by simp only [allN, Bool.and_eq_true]; exact ⟨hs, by simp [visitP, h1, h2]⟩, hB⟩
             case measure => simp [intOf]; omega)
          | (go_ret
             exact ⟨ret_bool (by rw [visitsB_no hkn (by simp [visitP, h1, h2])]), hB⟩)
    · obtain rfl : k = n := by omega
      by_cases hk : k ≤ 12
      all_goals
        go_wp2
        go_ret
        exact ⟨ret_bool (by rw [Bool.eq_iff_iff]; simp [visitsB, hs] <;> omega), hB⟩
end Go.Proofs.Ytgmfpdnjeengoaa
