/- The contracts of ChainOk: for every slice of copies and every world, the program's function and the reference's return the same bool (chainB), and leave old memory alone. No conditions. -/
import Derived.Test.YtgmfpdnjeengoaaIn
import Derived.Test.YtgmfpdnjeengoaaSlc
namespace Go.Proofs.Ytgmfpdnjeengoaa
open Go.RowKit
set_option linter.unusedSimpArgs false
set_option linter.unusedVariables false
set_option maxHeartbeats 1000000

/-- Copy k of v is valid. -/
def chainP (v : Nat → Int) (k : Nat) : Bool := inB (v (k * 3)) (-1) ((k : Int) - 1) && inB (v (k * 3 + 1)) (-1000000) 1000000 && inB (v (k * 3 + 2)) 0 1000
def chainB (n : Nat) (v : Nat → Int) : Bool := inB n 1 12 && allN (chainP v) n
theorem chainB_no {n k : Nat} {v : Nat → Int} (hk : k < n) (h : chainP v k = false) : chainB n v = false := by simp [chainB, allN_no hk h]
theorem chainB_inv {n : Nat} {v : Nat → Int} (h : chainB n v = true) : 1 ≤ n ∧ n ≤ 12 ∧ ∀ k, k < n → -1 ≤ v (k * 3) ∧ v (k * 3) ≤ (k : Int) - 1 ∧ -1000000 ≤ v (k * 3 + 1) ∧ v (k * 3 + 1) ≤ 1000000 ∧ 0 ≤ v (k * 3 + 2) ∧ v (k * 3 + 2) ≤ 1000 := by
  simp only [chainB, Bool.and_eq_true, inB_iff, allN_iff] at h
  refine ⟨by omega, by omega, fun k hk => ?_⟩
  have := h.2 k hk
  simp only [chainP, Bool.and_eq_true, inB_iff] at this
  omega

theorem impl_ChainOk (A : Option Addr) (n c : Nat) (v : Nat → Int) (w : World) (f0 : Fl w A n 3 v) : Calls Try.prog 15 #[.slice A n c] w fun e w' => e = .returned (.bool (chainB n v)) ∧ Below w.heap.size w w' := by
  by_cases h1 : inB n 1 12 = true
  · obtain ⟨b1, b2⟩ := inB_iff.1 h1
    go_enter Try.func15, Try.ntmps15
    go_wp2_with (go_at_call 44; (with_reducible refine (in_any _ _ _ _).mono ?_); rintro _ _ ⟨rfl, rfl⟩)
    go_loopw [11] (fun x wr => ∃ k : Nat, k ≤ n ∧ x = .int .i64 k ∧ allN (chainP v) k = true ∧ Below w.heap.size w wr) (fun x _ => n - (intOf x).toNat)
    case atStart => exact ⟨0, Nat.zero_le _, rfl, rfl, Below.refl _ _⟩
    case round =>
      obtain ⟨k, hk, rfl, hs, hB⟩ := hrel
      by_cases hkn : k < n
      · obtain ⟨b, off, rfl, hc⟩ := (f0.below hB) (by omega)
        have c0 : wr.cell? ⟨b, off + k * 3, none⟩ = _ := hc (k * 3) (by omega)
        have c1 : wr.cell? ⟨b, off + k * 3 + 1, none⟩ = _ := hc (k * 3 + 1) (by omega)
        have c2 : wr.cell? ⟨b, off + k * 3 + 2, none⟩ = _ := hc (k * 3 + 2) (by omega)
        clear f0 hc
        by_cases t1 : inB (v (k * 3)) (-1) ((k : Int) - 1) = true <;> by_cases t2 : inB (v (k * 3 + 1)) (-1000000) 1000000 = true <;> by_cases t3 : inB (v (k * 3 + 2)) 0 1000 = true
        all_goals
          go_wp2_with (go_at_call 44; (with_reducible refine (in_any _ _ _ _).mono ?_); rintro _ _ ⟨rfl, rfl⟩)
          first
            | (go_roundw
               case rel => exact ⟨k + 1, by omega, by go_num, by simp only [allN, Bool.and_eq_true]; exact ⟨hs, by simp [chainP, t1, t2, t3]⟩, by (repeat (first | exact Below.refl _ _ | assumption | (refine Below.drew ?_) | (refine below_alloc ?_ _) | (refine Below.setCell ?_ (by first | (simp; done) | (simp; omega) | omega | (have hq := hB.size; (try simp at hq ⊢); omega)) _) | (refine Below.alloc ?_ (by first | (simp; done) | (simp; omega) | omega | (have hq := hB.size; (try simp at hq ⊢); omega)) _) | (refine below_step ?_ (by assumption))))⟩
               case measure => simp [intOf]; omega)
            | (go_ret
               exact ⟨ret_bool (by rw [chainB_no hkn (by simp [chainP, t1, t2, t3])]), by (repeat (first | exact Below.refl _ _ | assumption | (refine Below.drew ?_) | (refine below_alloc ?_ _) | (refine Below.setCell ?_ (by first | (simp; done) | (simp; omega) | omega | (have hq := hB.size; (try simp at hq ⊢); omega)) _) | (refine Below.alloc ?_ (by first | (simp; done) | (simp; omega) | omega | (have hq := hB.size; (try simp at hq ⊢); omega)) _) | (refine below_step ?_ (by assumption))))⟩)
      · obtain rfl : k = n := by omega
        go_wp2
        go_ret
        exact ⟨ret_bool (by simp [chainB, *]), hB⟩
  · go_enter Try.func15, Try.ntmps15
    go_wp2_with (go_at_call 44; (with_reducible refine (in_any _ _ _ _).mono ?_); rintro _ _ ⟨rfl, rfl⟩)
    go_ret
    exact ⟨ret_bool (by simp [chainB, *]), Below.refl _ _⟩

theorem spec_ChainOk (A : Option Addr) (n c : Nat) (v : Nat → Int) (w : World) (hm : n ≤ 1048576) (f0 : Fl w A n 3 v) : Calls Try.prog 13 #[.slice A n c] w fun e w' => e = .returned (.bool (chainB n v)) ∧ Below w.heap.size w w' := by
  go_enter Try.func13, Try.ntmps13
  go_wp2_with (go_at_call 42; (with_reducible refine (l01In_any _ _ _ _).mono ?_); rintro _ _ ⟨rfl, rfl⟩)
  go_loopw [3] (fun x wr => ∃ k : Nat, k ≤ n ∧ x = .int .i64 k ∧ allN (chainP v) k = true ∧ Below w.heap.size w wr) (fun x _ => n - (intOf x).toNat)
  case atStart => exact ⟨0, Nat.zero_le _, rfl, rfl, Below.refl _ _⟩
  case round =>
    obtain ⟨k, hk, rfl, hs, hB⟩ := hrel
    by_cases hkn : k < n
    · obtain ⟨b, off, rfl, hc⟩ := (f0.below hB) (by omega)
      have c0 : wr.cell? ⟨b, off + k * 3, none⟩ = _ := hc (k * 3) (by omega)
      have c1 : wr.cell? ⟨b, off + k * 3 + 1, none⟩ = _ := hc (k * 3 + 1) (by omega)
      have c2 : wr.cell? ⟨b, off + k * 3 + 2, none⟩ = _ := hc (k * 3 + 2) (by omega)
      clear f0 hc
      by_cases t1 : inB (v (k * 3)) (-1) ((k : Int) - 1) = true <;> by_cases t2 : inB (v (k * 3 + 1)) (-1000000) 1000000 = true <;> by_cases t3 : inB (v (k * 3 + 2)) 0 1000 = true
      all_goals
        go_wp2_with (go_at_call 42; (with_reducible refine (l01In_any _ _ _ _).mono ?_); rintro _ _ ⟨rfl, rfl⟩)
        first
          | (go_roundw
             case rel => exact ⟨k + 1, by omega, by go_num, by simp only [allN, Bool.and_eq_true]; exact ⟨hs, by simp [chainP, t1, t2, t3]⟩, by (repeat (first | exact Below.refl _ _ | assumption | (refine Below.drew ?_) | (refine below_alloc ?_ _) | (refine Below.setCell ?_ (by first | (simp; done) | (simp; omega) | omega | (have hq := hB.size; (try simp at hq ⊢); omega)) _) | (refine Below.alloc ?_ (by first | (simp; done) | (simp; omega) | omega | (have hq := hB.size; (try simp at hq ⊢); omega)) _) | (refine below_step ?_ (by assumption))))⟩
             case measure => simp [intOf]; omega)
          | (go_ret
             exact ⟨ret_bool (by rw [chainB_no hkn (by simp [chainP, t1, t2, t3])]), by (repeat (first | exact Below.refl _ _ | assumption | (refine Below.drew ?_) | (refine below_alloc ?_ _) | (refine Below.setCell ?_ (by first | (simp; done) | (simp; omega) | omega | (have hq := hB.size; (try simp at hq ⊢); omega)) _) | (refine Below.alloc ?_ (by first | (simp; done) | (simp; omega) | omega | (have hq := hB.size; (try simp at hq ⊢); omega)) _) | (refine below_step ?_ (by assumption))))⟩)
    · obtain rfl : k = n := by omega
      go_wp2_with (go_at_call 42; (with_reducible refine (l01In_any _ _ _ _).mono ?_); rintro _ _ ⟨rfl, rfl⟩)
      go_ret
      exact ⟨ret_bool (by simp [chainB, *]), hB⟩
end Go.Proofs.Ytgmfpdnjeengoaa
