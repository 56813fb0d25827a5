/- The contracts of the functions on signs and drifts (SignSum, Eliminates, DriftedSum and what they call): for every slice and world the program's function and the reference's return the same value of the plain functions sgnB, sumN (sgT ..), sgnV, elimV, driftV. A length of at most 2^20 alone is asked. -/
import Derived.Test.YtmgfejdgjfldfaaIn
import Derived.Test.YtmgfejdgjfldfaaSlc
namespace Go.Proofs.Ytmgfejdgjfldfaa
open Go.RowKit
set_option linter.unusedSimpArgs false
set_option linter.unusedVariables false
set_option maxHeartbeats 1000000

def signP (v : Nat → Int) (k : Nat) : Bool := decide (v k = 1 ∨ v k = -1)
def sgnB (n : Nat) (v : Nat → Int) : Bool := decide (n ≤ 32) && allN (signP v) n
theorem sgnB_no {n k : Nat} {v : Nat → Int} (hk : k < n) (h : signP v k = false) : sgnB n v = false := by simp [sgnB, allN_no hk h]
theorem sgnB_inv {n : Nat} {v : Nat → Int} (h : sgnB n v = true) : n ≤ 32 ∧ ∀ k, k < n → v k = 1 ∨ v k = -1 := by
  simp only [sgnB, Bool.and_eq_true, decide_eq_true_eq, allN_iff] at h
  exact ⟨h.1, fun k hk => by have := h.2 k hk; simpa [signP] using this⟩

theorem impl_signsOk (A : Option Addr) (n c : Nat) (v : Nat → Int) (w : World) (hm : n ≤ 1048576) (f0 : Fl w A n 1 v) : Calls Try.prog 31 #[.slice A n c] w fun e w' => e = .returned (.bool (sgnB n v)) ∧ w = w' := by
  go_enter Try.func31, Try.ntmps31
  go_wp2_with fail
  go_loop [7] (fun x => ∃ k : Nat, k ≤ n ∧ x = .int .i64 k ∧ allN (signP v) k = true) (fun x => n - (intOf x).toNat)
  case atStart => exact ⟨0, Nat.zero_le _, rfl, rfl⟩
  case round =>
    obtain ⟨k, hk, rfl, hs⟩ := hrel
    by_cases hkn : k < n
    · obtain ⟨b, off, rfl, hc⟩ := f0 (by omega)
      have c0 : w.cell? ⟨b, off + k, none⟩ = _ := hc k (by omega)
      clear f0 hc
      by_cases t1 : v k = 1
      · have T : signP v k = true := by simp [signP, t1]
        go_wp2
        go_round
        case rel => exact ⟨k + 1, by omega, by go_num, by simp [allN, hs, T]⟩
        case measure => simp [intOf]; omega
      · by_cases t2 : v k = -1
        · have T : signP v k = true := by simp [signP, t2]
          go_wp2
          go_round
          case rel => exact ⟨k + 1, by omega, by go_num, by simp [allN, hs, T]⟩
          case measure => simp [intOf]; omega
        · have n1 : (v k != 1) = true := by simp [t1]
          have n2 : (v k != -1) = true := by simp [t2]
          go_wp2
          go_ret
          exact ⟨ret_bool (sgnB_no hkn (by simp [signP, t1, t2])).symm, rfl⟩
    · obtain rfl : k = n := by omega
      by_cases h32 : k ≤ 32
      all_goals
        go_wp2
        go_ret
        exact ⟨ret_bool (by rw [Bool.eq_iff_iff]; simp [sgnB, hs] <;> omega), rfl⟩

theorem spec_l27Signs (A : Option Addr) (n c : Nat) (v : Nat → Int) (w : World) (hm : n ≤ 1048576) (f0 : Fl w A n 1 v) : Calls Try.prog 29 #[.slice A n c] w fun e w' => e = .returned (.bool (sgnB n v)) ∧ w = w' := by
  go_enter Try.func29, Try.ntmps29
  go_wp2_with fail
  go_loop [3] (fun x => ∃ k : Nat, k ≤ n ∧ x = .int .i64 k ∧ allN (signP v) k = true) (fun x => n - (intOf x).toNat)
  case atStart => exact ⟨0, Nat.zero_le _, rfl, rfl⟩
  case round =>
    obtain ⟨k, hk, rfl, hs⟩ := hrel
    by_cases hkn : k < n
    · obtain ⟨b, off, rfl, hc⟩ := f0 (by omega)
      have c0 : w.cell? ⟨b, off + k, none⟩ = _ := hc k (by omega)
      clear f0 hc
      by_cases t1 : v k = 1
      · have T : signP v k = true := by simp [signP, t1]
        go_wp2
        go_round
        case rel => exact ⟨k + 1, by omega, by go_num, by simp [allN, hs, T]⟩
        case measure => simp [intOf]; omega
      · by_cases t2 : v k = -1
        · have T : signP v k = true := by simp [signP, t2]
          go_wp2
          go_round
          case rel => exact ⟨k + 1, by omega, by go_num, by simp [allN, hs, T]⟩
          case measure => simp [intOf]; omega
        · have n1 : (v k != 1) = true := by simp [t1]
          have n2 : (v k != -1) = true := by simp [t2]
          go_wp2
          go_ret
          exact ⟨ret_bool (sgnB_no hkn (by simp [signP, t1, t2])).symm, rfl⟩
    · obtain rfl : k = n := by omega
      by_cases h32 : k ≤ 32
      all_goals
        go_wp2
        go_ret
        exact ⟨ret_bool (by rw [Bool.eq_iff_iff]; simp [sgnB, hs] <;> omega), rfl⟩

/-- The power, behind a name. -/
def pw (k d : Nat) : Nat := k ^ d
theorem pw_zero (k : Nat) : pw k 0 = 1 := by simp [pw]
theorem pw_succ (k d : Nat) : pw k (d + 1) = pw k d * k := by simp [pw, Nat.pow_succ]
theorem pw_bd {k d : Nat} (hk : k ≤ 31) (hd : d ≤ 5) : pw k d ≤ 28629151 := by
  unfold pw
  have h1 : k ^ d ≤ 31 ^ d := Nat.pow_le_pow_left hk d
  have h2 : 31 ^ d ≤ 31 ^ 5 := Nat.pow_le_pow_right (by decide) hd
  have h3 : 31 ^ 5 = 28629151 := by decide
  omega
theorem pw_step {k d : Nat} (hk : k ≤ 31) (hd : d + 1 ≤ 5) : 0 ≤ (pw k d : Int) * (k : Int) ∧ (pw k d : Int) * (k : Int) ≤ 28629151 ∧ (pw k d : Int) * (k : Int) = (pw k (d + 1) : Int) := by
  have h := pw_bd hk hd
  have e : (pw k d : Int) * (k : Int) = (pw k (d + 1) : Int) := by rw [pw_succ]; push_cast; rfl
  rw [e]
  omega

theorem impl_power (k d : Nat) (hk : k ≤ 31) (hd : d ≤ 5) (w : World) : Calls Try.prog 36 #[.int .i64 k, .int .i64 d] w fun e w' => e = .returned (.int .i64 (pw k d : Nat)) ∧ w = w' := by
  go_enter Try.func36, Try.ntmps36
  go_wp2_with fail
  go_loop [5, 7] (fun a x => ∃ i : Nat, i ≤ d ∧ a = .int .i64 (pw k i : Nat) ∧ x = .int .i64 i) (fun _ x => d - (intOf x).toNat)
  case atStart => exact ⟨0, Nat.zero_le _, by rw [pw_zero]; rfl, rfl⟩
  case round =>
    obtain ⟨i, hi, rfl, rfl⟩ := hrel
    by_cases hid : i < d
    · obtain ⟨q1, q2, q3⟩ := pw_step (k := k) (d := i) hk (by omega)
      have Q := Lib.hid q3; clear q3
      go_wp2
      go_round
      case rel => exact ⟨i + 1, by omega, by rw [Q.out], by go_num⟩
      case measure => simp [intOf]; omega
    · obtain rfl : i = d := by omega
      go_wp2
      go_ret
      exact ⟨rfl, rfl⟩

/-- Term k of the sum with degree d. -/
def sgT (v : Nat → Int) (d k : Nat) : Int := v k * (pw k d : Int)
theorem sgT_bd {v : Nat → Int} {d k : Nat} (hk : k ≤ 31) (hd : d ≤ 5) (h : v k = 1 ∨ v k = -1) : -28629151 ≤ sgT v d k ∧ sgT v d k ≤ 28629151 := by
  have := pw_bd hk hd
  unfold sgT
  rcases h with h | h <;> rw [h] <;> omega
theorem sgS_bd {v : Nat → Int} {d n : Nat} (hn : n ≤ 32) (hd : d ≤ 5) (h : ∀ k, k < n → v k = 1 ∨ v k = -1) : -916132832 ≤ sumN (sgT v d) n ∧ sumN (sgT v d) n ≤ 916132832 := by
  have := sumN_bd (f := sgT v d) (n := n) (a := -28629151) (b := 28629151) fun k hk => sgT_bd (by omega) hd (h k hk)
  omega

theorem impl_signSum (A : Option Addr) (n c d : Nat) (v : Nat → Int) (w : World) (hn : n ≤ 32) (hd : d ≤ 5) (hv : ∀ k, k < n → v k = 1 ∨ v k = -1) (f0 : Fl w A n 1 v) :
    Calls Try.prog 32 #[.slice A n c, .int .i64 d] w fun e w' => e = .returned (.int .i64 (sumN (sgT v d) n)) ∧ w = w' := by
  have HV := Lib.hid hv; clear hv
  go_enter Try.func32, Try.ntmps32
  go_wp2_with fail
  go_loop [5, 10] (fun a x => ∃ k : Nat, k ≤ n ∧ a = .int .i64 (sumN (sgT v d) k) ∧ x = .int .i64 k) (fun _ x => n - (intOf x).toNat)
  case atStart => exact ⟨0, Nat.zero_le _, rfl, rfl⟩
  case round =>
    obtain ⟨k, hk, rfl, rfl⟩ := hrel
    by_cases hkn : k < n
    · obtain ⟨b, off, rfl, hc⟩ := f0 (by omega)
      have c0 : w.cell? ⟨b, off + k, none⟩ = _ := hc k (by omega)
      clear f0 hc
      have q1 : -28629151 ≤ v k * (pw k d : Int) ∧ v k * (pw k d : Int) ≤ 28629151 := sgT_bd (v := v) (by omega) hd (HV.out k hkn)
      have q2 := sgS_bd (v := v) (d := d) (n := k) (by omega) hd fun i hi => HV.out i (by omega)
      go_wp2_with (go_at_call 36; (with_reducible refine (impl_power k d (by omega) hd _).mono ?_); rintro _ _ ⟨rfl, rfl⟩)
      go_round
      case rel => exact ⟨k + 1, by omega, rfl, by go_num⟩
      case measure => simp [intOf]; omega
    · obtain rfl : k = n := by omega
      go_wp2
      go_ret
      exact ⟨rfl, rfl⟩

theorem spec_l27Sum (A : Option Addr) (n c d : Nat) (v : Nat → Int) (w : World) (hn : n ≤ 32) (hd : d ≤ 5) (hv : ∀ k, k < n → v k = 1 ∨ v k = -1) (f0 : Fl w A n 1 v) :
    Calls Try.prog 30 #[.slice A n c, .int .i64 d] w fun e w' => e = .returned (.int .i64 (sumN (sgT v d) n)) ∧ w = w' := by
  have HV := Lib.hid hv; clear hv
  go_enter Try.func30, Try.ntmps30
  go_wp2_with fail
  go_loop [5, 6] (fun a x => ∃ k : Nat, k ≤ n ∧ a = .int .i64 (sumN (sgT v d) k) ∧ x = .int .i64 k) (fun _ x => n - (intOf x).toNat)
  case atStart => exact ⟨0, Nat.zero_le _, rfl, rfl⟩
  case round =>
    obtain ⟨k, hk, rfl, rfl⟩ := hrel
    by_cases hkn : k < n
    · obtain ⟨b, off, rfl, hc⟩ := f0 (by omega)
      have c0 : w.cell? ⟨b, off + k, none⟩ = _ := hc k (by omega)
      clear f0 hc
      have q1 : -28629151 ≤ v k * (pw k d : Int) ∧ v k * (pw k d : Int) ≤ 28629151 := sgT_bd (v := v) (by omega) hd (HV.out k hkn)
      have q2 := sgS_bd (v := v) (d := d) (n := k) (by omega) hd fun i hi => HV.out i (by omega)
      go_wp2_with fail
      go_loop [7, 8] (fun a x => ∃ i : Nat, i ≤ d ∧ a = .int .i64 (pw k i : Nat) ∧ x = .int .i64 i) (fun _ x => d - (intOf x).toNat)
      case atStart => exact ⟨0, Nat.zero_le _, by rw [pw_zero]; rfl, rfl⟩
      case round =>
        obtain ⟨i, hi, rfl, rfl⟩ := hrel
        by_cases hid : i < d
        · obtain ⟨p1, p2, p3⟩ := pw_step (k := k) (d := i) (by omega) (by omega)
          have Q := Lib.hid p3; clear p3
          go_wp2
          go_round
          case rel => exact ⟨i + 1, by omega, by rw [Q.out], by go_num⟩
          case measure => simp [intOf]; omega
        · obtain rfl : i = d := by omega
          go_wp2
          go_round
          case rel => exact ⟨k + 1, by omega, rfl, by go_num⟩
          case measure => simp [intOf]; omega
    · obtain rfl : k = n := by omega
      go_wp2
      go_ret
      exact ⟨rfl, rfl⟩
end Go.Proofs.Ytmgfejdgjfldfaa
