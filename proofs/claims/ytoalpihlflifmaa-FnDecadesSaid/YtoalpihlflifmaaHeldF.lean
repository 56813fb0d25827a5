/- What the laws ask of a result of fractions: held, and the three helpers at empty slices. No conditions but a length of at most 2^20. -/
import Derived.Test.YtoalpihlflifmaaFractionS
namespace Go.Proofs.Ytoalpihlflifmaa
open Go.RowKit
set_option linter.unusedSimpArgs false
set_option linter.unusedVariables false
set_option maxHeartbeats 2000000
theorem heldFractionS_any (A : Option Addr) (n c : Nat) (w : World) (hn : n ≤ 1048576) (f0 : Fl w A n 2 (fun j => (j : Int) + 1)) : Calls Try.prog 26 #[.slice A n c, .int .i64 1] w
    fun e w' => e = .returned (.int .i64 (n * 2 + 1)) ∧ Below w.heap.size w w' := by
  go_enter Try.func26, Try.ntmps26
  go_wp2_with fail
  go_loopw [1, 5] (fun a x wr => ∃ k : Nat, k ≤ n ∧ a = .int .i64 ((k * 2 + 1 : Nat) : Int) ∧ x = .int .i64 k ∧ Below w.heap.size w wr) (fun _ x _ => n - (intOf x).toNat)
  case atStart => exact ⟨0, Nat.zero_le _, rfl, rfl, Below.refl _ _⟩
  case round =>
    obtain ⟨k, hk, rfl, rfl, hB⟩ := hrel
    by_cases hkn : k < n
    · obtain ⟨b, off, rfl, hc⟩ := (f0.below hB) (by omega)
      have c0 : wr.cell? ⟨b, off + k * 2, none⟩ = some (.int .i64 (((k * 2 : Nat) : Int) + 1)) := hc (k * 2) (by omega)
      have c1 : wr.cell? ⟨b, off + k * 2 + 1, none⟩ = some (.int .i64 (((k * 2 + 1 : Nat) : Int) + 1)) := hc (k * 2 + 1) (by omega)
      clear f0 hc
      go_wp2
      go_roundw
      case rel => exact ⟨k + 1, by omega, by go_num, by go_num, hB⟩
      case measure => simp [intOf]; omega
    · obtain rfl : k = n := by omega
      go_wp2
      go_ret
      exact ⟨ret_int (by push_cast; rfl), hB⟩
theorem heldFractionS_nil (A : Option Addr) (c : Nat) (w : World) : Calls Try.prog 26 #[.slice A 0 c, .int .i64 1] w fun e w' => e = .returned (.int .i64 1) ∧ w = w' := by
  go_enter Try.func26, Try.ntmps26
  go_wp2_with fail
  refine wp_loop_rounds 1 ?_
  rw [rounds_succ]
  go_wp2
  go_ret
  exact ⟨rfl, rfl⟩
theorem markFractionS_nil (A : Option Addr) (c : Nat) (w : World) : Calls Try.prog 25 #[.slice A 0 c, .int .i64 1] w fun e w' => e = .returned (.int .i64 1) ∧ w = w' := by
  go_enter Try.func25, Try.ntmps25
  go_wp2_with fail
  refine wp_loop_rounds 1 ?_
  rw [rounds_succ]
  go_wp2
  go_ret
  exact ⟨rfl, rfl⟩
theorem eqFractionS_nil (A A' : Option Addr) (c c' : Nat) (w : World) : Calls Try.prog 19 #[.slice A 0 c, .slice A' 0 c'] w fun e w' => e = .returned (.bool true) ∧ w = w' := by
  go_enter Try.func19, Try.ntmps19
  go_wp2_with fail
  refine wp_loop_rounds 1 ?_
  rw [rounds_succ]
  go_wp2
  go_ret
  exact ⟨rfl, rfl⟩
end Go.Proofs.Ytoalpihlflifmaa
