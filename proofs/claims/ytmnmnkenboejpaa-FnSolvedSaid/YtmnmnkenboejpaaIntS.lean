/- The helpers of the laws over slices of numbers: the copy, the comparison, the marking and what is held of it: each computes what its name says and leaves old memory alone. No conditions but a length of at most 2^20. -/
import Derived.Test.YtmnmnkenboejpaaSlc
namespace Go.Proofs.Ytmnmnkenboejpaa
open Go.RowKit
set_option linter.unusedSimpArgs false
set_option linter.unusedVariables false
set_option maxHeartbeats 1000000
theorem infoInt : (Try.prog.info? 3).map (fun i => (i.zero, i.size, i.bytes)) = some (some (.int .i64 0), 1, 8) := by kernel_rfl
theorem toIntS_any (A : Option Addr) (n c : Nat) (v : Nat → Int) (w : World) (hn : n ≤ 1048576) (f0 : Fl w A n 1 v) : Calls Try.prog 13 #[.slice A n c] w (Made w 3 n 1 v) := by
  have hmk := fun W => run_make_rowN (P := Try.prog) 23 3 _ _ _ Try.underlying23 infoInt .i64 .i64 n (by omega) (by omega) W
  go_enter Try.func13, Try.ntmps13
  go_wp2_with fail
  go_loopw [4] (fun x wr => ∃ k : Nat, k ≤ n ∧ x = .int .i64 k ∧ Own wr w.heap.size 3 (n * 1) (upto v k) ∧ Below w.heap.size w wr) (fun x _ => n - (intOf x).toNat)
  case atStart => exact ⟨0, Nat.zero_le _, rfl, by rw [Nat.mul_one]; exact (own_madeN (z := #[.int .i64 0]) (by decide) (by intro i hi; match i, hi with | 0, _ => rfl)).congr (fun j _ => by simp [upto]), by (repeat (first | exact Below.refl _ _ | assumption | (refine Below.drew ?_) | (refine below_alloc ?_ _) | (refine Below.setCell ?_ (by first | (simp; done) | (simp; omega) | omega | (have hq := hB.size; (try simp at hq ⊢); omega)) _) | (refine Below.alloc ?_ (by first | (simp; done) | (simp; omega) | omega | (have hq := hB.size; (try simp at hq ⊢); omega)) _) | (refine below_step ?_ (by assumption))))⟩
  case round =>
    obtain ⟨k, hk, rfl, o0, hB⟩ := hrel
    by_cases hkn : k < n
    · obtain ⟨b, off, rfl, hc⟩ := (f0.below hB) (by omega)
      have c0 : wr.cell? ⟨b, off + k, none⟩ = _ := hc k (by omega)
      have c1 : wr.cell? ⟨w.heap.size, k, none⟩ = some (.int .i64 0) := (o0.cell (j := k) (by omega)).trans (by simp only [upto]; rw [if_neg (by omega)])
      have z1 := o0.frozen k
      clear f0 hc
      have hz := hB.size
      go_wp2
      go_roundw
      case rel =>
        refine ⟨k + 1, by omega, by go_num, Own.congr (o0.set k (v k)) (fun j hj => ?_), by (repeat (first | exact Below.refl _ _ | assumption | (refine Below.drew ?_) | (refine below_alloc ?_ _) | (refine Below.setCell ?_ (by first | (simp; done) | (simp; omega) | omega | (have hq := hB.size; (try simp at hq ⊢); omega)) _) | (refine Below.alloc ?_ (by first | (simp; done) | (simp; omega) | omega | (have hq := hB.size; (try simp at hq ⊢); omega)) _) | (refine below_step ?_ (by assumption))))⟩
        simp only [upto]
        repeat' split
        all_goals first | rfl | (exfalso; omega) | (congr 1; omega)
      case measure => simp [intOf]; omega
    · obtain rfl : k = n := by omega
      go_wp2
      go_ret
      exact ⟨w.heap.size, rfl, Nat.le_refl _, o0.congr (fun j hj => by simp only [upto]; rw [if_pos (by omega)]), hB⟩
theorem eqIntS_true (A A' : Option Addr) (n c c' : Nat) (v : Nat → Int) (w : World) (hn : n ≤ 1048576) (f0 : Fl w A n 1 v) (f1 : Fl w A' n 1 v) : Calls Try.prog 16 #[.slice A n c, .slice A' n c'] w fun e w' => e = .returned (.bool true) ∧ Below w.heap.size w w' := by
  go_enter Try.func16, Try.ntmps16
  go_wp2_with fail
  go_loopw [5] (fun x wr => ∃ k : Nat, k ≤ n ∧ x = .int .i64 k ∧ Below w.heap.size w wr) (fun x _ => n - (intOf x).toNat)
  case atStart => exact ⟨0, Nat.zero_le _, rfl, by (repeat (first | exact Below.refl _ _ | assumption | (refine Below.drew ?_) | (refine below_alloc ?_ _) | (refine Below.setCell ?_ (by first | (simp; done) | (simp; omega) | omega | (have hq := hB.size; (try simp at hq ⊢); omega)) _) | (refine Below.alloc ?_ (by first | (simp; done) | (simp; omega) | omega | (have hq := hB.size; (try simp at hq ⊢); omega)) _) | (refine below_step ?_ (by assumption))))⟩
  case round =>
    obtain ⟨k, hk, rfl, hB⟩ := hrel
    by_cases hkn : k < n
    · obtain ⟨b, off, rfl, hc⟩ := (f0.below hB) (by omega)
      obtain ⟨b', off', rfl, hc'⟩ := (f1.below hB) (by omega)
      have c0 : wr.cell? ⟨b, off + k, none⟩ = _ := hc k (by omega)
      have c1 : wr.cell? ⟨b', off' + k, none⟩ = _ := hc' k (by omega)
      clear f0 f1 hc hc'
      go_wp2_with fail
      (have Ec0 := ext_cell c0; have Ec1 := ext_cell c1; refine calm_lit (by kernel_rfl) (by kernel_rfl) ?_; (repeat (first | go_big_quiet_step (fail) | simp only [TF])); refine wpQuiet_nil ?_; intro w1 hb; clear Ec0 Ec1; replace c0 := below_cell hb c0; replace c1 := below_cell hb c1; replace hB := below_step hB hb; clear hb)
      go_wp2
      go_roundw
      case rel => exact ⟨k + 1, by omega, by go_num, hB⟩
      case measure => simp [intOf]; omega
    · obtain rfl : k = n := by omega
      go_wp2
      go_ret
      exact ⟨rfl, hB⟩
theorem markIntS_any (g T n c : Nat) (v : Nat → Int) (w : World) (hn : n ≤ 1048576) (o0 : Own w g T (n * 1) v) : Calls Try.prog 22 #[.slice (some ⟨g, 0, none⟩) n c, .int .i64 1] w
    fun e w' => e = .returned (.int .i64 (n + 1)) ∧ Own w' g T (n * 1) (fun j => (j : Int) + 1) ∧ w.grownBy w' (some g) := by
  go_enter Try.func22, Try.ntmps22
  go_wp2_with fail
  go_loopw [1, 5] (fun a x wr => ∃ k : Nat, k ≤ n ∧ a = .int .i64 ((k + 1 : Nat) : Int) ∧ x = .int .i64 k ∧ Own wr g T (n * 1) (fun j => if j < k then (j : Int) + 1 else v j) ∧ w.grownBy wr (some g)) (fun _ x _ => n - (intOf x).toNat)
  case atStart => exact ⟨0, Nat.zero_le _, rfl, rfl, o0.congr (fun j _ => by simp), ⟨rfl, rfl, rfl, Nat.le_refl _, fun _ _ _ => rfl⟩⟩
  case round =>
    obtain ⟨k, hk, rfl, rfl, o0, hB⟩ := hrel
    have HB := Lib.hid hB; clear hB
    by_cases hkn : k < n
    · have c0 : wr.cell? ⟨g, k, none⟩ = some (.int .i64 (v k)) := (o0.cell (j := k) (by omega)).trans (by rw [if_neg (by omega)])
      have z0 := o0.frozen k
      go_wp2
      go_roundw
      case rel =>
        refine ⟨k + 1, by omega, by go_num, by go_num, Own.congr (o0.set k (((k : Nat) : Int) + 1)) (fun j hj => ?_), ?_⟩
        · repeat' split
          all_goals first | rfl | (exfalso; omega) | (push_cast; omega)
        · have hh := HB.out
          exact only_set hh _ _
      case measure => simp [intOf]; omega
    · obtain rfl : k = n := by omega
      go_wp2
      go_ret
      exact ⟨ret_int (by push_cast; rfl), o0.congr (fun j hj => by rw [if_pos (by omega)]), HB.out⟩
theorem heldIntS_any (A : Option Addr) (n c : Nat) (w : World) (hn : n ≤ 1048576) (f0 : Fl w A n 1 (fun j => (j : Int) + 1)) : Calls Try.prog 23 #[.slice A n c, .int .i64 1] w
    fun e w' => e = .returned (.int .i64 (n + 1)) ∧ Below w.heap.size w w' := by
  go_enter Try.func23, Try.ntmps23
  go_wp2_with fail
  go_loopw [1, 5] (fun a x wr => ∃ k : Nat, k ≤ n ∧ a = .int .i64 ((k + 1 : Nat) : Int) ∧ x = .int .i64 k ∧ Below w.heap.size w wr) (fun _ x _ => n - (intOf x).toNat)
  case atStart => exact ⟨0, Nat.zero_le _, rfl, rfl, Below.refl _ _⟩
  case round =>
    obtain ⟨k, hk, rfl, rfl, hB⟩ := hrel
    by_cases hkn : k < n
    · obtain ⟨b, off, rfl, hc⟩ := (f0.below hB) (by omega)
      have c0 : wr.cell? ⟨b, off + k, none⟩ = some (.int .i64 ((k : Int) + 1)) := hc k (by omega)
      clear f0 hc
      go_wp2
      go_roundw
      case rel => exact ⟨k + 1, by omega, by go_num, by go_num, hB⟩
      case measure => simp [intOf]; omega
    · obtain rfl : k = n := by omega
      go_wp2
      go_ret
      exact ⟨ret_int (by push_cast; rfl), hB⟩
end Go.Proofs.Ytmnmnkenboejpaa
