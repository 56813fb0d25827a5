/- The contracts of DoPairsAgree and CommonSpan: for every slice of spans and every world, the program's function and the reference's return the same value (pairB, comV), and leave old memory alone. A length of at most 2^20 alone is asked. -/
import Derived.Test.YtjkakoflfhjodaaSpans
import Derived.RegionTactic
import Derived.BigRegion
namespace Go.Proofs.Ytjkakoflfhjodaa
open Go.RowKit
set_option linter.unusedSimpArgs false
set_option linter.unusedVariables false
set_option maxHeartbeats 1000000

/-- The first k spans each begin no later than each of n spans ends. -/
def rowB (v : Nat → Int) (n k : Nat) : Bool := allN (fun i => decide (v (k * 2) ≤ v (i * 2 + 1))) n
def pairB (n : Nat) (v : Nat → Int) : Bool := spansB n v && allN (rowB v n) n
theorem rowB_iff {v : Nat → Int} {n k : Nat} : rowB v n k = true ↔ ∀ i, i < n → v (k * 2) ≤ v (i * 2 + 1) := by simp [rowB, allN_iff]
theorem pairB_no {n k i : Nat} {v : Nat → Int} (hk : k < n) (hi : i < n) (h : v (i * 2 + 1) < v (k * 2)) : pairB n v = false := by
  have h1 : rowB v n k = false := allN_no hi (by simp; omega)
  simp [pairB, allN_no hk h1]
/-- Spans i and k have a number in common, by the reference's test. -/
def okP (v : Nat → Int) (k i : Nat) : Bool := decide (max (v (i * 2)) (v (k * 2)) ≤ min (v (i * 2 + 1)) (v (k * 2 + 1)))
theorem okP_iff {v : Nat → Int} {k i : Nat} : okP v k i = true ↔ max (v (i * 2)) (v (k * 2)) ≤ min (v (i * 2 + 1)) (v (k * 2 + 1)) := by simp [okP]
theorem pairB_spec {n : Nat} {v : Nat → Int} (h : allN (fun k => allN (okP v k) k) n = true) : pairB n v = spansB n v := by
  cases hs : spansB n v with
  | false => simp [pairB, hs]
  | true =>
    obtain ⟨s1, s2, s3⟩ := spansB_inv hs
    rw [allN_iff] at h
    simp only [pairB, hs, Bool.true_and, allN_iff, rowB_iff]
    intro k hk i hi
    rcases Nat.lt_trichotomy i k with h1 | h1 | h1
    · have := allN_iff.1 (h k hk) i h1
      rw [okP_iff] at this
      omega
    · subst h1
      have := s3 i hi
      omega
    · have := allN_iff.1 (h i hi) k h1
      rw [okP_iff] at this
      omega
theorem pairB_bad {n k i : Nat} {v : Nat → Int} (hk : k < n) (hi : i < n) (h : okP v k i = false) : pairB n v = false := by
  cases hs : spansB n v with
  | false => simp [pairB, hs]
  | true =>
    obtain ⟨s1, s2, s3⟩ := spansB_inv hs
    have h0 : ¬ okP v k i = true := by simp [h]
    rw [okP_iff] at h0
    have a1 := s3 k hk
    have a2 := s3 i hi
    by_cases h1 : v (i * 2 + 1) < v (k * 2)
    · exact pairB_no hk hi h1
    · exact pairB_no hi hk (by omega)

theorem impl_DoPairs (A : Option Addr) (n c : Nat) (v : Nat → Int) (w : World) (f0 : Fl w A n 2 v) : Calls Try.prog 20 #[.slice A n c] w fun e w' => e = .returned (.bool (pairB n v)) ∧ Below w.heap.size w w' := by
  have hB := Below.refl w.heap.size w
  by_cases hs : spansB n v = true
  · obtain ⟨s1, s2, s3⟩ := spansB_inv hs
    have S3 := Lib.hid s3; clear s3
    go_enter Try.func20, Try.ntmps20
    go_wp2_with (go_at_call 14; (with_reducible refine (impl_SpansOk A n c v _ f0).mono ?_); rintro _ w1 ⟨rfl, hb⟩; replace f0 := Fl.below f0 hb; replace hB := below_step hB hb; clear hb)
    have HS := Lib.hid hs; clear hs
    go_loopw [12] (fun x wr => ∃ k : Nat, k ≤ n ∧ x = .int .i64 k ∧ allN (rowB v n) k = true ∧ Below w.heap.size w wr ∧ Fl wr A n 2 v) (fun x _ => n - (intOf x).toNat)
    case atStart => exact ⟨0, Nat.zero_le _, rfl, rfl, hB, f0⟩
    case round =>
      obtain ⟨k, hk, rfl, hr, hB, f0⟩ := hrel
      by_cases hkn : k < n
      · obtain ⟨b, off, rfl, hc⟩ := f0 (by omega)
        have c0 : wr.cell? ⟨b, off + k * 2, none⟩ = _ := hc (k * 2) (by omega)
        have c1 : wr.cell? ⟨b, off + k * 2 + 1, none⟩ = _ := hc (k * 2 + 1) (by omega)
        clear hc
        go_wp2_with fail
        obtain ⟨w1, hW⟩ : ∃ w1, w1 = wr.alloc (.cells #[.int .i64 (v (k * 2)), .int .i64 (v (k * 2 + 1))] 30) := ⟨_, rfl⟩
        have hb : Below wr.heap.size wr w1 := by rw [hW]; exact (Below.refl _ _).alloc (Nat.le_refl _) _
        have c2 : w1.cell? ⟨wr.heap.size, 0, none⟩ = some (.int .i64 (v (k * 2))) := by rw [hW]; simp [go_sem]
        have f1 := f0.below hb
        have hB1 := below_step hB hb
        rw [← hW]
        clear hW f0 c0 c1 hb
        go_loopw [18] (fun x wr2 => ∃ i : Nat, i ≤ n ∧ x = .int .i64 i ∧ allN (fun i => decide (v (k * 2) ≤ v (i * 2 + 1))) i = true ∧ Below w.heap.size w wr2 ∧ Below w1.heap.size w1 wr2) (fun x _ => n - (intOf x).toNat)
        case atStart => exact ⟨0, Nat.zero_le _, rfl, rfl, hB1, Below.refl _ _⟩
        case round =>
          obtain ⟨i, hi, rfl, hq, hB2, hb2⟩ := hrel
          by_cases hin : i < n
          · obtain ⟨b', off', e', hc'⟩ := (f1.below hb2) (by omega)
            obtain ⟨rfl, rfl⟩ : b = b' ∧ off = off' := by simpa using e'
            replace c2 := below_cell hb2 c2
            have c3 : wr.cell? ⟨b, off + i * 2, none⟩ = _ := hc' (i * 2) (by omega)
            have c4 : wr.cell? ⟨b, off + i * 2 + 1, none⟩ = _ := hc' (i * 2 + 1) (by omega)
            have l0 := lt_of_cell c2
            clear hc' f1
            by_cases t : v (k * 2) ≤ v (i * 2 + 1)
            · go_wp2
              go_roundw
              case rel => exact ⟨i + 1, by omega, by go_num, by simp [allN, hq, t], below_alloc hB2 _, below_alloc hb2 _⟩
              case measure => simp [intOf]; omega
            · go_wp2
              go_ret
              exact ⟨ret_bool (pairB_no hkn hin (by omega)).symm, below_alloc hB2 _⟩
          · obtain rfl : i = n := by omega
            go_wp2
            go_roundw
            case rel => exact ⟨k + 1, by omega, by go_num, by simp only [allN, hr, Bool.true_and]; exact hq, hB2, f1.below hb2⟩
            case measure => simp [intOf]; omega
      · obtain rfl : k = n := by omega
        go_wp2
        go_ret
        exact ⟨ret_bool (by simp [pairB, HS.out, hr]), hB⟩
  · go_enter Try.func20, Try.ntmps20
    go_wp2_with (go_at_call 14; (with_reducible refine (impl_SpansOk A n c v _ f0).mono ?_); rintro _ w1 ⟨rfl, hb⟩; replace f0 := Fl.below f0 hb; replace hB := below_step hB hb; clear hb)
    go_ret
    exact ⟨ret_bool (by simp [pairB, hs]), hB⟩
theorem spec_DoPairs (A : Option Addr) (n c : Nat) (v : Nat → Int) (w : World) (hm : n ≤ 1048576) (f0 : Fl w A n 2 v) : Calls Try.prog 19 #[.slice A n c] w fun e w' => e = .returned (.bool (pairB n v)) ∧ Below w.heap.size w w' := by
  have hB := Below.refl w.heap.size w
  go_enter Try.func19, Try.ntmps19
  go_wp2_with fail
  go_loopw [3] (fun x wr => ∃ k : Nat, k ≤ n ∧ x = .int .i64 k ∧ allN (fun k => allN (okP v k) k) k = true ∧ Below w.heap.size w wr) (fun x _ => n - (intOf x).toNat)
  case atStart => exact ⟨0, Nat.zero_le _, rfl, rfl, hB⟩
  case round =>
    obtain ⟨k, hk, rfl, hr, hB⟩ := hrel
    by_cases hkn : k < n
    · go_wp2_with fail
      obtain ⟨w1, hW⟩ : ∃ w1 : World, w1 = wr := ⟨_, rfl⟩
      subst hW
      go_loopw [4] (fun x wr2 => ∃ i : Nat, i ≤ k ∧ x = .int .i64 i ∧ allN (okP v k) i = true ∧ Below w.heap.size w wr2) (fun x _ => k - (intOf x).toNat)
      case atStart => exact ⟨0, Nat.zero_le _, rfl, rfl, hB⟩
      case round =>
        clear hB
        obtain ⟨i, hi, rfl, hq, hB⟩ := hrel
        by_cases hik : i < k
        · obtain ⟨b, off, rfl, hc⟩ := (f0.below hB) (by omega)
          have c0 : wr.cell? ⟨b, off + k * 2, none⟩ = _ := hc (k * 2) (by omega)
          have c1 : wr.cell? ⟨b, off + k * 2 + 1, none⟩ = _ := hc (k * 2 + 1) (by omega)
          have c2 : wr.cell? ⟨b, off + i * 2, none⟩ = _ := hc (i * 2) (by omega)
          have c3 : wr.cell? ⟨b, off + i * 2 + 1, none⟩ = _ := hc (i * 2 + 1) (by omega)
          clear hc f0
          by_cases t1 : v (i * 2) < v (k * 2) <;> by_cases t2 : v (k * 2 + 1) < v (i * 2 + 1)
          all_goals
            go_wp2_with fail
            (have Ec0 := ext_cell c0; have Ec1 := ext_cell c1; have Ec2 := ext_cell c2; have Ec3 := ext_cell c3; refine calm_lit (by kernel_rfl) (by kernel_rfl) ?_; (repeat (first | go_big_quiet_step (fail) | simp only [TF])); refine wpQuiet_nil ?_; intro w1 hb; clear Ec0 Ec1 Ec2 Ec3; replace c0 := below_cell hb c0; replace c1 := below_cell hb c1; replace c2 := below_cell hb c2; replace c3 := below_cell hb c3; replace hB := below_step hB hb; clear hb)
            go_wp2
            all_goals first
              | (go_roundw
                 case rel => exact ⟨i + 1, by omega, by go_num, by simp only [allN, hq, Bool.true_and]; rw [okP_iff]; omega, hB⟩
                 case measure => simp [intOf]; omega)
              | (go_ret
                 refine ⟨ret_bool (pairB_bad hkn (by omega : i < n) ?_).symm, hB⟩
                 cases ho : okP v k i with
                 | false => rfl
                 | true => rw [okP_iff] at ho; omega)
        · obtain rfl : i = k := by omega
          go_wp2
          go_roundw
          case rel => exact ⟨i + 1, by omega, by go_num, by rw [allN, hr, Bool.true_and]; exact hq, hB⟩
          case measure => simp [intOf]; omega
    · obtain rfl : k = n := by omega
      go_wp2_with (go_at_call 12; (with_reducible refine (spec_SpansOk A _ c v _ hm (f0.below hB)).mono ?_); rintro _ w1 ⟨rfl, hb⟩; replace hB := below_step hB hb; clear hb)
      go_ret
      exact ⟨ret_bool (pairB_spec hr).symm, hB⟩
end Go.Proofs.Ytjkakoflfhjodaa
