/- The contracts of MostAgreeing: for every slice of spans and every world, the program's function and the reference's return the same two numbers (moV), and leave old memory alone. A length of at most 2^20 alone is asked. -/
import Derived.Test.YtjkakoflfhjodaaSpans
namespace Go.Proofs.Ytjkakoflfhjodaa
open Go.RowKit
set_option linter.unusedSimpArgs false
set_option linter.unusedVariables false
set_option maxHeartbeats 1000000

theorem impl_holds (lo hi x : Int) (w : World) : Calls Try.prog 40 #[.agg #[.int .i64 lo, .int .i64 hi], .int .i64 x] w fun e w' => e = .returned (.bool (inB x lo hi)) ∧ Below w.heap.size w w' := by
  go_enter Try.func40, Try.ntmps40
  go_wp2_with (go_at_call 38; (with_reducible refine (in_any _ _ _ _).mono ?_); rintro _ _ ⟨rfl, rfl⟩)
  go_ret
  exact ⟨rfl, by (repeat (first | exact Below.refl _ _ | assumption | (refine Below.drew ?_) | (refine below_alloc ?_ _) | (refine Below.setCell ?_ (by first | (simp; done) | (simp; omega) | omega | (have hq := hB.size; (try simp at hq ⊢); omega)) _) | (refine Below.alloc ?_ (by first | (simp; done) | (simp; omega) | omega | (have hq := hB.size; (try simp at hq ⊢); omega)) _) | (refine below_step ?_ (by assumption))))⟩
theorem spec_l32In (lo hi x : Int) (w : World) : Calls Try.prog 39 #[.agg #[.int .i64 lo, .int .i64 hi], .int .i64 x] w fun e w' => e = .returned (.bool (inB x lo hi)) ∧ Below w.heap.size w w' := by
  go_enter Try.func39, Try.ntmps39
  go_wp2
  all_goals go_ret
  all_goals exact ⟨ret_bool (by rw [Bool.eq_iff_iff]; simp [inB] <;> omega), by (repeat (first | exact Below.refl _ _ | assumption | (refine Below.drew ?_) | (refine below_alloc ?_ _) | (refine Below.setCell ?_ (by first | (simp; done) | (simp; omega) | omega | (have hq := hB.size; (try simp at hq ⊢); omega)) _) | (refine Below.alloc ?_ (by first | (simp; done) | (simp; omega) | omega | (have hq := hB.size; (try simp at hq ⊢); omega)) _) | (refine below_step ?_ (by assumption))))⟩

/-- How many of the first i spans hold x. -/
def cnt (v : Nat → Int) (x : Int) : Nat → Nat
  | 0 => 0
  | i + 1 => cnt v x i + if inB x (v (i * 2)) (v (i * 2 + 1)) = true then 1 else 0
theorem cnt_le (v : Nat → Int) (x : Int) (i : Nat) : cnt v x i ≤ i := by
  induction i with
  | zero => simp [cnt]
  | succ i ih => simp only [cnt]; split <;> omega
theorem cnt_yes {v : Nat → Int} {x : Int} {i : Nat} (h : inB x (v (i * 2)) (v (i * 2 + 1)) = true) : cnt v x (i + 1) = cnt v x i + 1 := by simp [cnt, h]
theorem cnt_no {v : Nat → Int} {x : Int} {i : Nat} (h : ¬ inB x (v (i * 2)) (v (i * 2 + 1)) = true) : cnt v x (i + 1) = cnt v x i := by simp [cnt, h]
/-- The greatest count among the first k beginnings, and the least of these beginnings. -/
def mo (v : Nat → Int) (n : Nat) : Nat → Nat × Int
  | 0 => (0, 0)
  | k + 1 => if (mo v n k).1 < cnt v (v (k * 2)) n ∨ cnt v (v (k * 2)) n = (mo v n k).1 ∧ v (k * 2) < (mo v n k).2 then (cnt v (v (k * 2)) n, v (k * 2)) else mo v n k
theorem mo_yes {v : Nat → Int} {n k : Nat} (h : (mo v n k).1 < cnt v (v (k * 2)) n ∨ cnt v (v (k * 2)) n = (mo v n k).1 ∧ v (k * 2) < (mo v n k).2) : mo v n (k + 1) = (cnt v (v (k * 2)) n, v (k * 2)) := by
  rw [mo, if_pos h]
theorem mo_no {v : Nat → Int} {n k : Nat} (h : ¬ ((mo v n k).1 < cnt v (v (k * 2)) n ∨ cnt v (v (k * 2)) n = (mo v n k).1 ∧ v (k * 2) < (mo v n k).2)) : mo v n (k + 1) = mo v n k := by
  rw [mo, if_neg h]
def moA (n : Nat) (v : Nat → Int) : Int := if spansB n v = true then ((mo v n n).1 : Int) else 0
def moB (n : Nat) (v : Nat → Int) : Int := if spansB n v = true then (mo v n n).2 else 0

theorem impl_Most (A : Option Addr) (n c : Nat) (v : Nat → Int) (w : World) (f0 : Fl w A n 2 v) : Calls Try.prog 22 #[.slice A n c] w fun e w' => e = .returned (.tuple #[.int .i64 (moA n v), .int .i64 (moB n v)]) ∧ Below w.heap.size w w' := by
  have hB := Below.refl w.heap.size w
  by_cases hs : spansB n v = true
  · obtain ⟨s1, s2, s3⟩ := spansB_inv hs
    clear s3
    go_enter Try.func22, Try.ntmps22
    go_wp2_with (go_at_call 14; (with_reducible refine (impl_SpansOk A n c v _ f0).mono ?_); rintro _ w1 ⟨rfl, hb⟩; replace f0 := Fl.below f0 hb; replace hB := below_step hB hb; clear hb)
    have HS := Lib.hid hs; clear hs
    go_loopw [4, 5, 16] (fun a b x wr => ∃ k : Nat, k ≤ n ∧ a = .int .i64 ((mo v n k).1 : Nat) ∧ b = .int .i64 (mo v n k).2 ∧ x = .int .i64 k ∧ Below w.heap.size w wr ∧ Fl wr A n 2 v) (fun _ _ x _ => n - (intOf x).toNat)
    case atStart => exact ⟨0, Nat.zero_le _, rfl, rfl, rfl, hB, f0⟩
    case round =>
      obtain ⟨k, hk, rfl, rfl, rfl, hB, f0⟩ := hrel
      by_cases hkn : k < n
      · obtain ⟨b, off, rfl, hc⟩ := f0 (by omega)
        have c0 : wr.cell? ⟨b, off + k * 2, none⟩ = _ := hc (k * 2) (by omega)
        have c1 : wr.cell? ⟨b, off + k * 2 + 1, none⟩ = _ := hc (k * 2 + 1) (by omega)
        clear hc
        go_wp2_with fail
        obtain ⟨w1, hW⟩ : ∃ w1, w1 = wr.alloc (.cells #[.int .i64 (v (k * 2)), .int .i64 (v (k * 2 + 1))] 30) := ⟨_, rfl⟩
        have hb : Below wr.heap.size wr w1 := by rw [hW]; exact (Below.refl _ _).alloc (Nat.le_refl _) _
        have c2 : w1.cell? ⟨wr.heap.size, 0, none⟩ = some (.int .i64 (v (k * 2))) := by rw [hW]; simp [go_sem]
        have f1 := f0.below hb
        have hB1 := below_step hB hb
        rw [← hW]
        clear hW f0 c0 c1 hb
        go_loopw [8, 22] (fun a x wr2 => ∃ i : Nat, i ≤ n ∧ a = .int .i64 (cnt v (v (k * 2)) i : Nat) ∧ x = .int .i64 i ∧ Below w.heap.size w wr2 ∧ Below w1.heap.size w1 wr2) (fun _ x _ => n - (intOf x).toNat)
        case atStart => exact ⟨0, Nat.zero_le _, rfl, rfl, hB1, Below.refl _ _⟩
        case round =>
          obtain ⟨i, hi, rfl, rfl, hB2, hb2⟩ := hrel
          have q1 := cnt_le v (v (k * 2)) i
          by_cases hin : i < n
          · obtain ⟨b', off', e', hc'⟩ := (f1.below hb2) (by omega)
            obtain ⟨rfl, rfl⟩ : b = b' ∧ off = off' := by simpa using e'
            replace c2 := below_cell hb2 c2
            have c3 : wr.cell? ⟨b, off + i * 2, none⟩ = _ := hc' (i * 2) (by omega)
            have c4 : wr.cell? ⟨b, off + i * 2 + 1, none⟩ = _ := hc' (i * 2 + 1) (by omega)
            have l0 := lt_of_cell c2
            clear hc' f1
            by_cases t : inB (v (k * 2)) (v (i * 2)) (v (i * 2 + 1)) = true
            · have e1 := Lib.hid (cnt_yes t)
              go_wp2_with (go_at_call 40; (with_reducible refine (impl_holds _ _ _ _).mono ?_); rintro _ w2 ⟨rfl, hb⟩)
              go_roundw
              case rel => exact ⟨i + 1, by omega, by rw [e1.out]; go_num, by go_num, below_step (below_alloc hB2 _) hb, below_step (below_alloc hb2 _) hb⟩
              case measure => simp [intOf]; omega
            · have e1 := Lib.hid (cnt_no t)
              go_wp2_with (go_at_call 40; (with_reducible refine (impl_holds _ _ _ _).mono ?_); rintro _ w2 ⟨rfl, hb⟩)
              go_roundw
              case rel => exact ⟨i + 1, by omega, by rw [e1.out], by go_num, below_step (below_alloc hB2 _) hb, below_step (below_alloc hb2 _) hb⟩
              case measure => simp [intOf]; omega
          · obtain rfl : i = n := by omega
            replace c2 := below_cell hb2 c2
            have f2 := f1.below hb2
            replace hB := hB2
            clear hB2
            by_cases t1 : (mo v i k).1 < cnt v (v (k * 2)) i
            · have e1 := Lib.hid (mo_yes (Or.inl t1))
              have t1' : ((mo v i k).1 : Int) < (cnt v (v (k * 2)) i : Int) := by omega
              go_wp2_with fail
              (have Ec2 := ext_cell c2; refine calm_lit (by kernel_rfl) (by kernel_rfl) ?_; (repeat (first | go_big_quiet_step (fail) | simp only [TF])); refine wpQuiet_nil ?_; intro w1 hb; clear Ec2; replace c2 := below_cell hb c2; replace f2 := Fl.below f2 hb; replace hB := below_step hB hb; clear hb)
              go_wp2
              go_roundw
              case rel => exact ⟨k + 1, by omega, by rw [e1.out], by rw [e1.out], by go_num, hB, f2⟩
              case measure => simp [intOf]; omega
            · by_cases t2 : cnt v (v (k * 2)) i = (mo v i k).1
              · have t2' : ((cnt v (v (k * 2)) i : Int) == ((mo v i k).1 : Int)) = true := by simp; omega
                by_cases t3 : v (k * 2) < (mo v i k).2
                · have e1 := Lib.hid (mo_yes (Or.inr ⟨t2, t3⟩))
                  have T2 := Lib.hid t2; clear t2
                  go_wp2_with fail
                  (have Ec2 := ext_cell c2; refine calm_lit (by kernel_rfl) (by kernel_rfl) ?_; (repeat (first | go_big_quiet_step (fail) | simp only [TF])); refine wpQuiet_nil ?_; intro w1 hb; clear Ec2; replace c2 := below_cell hb c2; replace f2 := Fl.below f2 hb; replace hB := below_step hB hb; clear hb)
                  go_wp2
                  go_roundw
                  case rel => exact ⟨k + 1, by omega, by rw [e1.out], by rw [e1.out], by go_num, hB, f2⟩
                  case measure => simp [intOf]; omega
                · have e1 := Lib.hid (mo_no (v := v) (n := i) (k := k) (by omega))
                  have T2 := Lib.hid t2; clear t2
                  go_wp2
                  go_roundw
                  case rel => exact ⟨k + 1, by omega, by rw [e1.out], by rw [e1.out], by go_num, hB, f2⟩
                  case measure => simp [intOf]; omega
              · have e1 := Lib.hid (mo_no (v := v) (n := i) (k := k) (by omega))
                have t2' : ((cnt v (v (k * 2)) i : Int) == ((mo v i k).1 : Int)) = false := by simp; omega
                go_wp2
                go_roundw
                case rel => exact ⟨k + 1, by omega, by rw [e1.out], by rw [e1.out], by go_num, hB, f2⟩
                case measure => simp [intOf]; omega
      · obtain rfl : k = n := by omega
        go_wp2
        go_ret2
        exact ⟨by simp [moA, moB, HS.out], hB⟩
  · go_enter Try.func22, Try.ntmps22
    go_wp2_with (go_at_call 14; (with_reducible refine (impl_SpansOk A n c v _ f0).mono ?_); rintro _ w1 ⟨rfl, hb⟩; replace f0 := Fl.below f0 hb; replace hB := below_step hB hb; clear hb)
    go_ret2
    exact ⟨by simp [moA, moB, hs], hB⟩

theorem spec_Most (A : Option Addr) (n c : Nat) (v : Nat → Int) (w : World) (hm : n ≤ 1048576) (f0 : Fl w A n 2 v) : Calls Try.prog 21 #[.slice A n c] w fun e w' => e = .returned (.tuple #[.int .i64 (moA n v), .int .i64 (moB n v)]) ∧ Below w.heap.size w w' := by
  have hB := Below.refl w.heap.size w
  by_cases hs : spansB n v = true
  · obtain ⟨s1, s2, s3⟩ := spansB_inv hs
    clear s3
    go_enter Try.func21, Try.ntmps21
    go_wp2_with (go_at_call 12; (with_reducible refine (spec_SpansOk A n c v _ hm f0).mono ?_); rintro _ w1 ⟨rfl, hb⟩; replace f0 := Fl.below f0 hb; replace hB := below_step hB hb; clear hb)
    have HS := Lib.hid hs; clear hs
    go_loopw [4, 5, 6] (fun a b x wr => ∃ k : Nat, k ≤ n ∧ a = .int .i64 ((mo v n k).1 : Nat) ∧ b = .int .i64 (mo v n k).2 ∧ x = .int .i64 k ∧ Below w.heap.size w wr ∧ Fl wr A n 2 v) (fun _ _ x _ => n - (intOf x).toNat)
    case atStart => exact ⟨0, Nat.zero_le _, rfl, rfl, rfl, hB, f0⟩
    case round =>
      obtain ⟨k, hk, rfl, rfl, rfl, hB, f0⟩ := hrel
      by_cases hkn : k < n
      · go_wp2_with fail
        obtain ⟨w1, hW⟩ : ∃ w1 : World, w1 = wr := ⟨_, rfl⟩
        subst hW
        go_loopw [7, 8] (fun a x wr2 => ∃ i : Nat, i ≤ n ∧ a = .int .i64 (cnt v (v (k * 2)) i : Nat) ∧ x = .int .i64 i ∧ Below w.heap.size w wr2 ∧ Fl wr2 A n 2 v) (fun _ x _ => n - (intOf x).toNat)
        case atStart => exact ⟨0, Nat.zero_le _, rfl, rfl, hB, f0⟩
        case round =>
          clear hB f0
          obtain ⟨i, hi, rfl, rfl, hB, f0⟩ := hrel
          have q1 := cnt_le v (v (k * 2)) i
          obtain ⟨b, off, rfl, hc⟩ := f0 (by omega)
          have c0 : wr.cell? ⟨b, off + k * 2, none⟩ = _ := hc (k * 2) (by omega)
          by_cases hin : i < n
          · have c3 : wr.cell? ⟨b, off + i * 2, none⟩ = _ := hc (i * 2) (by omega)
            have c4 : wr.cell? ⟨b, off + i * 2 + 1, none⟩ = _ := hc (i * 2 + 1) (by omega)
            clear hc
            by_cases t : inB (v (k * 2)) (v (i * 2)) (v (i * 2 + 1)) = true
            · have e1 := Lib.hid (cnt_yes t)
              go_wp2_with fail
              (have Ec0 := ext_cell c0; have Ec3 := ext_cell c3; have Ec4 := ext_cell c4; refine calm_lit (by kernel_rfl) (by kernel_rfl) ?_; (repeat (first | go_big_quiet_step ((go_at_call 39; exact calm_of (spec_l32In _ _ _ _))) | simp only [TF])); refine wpQuiet_nil ?_; intro w1 hb; clear Ec0 Ec3 Ec4; replace c0 := below_cell hb c0; replace c3 := below_cell hb c3; replace c4 := below_cell hb c4; replace f0 := Fl.below f0 hb; replace hB := below_step hB hb; clear hb)
              go_wp2
              all_goals try (exfalso; simp_all; done)
              go_roundw
              case rel => exact ⟨i + 1, by omega, by rw [e1.out]; go_num, by go_num, hB, f0⟩
              case measure => simp [intOf]; omega
            · have e1 := Lib.hid (cnt_no t)
              go_wp2_with fail
              (have Ec0 := ext_cell c0; have Ec3 := ext_cell c3; have Ec4 := ext_cell c4; refine calm_lit (by kernel_rfl) (by kernel_rfl) ?_; (repeat (first | go_big_quiet_step ((go_at_call 39; exact calm_of (spec_l32In _ _ _ _))) | simp only [TF])); refine wpQuiet_nil ?_; intro w1 hb; clear Ec0 Ec3 Ec4; replace c0 := below_cell hb c0; replace c3 := below_cell hb c3; replace c4 := below_cell hb c4; replace f0 := Fl.below f0 hb; replace hB := below_step hB hb; clear hb)
              go_wp2
              all_goals try (exfalso; simp_all; done)
              go_roundw
              case rel => exact ⟨i + 1, by omega, by rw [e1.out], by go_num, hB, f0⟩
              case measure => simp [intOf]; omega
          · obtain rfl : i = n := by omega
            clear hc
            by_cases t1 : (mo v i k).1 < cnt v (v (k * 2)) i
            · have e1 := Lib.hid (mo_yes (Or.inl t1))
              have t1' : ((mo v i k).1 : Int) < (cnt v (v (k * 2)) i : Int) := by omega
              go_wp2
              go_roundw
              case rel => exact ⟨k + 1, by omega, by rw [e1.out], by rw [e1.out], by go_num, hB, f0⟩
              case measure => simp [intOf]; omega
            · by_cases t2 : cnt v (v (k * 2)) i = (mo v i k).1
              · have t2' : ((cnt v (v (k * 2)) i : Int) == ((mo v i k).1 : Int)) = true := by simp; omega
                by_cases t3 : v (k * 2) < (mo v i k).2
                · have e1 := Lib.hid (mo_yes (Or.inr ⟨t2, t3⟩))
                  have T2 := Lib.hid t2; clear t2
                  go_wp2
                  go_roundw
                  case rel => exact ⟨k + 1, by omega, by rw [e1.out], by rw [e1.out], by go_num, hB, f0⟩
                  case measure => simp [intOf]; omega
                · have e1 := Lib.hid (mo_no (v := v) (n := i) (k := k) (by omega))
                  have T2 := Lib.hid t2; clear t2
                  go_wp2
                  go_roundw
                  case rel => exact ⟨k + 1, by omega, by rw [e1.out], by rw [e1.out], by go_num, hB, f0⟩
                  case measure => simp [intOf]; omega
              · have e1 := Lib.hid (mo_no (v := v) (n := i) (k := k) (by omega))
                have t2' : ((cnt v (v (k * 2)) i : Int) == ((mo v i k).1 : Int)) = false := by simp; omega
                go_wp2
                go_roundw
                case rel => exact ⟨k + 1, by omega, by rw [e1.out], by rw [e1.out], by go_num, hB, f0⟩
                case measure => simp [intOf]; omega
      · obtain rfl : k = n := by omega
        go_wp2
        go_ret2
        exact ⟨by simp [moA, moB, HS.out], hB⟩
  · go_enter Try.func21, Try.ntmps21
    go_wp2_with (go_at_call 12; (with_reducible refine (spec_SpansOk A n c v _ hm f0).mono ?_); rintro _ w1 ⟨rfl, hb⟩; replace f0 := Fl.below f0 hb; replace hB := below_step hB hb; clear hb)
    go_ret2
    exact ⟨by simp [moA, moB, hs], hB⟩
end Go.Proofs.Ytjkakoflfhjodaa
