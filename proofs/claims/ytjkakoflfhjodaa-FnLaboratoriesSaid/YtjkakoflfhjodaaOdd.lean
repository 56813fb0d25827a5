/- The contracts of OddOnes: for every slice of spans and every world, the program's function and the reference's return a slice that holds the same list (oddL), and leave old memory alone. A length of at most 2^20 alone is asked. -/
import Derived.Test.YtjkakoflfhjodaaMost
import Derived.Test.YtjkakoflfhjodaaRes
namespace Go.Proofs.Ytjkakoflfhjodaa
open Go.RowKit
set_option linter.unusedSimpArgs false
set_option linter.unusedVariables false
set_option maxHeartbeats 1000000

/-- The spans among the first k that do not hold x. -/
def oddN (v : Nat → Int) (x : Int) : Nat → List Int
  | 0 => []
  | k + 1 => oddN v x k ++ (if inB x (v (k * 2)) (v (k * 2 + 1)) = true then [] else [(k : Int)])
theorem oddN_len (v : Nat → Int) (x : Int) (k : Nat) : (oddN v x k).length ≤ k := by
  induction k with
  | zero => simp [oddN]
  | succ k ih => simp only [oddN]; split <;> simp <;> omega
theorem oddN_yes {v : Nat → Int} {x : Int} {k : Nat} (h : inB x (v (k * 2)) (v (k * 2 + 1)) = true) : oddN v x (k + 1) = oddN v x k := by simp [oddN, h]
theorem oddN_no {v : Nat → Int} {x : Int} {k : Nat} (h : ¬ inB x (v (k * 2)) (v (k * 2 + 1)) = true) : oddN v x (k + 1) = oddN v x k ++ [(k : Int)] := by simp [oddN, h]
def oddL (n : Nat) (v : Nat → Int) : List Int := if spansB n v = true then oddN v (moB n v) n else []
theorem oddL_yes {n : Nat} {v : Nat → Int} (h : spansB n v = true) : oddL n v = oddN v (moB n v) n := if_pos h
theorem oddL_no {n : Nat} {v : Nat → Int} (h : ¬ spansB n v = true) : oddL n v = [] := if_neg h

theorem impl_Odd (A : Option Addr) (n c : Nat) (v : Nat → Int) (w : World) (hm : n ≤ 1048576) (f0 : Fl w A n 2 v) : Calls Try.prog 32 #[.slice A n c] w (IntRes w (oddL n v)) := by
  have hB := Below.refl w.heap.size w
  have hF0 := f0
  have hS : ∀ w, _ := fun w => impl_SpansOk A n c v w
  by_cases hs : spansB n v = true
  · obtain ⟨s1, s2, s3⟩ := spansB_inv hs
    clear s3
    rw [oddL_yes hs]
    simp only [hs] at hS
    have HS := Lib.hid hS; clear hS hs
    have hM : ∀ w, _ := fun w => impl_Most A n c v w
    revert hM
    generalize moA n v = x0
    generalize moB n v = x
    intro hM
    have HM := Lib.hid hM; clear hM
    go_enter Try.func32, Try.ntmps32
    ((go_wp2_with fail); (with_reducible refine (HM.out _ f0).mono ?_); rintro _ w1 ⟨rfl, hb⟩; replace f0 := Fl.below f0 hb; replace hB := below_step hB hb; clear hb)
    go_wp2_with fail
    go_loopw [5, 15] (fun s t wr => ∃ k : Nat, k ≤ n ∧ t = .int .i64 k ∧ OwnS wr w.heap.size s (oddN v x k) ∧ Below w.heap.size w wr ∧ Fl wr A n 2 v) (fun _ t _ => n - (intOf t).toNat)
    case atStart => exact ⟨0, Nat.zero_le _, rfl, OwnS.nil _ _, hB, f0⟩
    case round =>
      clear hB f0
      obtain ⟨k, hk, rfl, p0, hB, f0⟩ := hrel
      by_cases hkn : k < n
      · have ql := oddN_len v x k
        obtain ⟨b, off, rfl, hc⟩ := id f0 (by omega)
        have c0 : wr.cell? ⟨b, off + k * 2, none⟩ = _ := hc (k * 2) (by omega)
        have c1 : wr.cell? ⟨b, off + k * 2 + 1, none⟩ = _ := hc (k * 2 + 1) (by omega)
        clear hc
        have hb := below_alloc (Below.refl wr.heap.size wr) (.cells #[.int .i64 (v (k * 2)), .int .i64 (v (k * 2 + 1))] 30)
        have c5 : (wr.alloc (.cells #[.int .i64 (v (k * 2)), .int .i64 (v (k * 2 + 1))] 30)).cell? ⟨wr.heap.size, 0, none⟩ = some (.int .i64 (v (k * 2))) := by simp [go_sem]
        have c6 : (wr.alloc (.cells #[.int .i64 (v (k * 2)), .int .i64 (v (k * 2 + 1))] 30)).cell? ⟨wr.heap.size, 1, none⟩ = some (.int .i64 (v (k * 2 + 1))) := by simp [go_sem]
        replace hB := below_step hB hb
        replace p0 := p0.below hb
        replace f0 := f0.below hb
        clear hb
        by_cases t : inB x (v (k * 2)) (v (k * 2 + 1)) = true
        · have e1 := Lib.hid (oddN_yes t)
          go_wp2_with (first | (go_at_call 14; (with_reducible refine (HS.out _ f0).mono ?_); rintro _ w1 ⟨rfl, hb⟩; replace c5 := below_cell hb c5; replace c6 := below_cell hb c6; replace p0 := OwnS.below p0 hb; replace f0 := Fl.below f0 hb; replace hB := below_step hB hb; clear hb) | (go_at_call 40; (with_reducible refine (impl_holds _ _ _ _).mono ?_); rintro _ w1 ⟨rfl, hb⟩; replace p0 := OwnS.below p0 hb; replace f0 := Fl.below f0 hb; replace hB := below_step hB hb; clear hb))
          go_roundw
          case rel => exact ⟨k + 1, by omega, by go_num, by rw [e1.out]; exact p0, hB, f0⟩
          case measure => simp [intOf]; omega
        · have e1 := Lib.hid (oddN_no t)
          go_wp2_with (first | (go_at_call 14; (with_reducible refine (HS.out _ f0).mono ?_); rintro _ w1 ⟨rfl, hb⟩; replace c5 := below_cell hb c5; replace c6 := below_cell hb c6; replace p0 := OwnS.below p0 hb; replace f0 := Fl.below f0 hb; replace hB := below_step hB hb; clear hb) | (go_at_call 40; (with_reducible refine (impl_holds _ _ _ _).mono ?_); rintro _ w1 ⟨rfl, hb⟩; replace p0 := OwnS.below p0 hb; replace f0 := Fl.below f0 hb; replace hB := below_step hB hb; clear hb) | (at_builtin; refine push_one rfl (.tmp 28) (.tmp 30) rfl w.heap.size _ _ k rfl rfl p0 (by omega) hB.size ?_; intro s' w1 hown' hgrow; have hB1 := below_grow hB p0 hgrow))
          go_roundw
          case rel => exact ⟨k + 1, by omega, by go_num, by rw [e1.out]; exact hown', hB1, (hF0.below hB1)⟩
          case measure => simp [intOf]; omega
      · obtain rfl : k = n := by omega
        go_wp2
        go_ret
        exact p0.res hB
  · rw [oddL_no hs]
    have e0 : spansB n v = false := by simpa using hs
    simp only [e0] at hS
    have HS := Lib.hid hS; clear hS hs e0
    go_enter Try.func32, Try.ntmps32
    ((go_wp2_with fail); (with_reducible refine (impl_Most A n c v _ f0).mono ?_); rintro _ w1 ⟨rfl, hb⟩; replace f0 := Fl.below f0 hb; replace hB := below_step hB hb; clear hb)
    go_wp2_with fail
    go_loopw [5, 15] (fun s t wr => ∃ k : Nat, k ≤ n ∧ t = .int .i64 k ∧ s = .slice none 0 0 ∧ Below w.heap.size w wr ∧ Fl wr A n 2 v) (fun _ t _ => n - (intOf t).toNat)
    case atStart => exact ⟨0, Nat.zero_le _, rfl, rfl, hB, f0⟩
    case round =>
      clear hB f0
      obtain ⟨k, hk, rfl, rfl, hB, f0⟩ := hrel
      by_cases hkn : k < n
      · obtain ⟨b, off, rfl, hc⟩ := id f0 (by omega)
        have c0 : wr.cell? ⟨b, off + k * 2, none⟩ = _ := hc (k * 2) (by omega)
        have c1 : wr.cell? ⟨b, off + k * 2 + 1, none⟩ = _ := hc (k * 2 + 1) (by omega)
        clear hc
        have hb := below_alloc (Below.refl wr.heap.size wr) (.cells #[.int .i64 (v (k * 2)), .int .i64 (v (k * 2 + 1))] 30)
        replace hB := below_step hB hb
        replace f0 := f0.below hb
        clear hb
        go_wp2_with (first | (go_at_call 14; (with_reducible refine (HS.out _ f0).mono ?_); rintro _ w1 ⟨rfl, hb⟩; replace f0 := Fl.below f0 hb; replace hB := below_step hB hb; clear hb))
        go_roundw
        case rel => exact ⟨k + 1, by omega, by go_num, rfl, hB, f0⟩
        case measure => simp [intOf]; omega
      · obtain rfl : k = n := by omega
        go_wp2
        go_ret
        exact ⟨none, 0, rfl, fun hl => absurd hl (by simp), hB⟩

theorem spec_Odd (A : Option Addr) (n c : Nat) (v : Nat → Int) (w : World) (hm : n ≤ 1048576) (f0 : Fl w A n 2 v) : Calls Try.prog 31 #[.slice A n c] w (IntRes w (oddL n v)) := by
  have hB : Below w.heap.size w (w.alloc (.cells #[] 3)) := below_alloc (Below.refl _ _) _
  have hF0 := f0
  replace f0 := f0.below hB
  have p0 := OwnS.empty (w := w) (B := w.heap.size) (Nat.le_refl _)
  have hS : ∀ w, _ := fun w => spec_SpansOk A n c v w hm
  by_cases hs : spansB n v = true
  · obtain ⟨s1, s2, s3⟩ := spansB_inv hs
    clear s3
    rw [oddL_yes hs]
    simp only [hs] at hS
    have HS := Lib.hid hS; clear hS hs
    have hM : ∀ w, _ := fun w => spec_Most A n c v w hm
    revert hM
    generalize moA n v = x0
    generalize moB n v = x
    intro hM
    have HM := Lib.hid hM; clear hM
    go_enter Try.func31, Try.ntmps31
    ((go_wp2_with fail); (with_reducible refine (HM.out _ f0).mono ?_); rintro _ w1 ⟨rfl, hb⟩; replace p0 := OwnS.below p0 hb; replace f0 := Fl.below f0 hb; replace hB := below_step hB hb; clear hb)
    go_wp2_with fail
    go_loopw [3, 6] (fun s t wr => ∃ k : Nat, k ≤ n ∧ t = .int .i64 k ∧ OwnS wr w.heap.size s (oddN v x k) ∧ Below w.heap.size w wr ∧ Fl wr A n 2 v) (fun _ t _ => n - (intOf t).toNat)
    case atStart => exact ⟨0, Nat.zero_le _, rfl, p0, hB, f0⟩
    case round =>
      clear hB f0 p0
      obtain ⟨k, hk, rfl, p0, hB, f0⟩ := hrel
      by_cases hkn : k < n
      · have ql := oddN_len v x k
        obtain ⟨b, off, rfl, hc⟩ := id f0 (by omega)
        have c0 : wr.cell? ⟨b, off + k * 2, none⟩ = _ := hc (k * 2) (by omega)
        have c1 : wr.cell? ⟨b, off + k * 2 + 1, none⟩ = _ := hc (k * 2 + 1) (by omega)
        clear hc
        by_cases t : inB x (v (k * 2)) (v (k * 2 + 1)) = true
        · have e1 := Lib.hid (oddN_yes t)
          go_wp2_with (first | (go_at_call 12; (with_reducible refine (HS.out _ f0).mono ?_); rintro _ w1 ⟨rfl, hb⟩; replace c0 := below_cell hb c0; replace c1 := below_cell hb c1; replace p0 := OwnS.below p0 hb; replace f0 := Fl.below f0 hb; replace hB := below_step hB hb; clear hb) | (go_at_call 39; (with_reducible refine (spec_l32In _ _ _ _).mono ?_); rintro _ w1 ⟨rfl, hb⟩; replace p0 := OwnS.below p0 hb; replace f0 := Fl.below f0 hb; replace hB := below_step hB hb; clear hb))
          go_roundw
          case rel => exact ⟨k + 1, by omega, by go_num, by rw [e1.out]; exact p0, hB, f0⟩
          case measure => simp [intOf]; omega
        · have e1 := Lib.hid (oddN_no t)
          go_wp2_with (first | (go_at_call 12; (with_reducible refine (HS.out _ f0).mono ?_); rintro _ w1 ⟨rfl, hb⟩; replace c0 := below_cell hb c0; replace c1 := below_cell hb c1; replace p0 := OwnS.below p0 hb; replace f0 := Fl.below f0 hb; replace hB := below_step hB hb; clear hb) | (go_at_call 39; (with_reducible refine (spec_l32In _ _ _ _).mono ?_); rintro _ w1 ⟨rfl, hb⟩; replace p0 := OwnS.below p0 hb; replace f0 := Fl.below f0 hb; replace hB := below_step hB hb; clear hb) | (at_builtin; refine push_one rfl (.tmp 30) (.tmp 32) rfl w.heap.size _ _ k rfl rfl p0 (by omega) hB.size ?_; intro s' w1 hown' hgrow; have hB1 := below_grow hB p0 hgrow))
          go_roundw
          case rel => exact ⟨k + 1, by omega, by go_num, by rw [e1.out]; exact hown', hB1, (hF0.below hB1)⟩
          case measure => simp [intOf]; omega
      · obtain rfl : k = n := by omega
        go_wp2
        go_ret
        exact p0.res hB
  · rw [oddL_no hs]
    have e0 : spansB n v = false := by simpa using hs
    simp only [e0] at hS
    have HS := Lib.hid hS; clear hS hs e0
    go_enter Try.func31, Try.ntmps31
    ((go_wp2_with fail); (with_reducible refine (spec_Most A n c v _ hm f0).mono ?_); rintro _ w1 ⟨rfl, hb⟩; replace p0 := OwnS.below p0 hb; replace f0 := Fl.below f0 hb; replace hB := below_step hB hb; clear hb)
    go_wp2_with fail
    by_cases hn : 0 < n
    · refine wp_loop_rounds 1 ?_
      rw [rounds_succ]
      go_wp2_with (first | (go_at_call 12; (with_reducible refine (HS.out _ f0).mono ?_); rintro _ w1 ⟨rfl, hb⟩; replace p0 := OwnS.below p0 hb; replace f0 := Fl.below f0 hb; replace hB := below_step hB hb; clear hb))
      go_ret
      exact p0.res hB
    · obtain rfl : n = 0 := by omega
      refine wp_loop_rounds 1 ?_
      rw [rounds_succ]
      go_wp2
      go_ret
      exact p0.res hB
end Go.Proofs.Ytjkakoflfhjodaa
