/- The contracts of MostApart: for every slice of spans and every world, the program's function and the reference's return the same number (the number of greedy points), and leave old memory alone. A length of at most 2^20 alone is asked. -/
import Derived.Test.YtjkakoflfhjodaaSubset
import Derived.RegionTactic
import Derived.BigRegion
namespace Go.Proofs.Ytjkakoflfhjodaa
open Go.RowKit
set_option linter.unusedSimpArgs false
set_option linter.unusedVariables false
set_option maxHeartbeats 1000000
theorem wrap_pow : ∀ n, n < 13 → wrap64 ((2 : Int) ^ n) = ((2 ^ n : Nat) : Int) ∧ 2 ^ n ≤ 4096 := by decide +kernel
theorem allN_step {p : Nat → Bool} {k : Nat} : allN p (k + 1) = (allN p k && p k) := rfl

theorem impl_Apart (A : Option Addr) (n c : Nat) (v : Nat → Int) (w : World) (hm : n ≤ 1048576) (f0 : Fl w A n 2 v) : Calls Try.prog 24 #[.slice A n c] w fun e w' => e = .returned (.int .i64 ((fewL n v).length : Nat)) ∧ Below w.heap.size w w' := by
  have hB := Below.refl w.heap.size w
  have hI := fun w f0 => impl_Few A n c v w hm f0
  have hl : (fewL n v).length ≤ 13 := by
    unfold fewL; split
    · exact few_len v n 13 _
    · simp
  revert hI hl
  generalize fewL n v = l
  intro hI hl
  go_enter Try.func24, Try.ntmps24
  (go_wp2_with fail); (with_reducible refine (hI _ f0).mono ?_); rintro _ w1 ⟨A0, c0, rfl, hA, hb⟩; replace hB := below_step hB hb
  go_wp2_with fail
  go_ret
  exact ⟨rfl, hB⟩
theorem spec_Apart (A : Option Addr) (n c : Nat) (v : Nat → Int) (w : World) (hm : n ≤ 1048576) (f0 : Fl w A n 2 v) : Calls Try.prog 23 #[.slice A n c] w fun e w' => e = .returned (.int .i64 ((fewL n v).length : Nat)) ∧ Below w.heap.size w w' := by
  have hB := Below.refl w.heap.size w
  have hS : ∀ w, _ := fun w => spec_SpansOk A n c v w hm
  by_cases hs : spansB n v = true
  · obtain ⟨s1, s2, s3⟩ := spansB_inv hs
    have hE := best_few s2 fun k hk => (s3 k hk).2.1
    rw [fewL_yes hs]
    rw [← hE]
    clear hE s3
    simp only [hs] at hS
    have HS := Lib.hid hS; clear hS hs
    have hw := wrap_pow n (by omega)
    have h4 := hw.2
    have HSH := Lib.hid hw.1; clear hw
    revert HSH h4
    generalize hM : 2 ^ n = M
    intro h4 HSH
    have HM := Lib.hid hM; clear hM
    go_enter Try.func23, Try.ntmps23
    ((go_wp2_with fail); (with_reducible refine (HS.out _ f0).mono ?_); rintro _ w1 ⟨rfl, hb⟩; replace f0 := Fl.below f0 hb; replace hB := below_step hB hb; clear hb)
    go_wp2_with fail
    go_loopw [3, 4] (fun a x wr => ∃ s : Nat, s ≤ M ∧ x = .int .i64 s ∧ a = .int .i64 (bestN v n s : Nat) ∧ Below w.heap.size w wr ∧ Fl wr A n 2 v) (fun _ x _ => M - (intOf x).toNat)
    case atStart => exact ⟨0, Nat.zero_le _, rfl, rfl, hB, f0⟩
    case round =>
      clear hB f0
      obtain ⟨s, hsM, rfl, rfl, hB, f0⟩ := hrel
      have qb := bestN_le v n s
      by_cases hsn : s < M
      · have hlt : (s : Int) < wrap64 ((2 : Int) ^ n) := by rw [HSH.out]; omega
        go_wp2_with fail
        obtain ⟨w2, hW2⟩ : ∃ w2 : World, w2 = wr := ⟨_, rfl⟩
        subst hW2
        go_loopw [5, 6, 7] (fun a x y wr => ∃ k : Nat, k ≤ n ∧ y = .int .i64 k ∧ ((x = .bool true ∧ a = .int .i64 (cntP (bt s) k : Nat) ∧ freeU v s k = true) ∨ (x = .bool false ∧ freeU v s n = false)) ∧ Below w.heap.size w wr ∧ Fl wr A n 2 v) (fun _ _ y _ => n - (intOf y).toNat)
        case atStart => exact ⟨0, Nat.zero_le _, rfl, Or.inl ⟨rfl, rfl, rfl⟩, hB, f0⟩
        case round =>
          clear hB f0
          obtain ⟨k, hk, rfl, hx, hB, f0⟩ := hrel
          rcases hx with ⟨rfl, rfl, hf⟩ | ⟨rfl, hf⟩
          · have qc := cntP_le (bt s) k
            by_cases hkn : k < n
            · by_cases tb : bt s k = true
              · obtain ⟨tb0, tb1⟩ := bt_yes (s := s) (k := k) (by omega) tb
                have TB := Lib.hid tb
                have HF := Lib.hid hf
                clear tb hf
                go_wp2_with fail
                obtain ⟨w3, hW3⟩ : ∃ w3 : World, w3 = wr := ⟨_, rfl⟩
                subst hW3
                go_loopw [6, 8] (fun x y wr => ∃ j : Nat, j ≤ k ∧ y = .int .i64 j ∧ x = .bool (freeB v s k j) ∧ Below w.heap.size w wr ∧ Fl wr A n 2 v) (fun _ y _ => k - (intOf y).toNat)
                case atStart => exact ⟨0, Nat.zero_le _, rfl, rfl, hB, f0⟩
                case round =>
                  clear hB f0 tb0 tb1
                  obtain ⟨j, hj, rfl, rfl, hB, f0⟩ := hrel
                  by_cases hjk : j < k
                  · by_cases tc : bt s j = true
                    · obtain ⟨_, TF⟩ := bt_yes (s := s) (k := j) (by omega) tc
                      obtain ⟨b, off, rfl, hc⟩ := id f0 (by omega)
                      have c0 : wr.cell? ⟨b, off + k * 2, none⟩ = _ := hc (k * 2) (by omega)
                      have c1 : wr.cell? ⟨b, off + k * 2 + 1, none⟩ = _ := hc (k * 2 + 1) (by omega)
                      have c2 : wr.cell? ⟨b, off + j * 2, none⟩ = _ := hc (j * 2) (by omega)
                      have c3 : wr.cell? ⟨b, off + j * 2 + 1, none⟩ = _ := hc (j * 2 + 1) (by omega)
                      clear hc
                      by_cases to : ov v k j = true
                      · have e1 := Lib.hid (show freeB v s k (j + 1) = (freeB v s k j && false) from by simp only [freeB, allN_step, tc, to]; rfl)
                        have ho : max (v (k * 2)) (v (j * 2)) ≤ min (v (k * 2 + 1)) (v (j * 2 + 1)) := by simpa [ov] using to
                        clear tc to
                        by_cases t1 : v (k * 2) < v (j * 2) <;> by_cases t2 : v (j * 2 + 1) < v (k * 2 + 1)
                        all_goals
                          have o2 : (if v (k * 2) < v (j * 2) then v (j * 2) else v (k * 2)) ≤ (if v (j * 2 + 1) < v (k * 2 + 1) then v (j * 2 + 1) else v (k * 2 + 1)) := by simp only [t1, t2, if_true, if_false]; omega
                          simp only [t1, t2, if_true, if_false] at o2
                          clear ho
                          go_wp2_with fail
                          (have Ec0 := ext_cell c0; have Ec1 := ext_cell c1; have Ec2 := ext_cell c2; have Ec3 := ext_cell c3; refine calm_lit (by kernel_rfl) (by kernel_rfl) ?_; (repeat (first | go_big_quiet_step (fail) | simp only [TF])); refine wpQuiet_nil ?_; intro w1 hb; clear Ec0 Ec1 Ec2 Ec3; replace c0 := below_cell hb c0; replace c1 := below_cell hb c1; replace c2 := below_cell hb c2; replace c3 := below_cell hb c3; replace f0 := Fl.below f0 hb; replace hB := below_step hB hb; clear hb)
                          go_wp2
                          go_roundw
                          case rel => exact ⟨j + 1, by omega, by go_num, by rw [e1.out, Bool.and_false], hB, f0⟩
                          case measure => simp [intOf]; omega
                      · have e1 := Lib.hid (show freeB v s k (j + 1) = (freeB v s k j && true) from by simp only [freeB, allN_step, tc]; simp [to])
                        have ho : ¬ max (v (k * 2)) (v (j * 2)) ≤ min (v (k * 2 + 1)) (v (j * 2 + 1)) := by simpa [ov] using to
                        clear tc to
                        by_cases t1 : v (k * 2) < v (j * 2) <;> by_cases t2 : v (j * 2 + 1) < v (k * 2 + 1)
                        all_goals
                          have o2 : ¬ (if v (k * 2) < v (j * 2) then v (j * 2) else v (k * 2)) ≤ (if v (j * 2 + 1) < v (k * 2 + 1) then v (j * 2 + 1) else v (k * 2 + 1)) := by simp only [t1, t2, if_true, if_false]; omega
                          simp only [t1, t2, if_true, if_false] at o2
                          clear ho
                          go_wp2_with fail
                          (have Ec0 := ext_cell c0; have Ec1 := ext_cell c1; have Ec2 := ext_cell c2; have Ec3 := ext_cell c3; refine calm_lit (by kernel_rfl) (by kernel_rfl) ?_; (repeat (first | go_big_quiet_step (fail) | simp only [TF])); refine wpQuiet_nil ?_; intro w1 hb; clear Ec0 Ec1 Ec2 Ec3; replace c0 := below_cell hb c0; replace c1 := below_cell hb c1; replace c2 := below_cell hb c2; replace c3 := below_cell hb c3; replace f0 := Fl.below f0 hb; replace hB := below_step hB hb; clear hb)
                          go_wp2
                          go_roundw
                          case rel => exact ⟨j + 1, by omega, by go_num, by rw [e1.out, Bool.and_true], hB, f0⟩
                          case measure => simp [intOf]; omega
                    · have tc' : bt s j = false := by simpa using tc
                      obtain ⟨_, TF⟩ := bt_no (s := s) (k := j) (by omega) tc'
                      have e1 := Lib.hid (show freeB v s k (j + 1) = (freeB v s k j && true) from by simp only [freeB, allN_step, tc']; rfl)
                      clear tc tc'
                      go_wp2_with fail
                      (refine calm_lit (by kernel_rfl) (by kernel_rfl) ?_; (repeat (first | go_big_quiet_step (fail) | simp only [TF])); refine wpQuiet_nil ?_; intro w1 hb; replace f0 := Fl.below f0 hb; replace hB := below_step hB hb; clear hb)
                      go_wp2
                      go_roundw
                      case rel => exact ⟨j + 1, by omega, by go_num, by rw [e1.out, Bool.and_true], hB, f0⟩
                      case measure => simp [intOf]; omega
                  · obtain rfl : k = j := by omega
                    have e5 := Lib.hid (show cntP (bt s) (k + 1) = cntP (bt s) k + 1 from by simp [cntP, TB.out])
                    have e6 := Lib.hid (show freeU v s (k + 1) = freeB v s k k from by
                      have := HF.out
                      simp only [freeU] at this ⊢
                      rw [allN_step, this, TB.out]; rfl)
                    go_wp2
                    go_roundw
                    case rel =>
                      refine ⟨k + 1, by omega, by go_num, ?_, hB, f0⟩
                      by_cases fb : freeB v s k k = true
                      · exact Or.inl ⟨by rw [fb], by rw [e5.out]; go_num, by rw [e6.out]; exact fb⟩
                      · exact Or.inr ⟨by simpa using fb, allN_no hkn (by
                          have : freeB v s k k = false := by simpa using fb
                          simp only [TB.out, this]; rfl)⟩
                    case measure => simp [intOf]; omega
              · have tb' : bt s k = false := by simpa using tb
                obtain ⟨tb0, tb1⟩ := bt_no (s := s) (k := k) (by omega) tb'
                have e5 := Lib.hid (show cntP (bt s) (k + 1) = cntP (bt s) k from by simp [cntP, tb'])
                have e6 := Lib.hid (show freeU v s (k + 1) = true from by
                  simp only [freeU] at hf ⊢
                  rw [allN_step, hf, tb']; rfl)
                clear tb tb' hf
                go_wp2
                go_roundw
                case rel => exact ⟨k + 1, by omega, by go_num, Or.inl ⟨rfl, by rw [e5.out], e6.out⟩, hB, f0⟩
                case measure => simp [intOf]; omega
            · obtain rfl : n = k := by omega
              by_cases tm : bestN v n s < cntP (bt s) n
              · have e7 := Lib.hid (show bestN v n (s + 1) = cntP (bt s) n from by rw [bestN, if_pos hf]; omega)
                clear hf
                go_wp2
                go_roundw
                case rel => exact ⟨s + 1, by omega, by go_num, by rw [e7.out]; congr 1; omega, hB, f0⟩
                case measure => simp [intOf]; omega
              · have e7 := Lib.hid (show bestN v n (s + 1) = bestN v n s from by rw [bestN, if_pos hf]; omega)
                clear hf
                go_wp2
                go_roundw
                case rel => exact ⟨s + 1, by omega, by go_num, by rw [e7.out]; congr 1; omega, hB, f0⟩
                case measure => simp [intOf]; omega
          · have e7 := Lib.hid (show bestN v n (s + 1) = bestN v n s from by rw [bestN, if_neg (by simp [hf])])
            clear hf
            by_cases hkn : k < n
            · go_wp2
              go_roundw
              case rel => exact ⟨s + 1, by omega, by go_num, by rw [e7.out], hB, f0⟩
              case measure => simp [intOf]; omega
            · go_wp2
              go_roundw
              case rel => exact ⟨s + 1, by omega, by go_num, by rw [e7.out], hB, f0⟩
              case measure => simp [intOf]; omega
      · obtain rfl : M = s := by omega
        have hge : wrap64 ((2 : Int) ^ n) ≤ (M : Int) := by rw [HSH.out]; omega
        go_wp2
        go_ret
        exact ⟨rfl, hB⟩
  · rw [fewL_no hs]
    have e0 : spansB n v = false := by simpa using hs
    simp only [e0] at hS
    have HS := Lib.hid hS; clear hS hs e0
    go_enter Try.func23, Try.ntmps23
    ((go_wp2_with fail); (with_reducible refine (HS.out _ f0).mono ?_); rintro _ w1 ⟨rfl, hb⟩; replace hB := below_step hB hb; clear hb)
    go_wp2_with fail
    go_ret
    exact ⟨rfl, hB⟩
end Go.Proofs.Ytjkakoflfhjodaa
