/- The contracts of WeightIn, ErrorIn, DepthIn and DifferenceError: for every slice of copies, numbers and world, the program's function and the reference's return the same number (wtV, erV, depV, dfV), and leave old memory alone. A length of at most 2^20 alone is asked. -/
import Derived.Test.YtgmfpdnjeengoaaAbove
namespace Go.Proofs.Ytgmfpdnjeengoaa
open Go.RowKit
set_option linter.unusedSimpArgs false
set_option linter.unusedVariables false
set_option maxHeartbeats 1000000

/-- A call returned a slice that reads as z. -/
def ResF (w : World) (N : Nat) (z : Nat → Int) (e : Ending) (w' : World) : Prop := ∃ A c, e = .returned (.slice A N c) ∧ Fl w' A N 1 z ∧ Below w.heap.size w w'
theorem IntRes.resF {w w' : World} {l : List Int} {e : Ending} (h : IntRes w l e w') : ResF w l.length (fun j => l.getD j 0) e w' := by
  obtain ⟨A, c, rfl, hA, hb⟩ := h
  refine ⟨A, c, rfl, fun hn => ?_, hb⟩
  obtain ⟨g, rfl, hg, ho⟩ := hA hn
  exact ho.fl (Nat.le_refl _) hn

theorem abv_el {n : Nat} {v : Nat → Int} (h : ∀ k, k < n → -1 ≤ v (k * 3) ∧ v (k * 3) < n) : ∀ (f : Nat) (k : Int), k < n → ∀ x ∈ abv v f k, 0 ≤ x ∧ x < n := by
  intro f
  induction f with
  | zero => intro k _ x hx; simp [abv] at hx
  | succ f ih =>
    intro k hk x hx
    simp only [abv] at hx
    split at hx
    · simp at hx
    · rw [List.mem_cons] at hx
      rcases hx with rfl | hx
      · omega
      · have := h k.toNat (by omega)
        exact ih _ (by omega) x hx
def zL (n : Nat) (v : Nat → Int) (k : Int) : Nat → Int := fun j => (abvL n v k).getD j 0
theorem abvL_el (n : Nat) (v : Nat → Int) (k : Int) : ∀ j, j < (abvL n v k).length → 0 ≤ zL n v k j ∧ zL n v k j < n := by
  intro j hj
  unfold zL
  have hm : (abvL n v k).getD j 0 ∈ abvL n v k := by
    rw [List.getD_eq_getElem?_getD, List.getElem?_eq_getElem hj]
    exact List.getElem_mem hj
  revert hm
  generalize (abvL n v k).getD j 0 = x
  intro hm
  unfold abvL at hm
  split at hm
  · rename_i h
    obtain ⟨s1, s2, s3⟩ := chainB_inv h.1
    have hb := inB_iff.1 h.2
    exact abv_el (fun k hk => by have := s3 k hk; omega) 13 k (by omega) x hm
  · simp at hm
theorem abvL_bd (n : Nat) (v : Nat → Int) (k : Int) : (abvL n v k).length ≤ 13 := by
  unfold abvL; split
  · exact abv_len v 13 k
  · simp
theorem abvL_pos {n : Nat} {v : Nat → Int} {k : Int} : 0 < (abvL n v k).length ↔ (chainB n v = true ∧ inB k 0 ((n : Int) - 1) = true) := by
  constructor
  · intro h
    unfold abvL at h
    split at h
    · assumption
    · simp at h
  · intro h
    rw [abvL_in h.1 h.2]
    have := inB_iff.1 h.2
    simp only [abv]
    rw [if_neg (by omega)]
    simp
theorem abvL_valid {n : Nat} {v : Nat → Int} {k : Int} (h : 0 < (abvL n v k).length) : ∀ i, i < n → -1000000 ≤ v (i * 3 + 1) ∧ v (i * 3 + 1) ≤ 1000000 ∧ 0 ≤ v (i * 3 + 2) ∧ v (i * 3 + 2) ≤ 1000 := by
  have := chainB_inv (abvL_pos.1 h).1
  intro i hi
  have := this.2.2 i hi
  omega

/-- Field d of the copies that z names, added up. -/
def fieldT (v z : Nat → Int) (d j : Nat) : Int := v ((z j).toNat * 3 + d)
def wtV (n : Nat) (v : Nat → Int) (k : Int) : Int := sumN (fieldT v (zL n v k) 1) (abvL n v k).length
def erV (n : Nat) (v : Nat → Int) (k : Int) : Int := if (abvL n v k).length = 0 then -1 else sumN (fieldT v (zL n v k) 2) (abvL n v k).length

theorem impl_WeightIn (A : Option Addr) (n c : Nat) (v : Nat → Int) (k : Int) (w : World) (hm : n ≤ 1048576) (f0 : Fl w A n 3 v) : Calls Try.prog 24 #[.slice A n c, .int .i64 k] w fun e w' => e = .returned (.int .i64 (wtV n v k)) ∧ Below w.heap.size w w' := by
  have hB := Below.refl w.heap.size w
  have hI : ∀ w (f0 : Fl w A n 3 v), Calls Try.prog 18 #[.slice A n c, .int .i64 k] w (ResF w (abvL n v k).length (zL n v k)) := fun w f0 => (impl_AboveIn A n c v k w hm f0).mono fun e w' h => h.resF
  have hel := Lib.hid (abvL_el n v k)
  have hbd := abvL_bd n v k
  have hva := Lib.hid (fun h => @abvL_valid n v k h)
  unfold wtV
  revert hI hel hbd hva
  generalize (abvL n v k).length = N
  generalize (zL n v k) = z
  intro hI hel hbd hva
  have HI := Lib.hid hI; clear hI
  go_enter Try.func24, Try.ntmps24
  (go_wp2_with fail); (with_reducible refine (HI.out _ f0).mono ?_); rintro _ w1 ⟨A', c', rfl, f1, hb⟩; replace f0 := f0.below hb; replace hB := below_step hB hb; clear hb
  go_wp2_with fail
  go_loop [5, 12] (fun a x => ∃ j : Nat, j ≤ N ∧ a = .int .i64 (sumN (fieldT v z 1) j) ∧ x = .int .i64 j) (fun _ x => N - (intOf x).toNat)
  case atStart => exact ⟨0, Nat.zero_le _, rfl, rfl⟩
  case round =>
    obtain ⟨j, hj, rfl, rfl⟩ := hrel
    by_cases hjN : j < N
    · obtain ⟨b1, o1, rfl, hc1⟩ := f1 (by omega)
      have q := hel.out j hjN
      obtain ⟨I, hI⟩ : ∃ I : Nat, z j = I := ⟨(z j).toNat, by omega⟩
      obtain ⟨b, off, rfl, hc⟩ := f0 (by omega)
      have c0 : w1.cell? ⟨b1, o1 + j, none⟩ = _ := hc1 j (by omega)
      have c1 : w1.cell? ⟨b, off + I * 3 + 1, none⟩ = _ := hc (I * 3 + 1) (by omega)
      have q1 := hva.out (by omega) I (by omega)
      have q2 := sumN_bd (f := fieldT v z 1) (n := j) (a := -1000000) (b := 1000000) fun i hi => by
        have := hel.out i (by omega)
        exact ⟨(hva.out (by omega) (z i).toNat (by omega)).1, (hva.out (by omega) (z i).toNat (by omega)).2.1⟩
      have e1 := Lib.hid (show sumN (fieldT v z 1) (j + 1) = sumN (fieldT v z 1) j + v (I * 3 + 1) from by simp only [sumN, fieldT, hI]; rfl)
      have q9 : I < n := by omega
      rw [hI] at c0
      clear hc hc1 f0 f1 hI
      go_wp2
      go_round
      case rel => exact ⟨j + 1, by omega, by rw [e1.out], by go_num⟩
      case measure => simp [intOf]; omega
    · obtain rfl : j = N := by omega
      go_wp2
      go_ret
      exact ⟨rfl, hB⟩
theorem spec_WeightIn (A : Option Addr) (n c : Nat) (v : Nat → Int) (k : Int) (w : World) (hm : n ≤ 1048576) (f0 : Fl w A n 3 v) : Calls Try.prog 23 #[.slice A n c, .int .i64 k] w fun e w' => e = .returned (.int .i64 (wtV n v k)) ∧ Below w.heap.size w w' := by
  have hB := Below.refl w.heap.size w
  have hI : ∀ w (f0 : Fl w A n 3 v), Calls Try.prog 17 #[.slice A n c, .int .i64 k] w (ResF w (abvL n v k).length (zL n v k)) := fun w f0 => (spec_AboveIn A n c v k w hm f0).mono fun e w' h => h.resF
  have hel := Lib.hid (abvL_el n v k)
  have hbd := abvL_bd n v k
  have hva := Lib.hid (fun h => @abvL_valid n v k h)
  unfold wtV
  revert hI hel hbd hva
  generalize (abvL n v k).length = N
  generalize (zL n v k) = z
  intro hI hel hbd hva
  have HI := Lib.hid hI; clear hI
  go_enter Try.func23, Try.ntmps23
  (go_wp2_with fail); (with_reducible refine (HI.out _ f0).mono ?_); rintro _ w1 ⟨A', c', rfl, f1, hb⟩; replace f0 := f0.below hb; replace hB := below_step hB hb; clear hb
  go_wp2_with fail
  go_loop [5, 7] (fun a x => ∃ j : Nat, j ≤ N ∧ a = .int .i64 (sumN (fieldT v z 1) j) ∧ x = .int .i64 j) (fun _ x => N - (intOf x).toNat)
  case atStart => exact ⟨0, Nat.zero_le _, rfl, rfl⟩
  case round =>
    obtain ⟨j, hj, rfl, rfl⟩ := hrel
    by_cases hjN : j < N
    · obtain ⟨b1, o1, rfl, hc1⟩ := f1 (by omega)
      have q := hel.out j hjN
      obtain ⟨I, hI⟩ : ∃ I : Nat, z j = I := ⟨(z j).toNat, by omega⟩
      obtain ⟨b, off, rfl, hc⟩ := f0 (by omega)
      have c0 : w1.cell? ⟨b1, o1 + j, none⟩ = _ := hc1 j (by omega)
      have c1 : w1.cell? ⟨b, off + I * 3 + 1, none⟩ = _ := hc (I * 3 + 1) (by omega)
      have q1 := hva.out (by omega) I (by omega)
      have q2 := sumN_bd (f := fieldT v z 1) (n := j) (a := -1000000) (b := 1000000) fun i hi => by
        have := hel.out i (by omega)
        exact ⟨(hva.out (by omega) (z i).toNat (by omega)).1, (hva.out (by omega) (z i).toNat (by omega)).2.1⟩
      have e1 := Lib.hid (show sumN (fieldT v z 1) (j + 1) = sumN (fieldT v z 1) j + v (I * 3 + 1) from by simp only [sumN, fieldT, hI]; rfl)
      have q9 : I < n := by omega
      rw [hI] at c0
      clear hc hc1 f0 f1 hI
      go_wp2
      go_round
      case rel => exact ⟨j + 1, by omega, by rw [e1.out], by go_num⟩
      case measure => simp [intOf]; omega
    · obtain rfl : j = N := by omega
      go_wp2
      go_ret
      exact ⟨rfl, hB⟩
theorem spec_ErrorIn (A : Option Addr) (n c : Nat) (v : Nat → Int) (k : Int) (w : World) (hm : n ≤ 1048576) (f0 : Fl w A n 3 v) : Calls Try.prog 25 #[.slice A n c, .int .i64 k] w fun e w' => e = .returned (.int .i64 (erV n v k)) ∧ Below w.heap.size w w' := by
  have hB := Below.refl w.heap.size w
  have hI : ∀ w (f0 : Fl w A n 3 v), Calls Try.prog 17 #[.slice A n c, .int .i64 k] w (ResF w (abvL n v k).length (zL n v k)) := fun w f0 => (spec_AboveIn A n c v k w hm f0).mono fun e w' h => h.resF
  have hel := Lib.hid (abvL_el n v k)
  have hbd := abvL_bd n v k
  have hva := Lib.hid (fun h => @abvL_valid n v k h)
  unfold erV
  revert hI hel hbd hva
  generalize (abvL n v k).length = N
  generalize (zL n v k) = z
  intro hI hel hbd hva
  have HI := Lib.hid hI; clear hI
  go_enter Try.func25, Try.ntmps25
  (go_wp2_with fail); (with_reducible refine (HI.out _ f0).mono ?_); rintro _ w1 ⟨A', c', rfl, f1, hb⟩; replace f0 := f0.below hb; replace hB := below_step hB hb; clear hb
  go_wp2_with fail
  go_loop [6, 7] (fun a x => ∃ j : Nat, j ≤ N ∧ a = .int .i64 (sumN (fieldT v z 2) j) ∧ x = .int .i64 j) (fun _ x => N - (intOf x).toNat)
  case atStart => exact ⟨0, Nat.zero_le _, rfl, rfl⟩
  case round =>
    obtain ⟨j, hj, rfl, rfl⟩ := hrel
    by_cases hjN : j < N
    · obtain ⟨b1, o1, rfl, hc1⟩ := f1 (by omega)
      have q := hel.out j hjN
      obtain ⟨I, hI⟩ : ∃ I : Nat, z j = I := ⟨(z j).toNat, by omega⟩
      obtain ⟨b, off, rfl, hc⟩ := f0 (by omega)
      have c0 : w1.cell? ⟨b1, o1 + j, none⟩ = _ := hc1 j (by omega)
      have c1 : w1.cell? ⟨b, off + I * 3 + 2, none⟩ = _ := hc (I * 3 + 2) (by omega)
      have q1 := hva.out (by omega) I (by omega)
      have q2 := sumN_bd (f := fieldT v z 2) (n := j) (a := 0) (b := 1000) fun i hi => by
        have := hel.out i (by omega)
        exact (hva.out (by omega) (z i).toNat (by omega)).2.2
      have e1 := Lib.hid (show sumN (fieldT v z 2) (j + 1) = sumN (fieldT v z 2) j + v (I * 3 + 2) from by simp only [sumN, fieldT, hI]; rfl)
      have q9 : I < n := by omega
      rw [hI] at c0
      clear hc hc1 f0 f1 hI
      go_wp2
      go_round
      case rel => exact ⟨j + 1, by omega, by rw [e1.out], by go_num⟩
      case measure => simp [intOf]; omega
    · obtain rfl : j = N := by omega
      rcases Nat.eq_zero_or_pos j with h0 | h0
      · subst h0
        go_wp2
        go_ret
        exact ⟨rfl, hB⟩
      · have t0 : ((j : Int) == 0) = false := by simp; omega
        go_wp2
        go_ret
        exact ⟨ret_int (by first | rfl | rw [if_neg (by omega)]), hB⟩
theorem impl_ErrorIn (A : Option Addr) (n c : Nat) (v : Nat → Int) (k : Int) (w : World) (hm : n ≤ 1048576) (f0 : Fl w A n 3 v) : Calls Try.prog 26 #[.slice A n c, .int .i64 k] w fun e w' => e = .returned (.int .i64 (erV n v k)) ∧ Below w.heap.size w w' := by
  have hB := Below.refl w.heap.size w
  by_cases h : chainB n v = true ∧ inB k 0 ((n : Int) - 1) = true
  · have hp := abvL_pos.2 h
    have hq := inB_iff.1 h.2
    have e0 : (chainB n v && inB k 0 ((n : Int) - 1)) = true := by simp [h.1, h.2]
    have hC : ∀ w, _ := fun w => impl_isCopy A n c v k w hm
    simp only [e0] at hC
    have HC := Lib.hid hC; clear hC e0
    have hI : ∀ w (f0 : Fl w A n 3 v), Calls Try.prog 47 #[.slice A n c, .int .i64 k] w (ResF w (abvL n v k).length (zL n v k)) := fun w f0 => (impl_above A n c v k w h.1 (by omega) f0).mono fun e w' hh => by
      rw [← abvL_in h.1 h.2] at hh
      exact hh.resF
    have hel := Lib.hid (abvL_el n v k)
    have hbd := abvL_bd n v k
    have hva := Lib.hid (fun h => @abvL_valid n v k h)
    unfold erV
    revert hI hel hbd hva hp
    generalize (abvL n v k).length = N
    generalize (zL n v k) = z
    intro hp hI hel hbd hva
    have HI := Lib.hid hI; clear hI
    have HH := Lib.hid h; clear h
    go_enter Try.func26, Try.ntmps26
    ((go_wp2_with fail); (with_reducible refine (HC.out _ f0).mono ?_); rintro _ w1 ⟨rfl, hb⟩; replace f0 := Fl.below f0 hb; replace hB := below_step hB hb; clear hb)
    (go_wp2_with fail); (with_reducible refine (HI.out _ f0).mono ?_); rintro _ w1 ⟨A', c', rfl, f1, hb⟩; replace f0 := f0.below hb; replace hB := below_step hB hb; clear hb
    go_wp2_with fail
    go_loop [5, 16] (fun a x => ∃ j : Nat, j ≤ N ∧ a = .int .i64 (sumN (fieldT v z 2) j) ∧ x = .int .i64 j) (fun _ x => N - (intOf x).toNat)
    case atStart => exact ⟨0, Nat.zero_le _, rfl, rfl⟩
    case round =>
      obtain ⟨j, hj, rfl, rfl⟩ := hrel
      by_cases hjN : j < N
      · obtain ⟨b1, o1, rfl, hc1⟩ := f1 (by omega)
        have q := hel.out j hjN
        obtain ⟨I, hI⟩ : ∃ I : Nat, z j = I := ⟨(z j).toNat, by omega⟩
        obtain ⟨b, off, rfl, hc⟩ := f0 (by omega)
        have c0 : w1.cell? ⟨b1, o1 + j, none⟩ = _ := hc1 j (by omega)
        have c1 : w1.cell? ⟨b, off + I * 3 + 2, none⟩ = _ := hc (I * 3 + 2) (by omega)
        have q1 := hva.out (by omega) I (by omega)
        have q2 := sumN_bd (f := fieldT v z 2) (n := j) (a := 0) (b := 1000) fun i hi => by
          have := hel.out i (by omega)
          exact (hva.out (by omega) (z i).toNat (by omega)).2.2
        have e1 := Lib.hid (show sumN (fieldT v z 2) (j + 1) = sumN (fieldT v z 2) j + v (I * 3 + 2) from by simp only [sumN, fieldT, hI]; rfl)
        have q9 : I < n := by omega
        rw [hI] at c0
        clear hc hc1 f0 f1 hI
        go_wp2
        go_round
        case rel => exact ⟨j + 1, by omega, by rw [e1.out], by go_num⟩
        case measure => simp [intOf]; omega
      · obtain rfl : j = N := by omega
        go_wp2
        go_ret
        exact ⟨ret_int (by first | rfl | rw [if_neg (by omega)]), hB⟩
  · have e0 : (chainB n v && inB k 0 ((n : Int) - 1)) = false := by
      cases hc : chainB n v && inB k 0 ((n : Int) - 1) with
      | false => rfl
      | true => exact absurd (by simpa using hc) h
    have hC : ∀ w, _ := fun w => impl_isCopy A n c v k w hm
    simp only [e0] at hC
    have HC := Lib.hid hC; clear hC e0
    have e1 : erV n v k = -1 := by unfold erV; rw [if_pos (by rw [abvL_out h]; rfl)]
    rw [e1]
    clear h e1
    go_enter Try.func26, Try.ntmps26
    ((go_wp2_with fail); (with_reducible refine (HC.out _ f0).mono ?_); rintro _ w1 ⟨rfl, hb⟩; replace hB := below_step hB hb; clear hb)
    go_wp2_with fail
    go_ret
    exact ⟨rfl, hB⟩


/-- The greatest length of the ways up from the first k copies. -/
def depN (n : Nat) (v : Nat → Int) : Nat → Nat
  | 0 => 0
  | k + 1 => max (depN n v k) (abvL n v k).length
theorem depN_bd (n : Nat) (v : Nat → Int) (k : Nat) : depN n v k ≤ 13 := by
  induction k with
  | zero => simp [depN]
  | succ k ih => have := abvL_bd n v k; simp only [depN]; omega

theorem impl_DepthIn (A : Option Addr) (n c : Nat) (v : Nat → Int) (w : World) (hm : n ≤ 1048576) (f0 : Fl w A n 3 v) : Calls Try.prog 30 #[.slice A n c] w fun e w' => e = .returned (.int .i64 (depN n v n : Nat)) ∧ Below w.heap.size w w' := by
  go_enter Try.func30, Try.ntmps30
  go_wp2_with fail
  go_loopw [3, 7] (fun a x wr => ∃ k : Nat, k ≤ n ∧ a = .int .i64 (depN n v k : Nat) ∧ x = .int .i64 k ∧ Below w.heap.size w wr) (fun _ x _ => n - (intOf x).toNat)
  case atStart => exact ⟨0, Nat.zero_le _, rfl, rfl, Below.refl _ _⟩
  case round =>
    obtain ⟨k, hk, rfl, rfl, hB⟩ := hrel
    by_cases hkn : k < n
    · have q := depN_bd n v k
      have q2 := abvL_bd n v k
      by_cases t : (depN n v k : Int) < ((abvL n v k).length : Int)
      · have e1 := Lib.hid (show depN n v (k + 1) = (abvL n v k).length from by simp only [depN]; omega)
        (go_wp2_with fail); (with_reducible refine (impl_AboveIn A n c v k _ hm (f0.below hB)).mono ?_); rintro _ w1 ⟨A', c', rfl, _, hb⟩; replace hB := below_step hB hb; clear hb
        go_wp2
        go_roundw
        case rel => exact ⟨k + 1, by omega, by rw [e1.out], by go_num, hB⟩
        case measure => simp [intOf]; omega
      · have e1 := Lib.hid (show depN n v (k + 1) = depN n v k from by simp only [depN]; omega)
        (go_wp2_with fail); (with_reducible refine (impl_AboveIn A n c v k _ hm (f0.below hB)).mono ?_); rintro _ w1 ⟨A', c', rfl, _, hb⟩; replace hB := below_step hB hb; clear hb
        go_wp2
        go_roundw
        case rel => exact ⟨k + 1, by omega, by rw [e1.out], by go_num, hB⟩
        case measure => simp [intOf]; omega
    · obtain rfl : k = n := by omega
      go_wp2
      go_ret
      exact ⟨rfl, hB⟩

theorem spec_DepthIn (A : Option Addr) (n c : Nat) (v : Nat → Int) (w : World) (hm : n ≤ 1048576) (f0 : Fl w A n 3 v) : Calls Try.prog 29 #[.slice A n c] w fun e w' => e = .returned (.int .i64 (depN n v n : Nat)) ∧ Below w.heap.size w w' := by
  go_enter Try.func29, Try.ntmps29
  go_wp2_with fail
  go_loopw [3, 4] (fun a x wr => ∃ k : Nat, k ≤ n ∧ a = .int .i64 (depN n v k : Nat) ∧ x = .int .i64 k ∧ Below w.heap.size w wr) (fun _ x _ => n - (intOf x).toNat)
  case atStart => exact ⟨0, Nat.zero_le _, rfl, rfl, Below.refl _ _⟩
  case round =>
    obtain ⟨k, hk, rfl, rfl, hB⟩ := hrel
    by_cases hkn : k < n
    · have q := depN_bd n v k
      have q2 := abvL_bd n v k
      by_cases t : (depN n v k : Int) < ((abvL n v k).length : Int)
      · have e1 := Lib.hid (show depN n v (k + 1) = (abvL n v k).length from by simp only [depN]; omega)
        (go_wp2_with fail); (with_reducible refine (spec_AboveIn A n c v k _ hm (f0.below hB)).mono ?_); rintro _ w1 ⟨A', c', rfl, _, hb⟩; replace hB := below_step hB hb; clear hb
        go_wp2
        go_roundw
        case rel => exact ⟨k + 1, by omega, by rw [e1.out], by go_num, hB⟩
        case measure => simp [intOf]; omega
      · have e1 := Lib.hid (show depN n v (k + 1) = depN n v k from by simp only [depN]; omega)
        (go_wp2_with fail); (with_reducible refine (spec_AboveIn A n c v k _ hm (f0.below hB)).mono ?_); rintro _ w1 ⟨A', c', rfl, _, hb⟩; replace hB := below_step hB hb; clear hb
        go_wp2
        go_roundw
        case rel => exact ⟨k + 1, by omega, by rw [e1.out], by go_num, hB⟩
        case measure => simp [intOf]; omega
    · obtain rfl : k = n := by omega
      go_wp2
      go_ret
      exact ⟨rfl, hB⟩

/-- Does x stand among the first N of z? -/
def hasN (z : Nat → Int) (x : Int) : Nat → Bool
  | 0 => false
  | j + 1 => hasN z x j || decide (z j = x)
theorem hasN_yes {z : Nat → Int} {x : Int} {j N : Nat} (hj : j < N) (h : z j = x) : hasN z x N = true := by
  induction N with
  | zero => omega
  | succ N ih =>
    rcases Nat.lt_or_ge j N with h1 | h1
    · simp [hasN, ih h1]
    · obtain rfl : j = N := by omega
      simp [hasN, h]
theorem impl_hasInt (A : Option Addr) (N c : Nat) (z : Nat → Int) (x : Int) (w : World) (hm : N ≤ 1048576) (f0 : Fl w A N 1 z) : Calls Try.prog 49 #[.slice A N c, .int .i64 x] w fun e w' => e = .returned (.bool (hasN z x N)) ∧ w = w' := by
  go_enter Try.func49, Try.ntmps49
  go_wp2_with fail
  go_loop [9] (fun a => ∃ j : Nat, j ≤ N ∧ a = .int .i64 j ∧ hasN z x j = false) (fun a => N - (intOf a).toNat)
  case atStart => exact ⟨0, Nat.zero_le _, rfl, rfl⟩
  case round =>
    obtain ⟨j, hj, rfl, hs⟩ := hrel
    by_cases hjN : j < N
    · obtain ⟨b, off, rfl, hc⟩ := f0 (by omega)
      have c0 : w.cell? ⟨b, off + j, none⟩ = _ := hc j (by omega)
      clear hc f0
      by_cases t : z j = x
      · have t1 : (z j == x) = true := by simp [t]
        have e1 := Lib.hid (hasN_yes hjN t)
        clear t
        go_wp2
        go_ret
        exact ⟨ret_bool e1.out.symm, rfl⟩
      · have t1 : (z j == x) = false := by simp [t]
        have e1 := Lib.hid (show hasN z x (j + 1) = false from by simp [hasN, hs, t])
        go_wp2
        go_round
        case rel => exact ⟨j + 1, by omega, by go_num, e1.out⟩
        case measure => simp [intOf]; omega
    · obtain rfl : j = N := by omega
      go_wp2
      go_ret
      exact ⟨ret_bool (by first | rfl | exact hs.symm), rfl⟩
theorem spec_l31Has (A : Option Addr) (N c : Nat) (z : Nat → Int) (x : Int) (w : World) (hm : N ≤ 1048576) (f0 : Fl w A N 1 z) : Calls Try.prog 48 #[.slice A N c, .int .i64 x] w fun e w' => e = .returned (.bool (hasN z x N)) ∧ w = w' := by
  go_enter Try.func48, Try.ntmps48
  go_wp2_with fail
  go_loop [5] (fun a => ∃ j : Nat, j ≤ N ∧ a = .int .i64 j ∧ hasN z x j = false) (fun a => N - (intOf a).toNat)
  case atStart => exact ⟨0, Nat.zero_le _, rfl, rfl⟩
  case round =>
    obtain ⟨j, hj, rfl, hs⟩ := hrel
    by_cases hjN : j < N
    · obtain ⟨b, off, rfl, hc⟩ := f0 (by omega)
      have c0 : w.cell? ⟨b, off + j, none⟩ = _ := hc j (by omega)
      clear hc f0
      by_cases t : z j = x
      · have t1 : (z j == x) = true := by simp [t]
        have e1 := Lib.hid (hasN_yes hjN t)
        clear t
        go_wp2
        go_ret
        exact ⟨ret_bool e1.out.symm, rfl⟩
      · have t1 : (z j == x) = false := by simp [t]
        have e1 := Lib.hid (show hasN z x (j + 1) = false from by simp [hasN, hs, t])
        go_wp2
        go_round
        case rel => exact ⟨j + 1, by omega, by go_num, e1.out⟩
        case measure => simp [intOf]; omega
    · obtain rfl : j = N := by omega
      go_wp2
      go_ret
      exact ⟨ret_bool (by first | rfl | exact hs.symm), rfl⟩

/-- The error of copy i, if it stands on just one of two ways up. -/
def dfT (v x y : Nat → Int) (N M i : Nat) : Int := if hasN x i N = hasN y i M then 0 else v (i * 3 + 2)
def dfV (n : Nat) (v : Nat → Int) (a b : Int) : Int := if (abvL n v a).length = 0 ∨ (abvL n v b).length = 0 then -1 else sumN (dfT v (zL n v a) (zL n v b) (abvL n v a).length (abvL n v b).length) n
theorem dfS_bd {v x y : Nat → Int} {N M n i : Nat} (h : ∀ i, i < n → 0 ≤ v (i * 3 + 2) ∧ v (i * 3 + 2) ≤ 1000) (hi : i ≤ n) : 0 ≤ sumN (dfT v x y N M) i ∧ sumN (dfT v x y N M) i ≤ 1000 * i := by
  have := sumN_bd (f := dfT v x y N M) (n := i) (a := 0) (b := 1000) fun k hk => by
    have := h k (by omega)
    unfold dfT
    split <;> omega
  omega
theorem bool_ne {a b : Bool} (h : ¬ a = b) : (a == b) = false := by simp [h]
theorem bool_eq {a b : Bool} (h : a = b) : (a == b) = true := by simp [h]

theorem impl_DiffError (A : Option Addr) (n c : Nat) (v : Nat → Int) (a b : Int) (w : World) (hm : n ≤ 1048576) (f0 : Fl w A n 3 v) : Calls Try.prog 28 #[.slice A n c, .int .i64 a, .int .i64 b] w fun e w' => e = .returned (.int .i64 (dfV n v a b)) ∧ Below w.heap.size w w' := by
  have hB := Below.refl w.heap.size w
  by_cases h1 : chainB n v = true ∧ inB a 0 ((n : Int) - 1) = true
  · have e0 : (chainB n v && inB a 0 ((n : Int) - 1)) = true := by simp [h1.1, h1.2]
    by_cases h2 : inB b 0 ((n : Int) - 1) = true
    · have e2 : (chainB n v && inB b 0 ((n : Int) - 1)) = true := by simp [h1.1, h2]
      have p1 := abvL_pos.2 h1
      have p2 := abvL_pos.2 ⟨h1.1, h2⟩
      have ba := inB_iff.1 h1.2
      have bb := inB_iff.1 h2
      have hI : ∀ w (f0 : Fl w A n 3 v), Calls Try.prog 47 #[.slice A n c, .int .i64 a] w (ResF w (abvL n v a).length (zL n v a)) := fun w f0 => (impl_above A n c v a w h1.1 (by omega) f0).mono fun e w' hh => by
        rw [← abvL_in h1.1 h1.2] at hh
        exact hh.resF
      have hJ : ∀ w (f0 : Fl w A n 3 v), Calls Try.prog 47 #[.slice A n c, .int .i64 b] w (ResF w (abvL n v b).length (zL n v b)) := fun w f0 => (impl_above A n c v b w h1.1 (by omega) f0).mono fun e w' hh => by
        rw [← abvL_in h1.1 h2] at hh
        exact hh.resF
      have hva := Lib.hid (fun i (hi : i < n) => (abvL_valid p1 i hi).2.2)
      have q1 := abvL_bd n v a
      have q2 := abvL_bd n v b
      have hC : ∀ w, _ := fun w => impl_isCopy A n c v a w hm
      have hD : ∀ w, _ := fun w => impl_isCopy A n c v b w hm
      simp only [e0] at hC
      simp only [e2] at hD
      unfold dfV
      revert p1 p2 hI hJ q1 q2
      generalize (abvL n v a).length = N
      generalize (zL n v a) = x
      generalize (abvL n v b).length = M
      generalize (zL n v b) = y
      intro p1 p2 hI hJ q1 q2
      have HC := Lib.hid hC; clear hC e0
      have HD := Lib.hid hD; clear hD e2
      have HI := Lib.hid hI; clear hI
      have HJ := Lib.hid hJ; clear hJ
      obtain ⟨_, n12, _⟩ := chainB_inv h1.1
      clear h1 h2
      rw [if_neg (by omega)]
      go_enter Try.func28, Try.ntmps28
      ((go_wp2_with fail); (with_reducible refine (HC.out _ f0).mono ?_); rintro _ w1 ⟨rfl, hb⟩; replace f0 := Fl.below f0 hb; replace hB := below_step hB hb; clear hb)
      ((go_wp2_with fail); (with_reducible refine (HD.out _ f0).mono ?_); rintro _ w1 ⟨rfl, hb⟩; replace f0 := Fl.below f0 hb; replace hB := below_step hB hb; clear hb)
      (go_wp2_with fail); (with_reducible refine (HI.out _ f0).mono ?_); rintro _ w1 ⟨A', c', rfl, f1, hb⟩; replace f0 := f0.below hb; replace hB := below_step hB hb; clear hb
      (go_wp2_with fail); (with_reducible refine (HJ.out _ f0).mono ?_); rintro _ w2 ⟨A'', c'', rfl, f2, hb⟩; replace f0 := f0.below hb; replace f1 := f1.below hb; replace hB := below_step hB hb; clear hb
      go_wp2_with fail
      go_loopw [9, 30] (fun s t wr => ∃ i : Nat, i ≤ n ∧ s = .int .i64 (sumN (dfT v x y N M) i) ∧ t = .int .i64 i ∧ Below w.heap.size w wr ∧ Below w2.heap.size w2 wr) (fun _ t _ => n - (intOf t).toNat)
      case atStart => exact ⟨0, Nat.zero_le _, rfl, rfl, hB, Below.refl _ _⟩
      case round =>
        clear hB
        obtain ⟨i, hi, rfl, rfl, hB, hb⟩ := hrel
        by_cases hin : i < n
        · have F1 := (f1.below hb).below (below_alloc (Below.refl wr.heap.size wr) (.cells #[.int .i64 (v (i * 3)), .int .i64 (v (i * 3 + 1)), .int .i64 (v (i * 3 + 2))] 44))
          have F2 := (f2.below hb).below (below_alloc (Below.refl wr.heap.size wr) (.cells #[.int .i64 (v (i * 3)), .int .i64 (v (i * 3 + 1)), .int .i64 (v (i * 3 + 2))] 44))
          obtain ⟨b0, off, rfl, hc⟩ := (f0.below hb) (by omega)
          have c0 : wr.cell? ⟨b0, off + i * 3, none⟩ = _ := hc (i * 3) (by omega)
          have c1 : wr.cell? ⟨b0, off + i * 3 + 1, none⟩ = _ := hc (i * 3 + 1) (by omega)
          have c2 : wr.cell? ⟨b0, off + i * 3 + 2, none⟩ = _ := hc (i * 3 + 2) (by omega)
          have s1 := hva.out i hin
          have s2 := dfS_bd (x := x) (y := y) (N := N) (M := M) hva.out hi
          clear hc f0 f1 f2
          by_cases t : hasN x i N = hasN y i M
          · have t1 := bool_eq t
            have e1 := Lib.hid (show sumN (dfT v x y N M) (i + 1) = sumN (dfT v x y N M) i from by simp only [sumN, dfT, t]; simp)
            clear t
            go_wp2_with (first | (go_at_call 49; (with_reducible refine (impl_hasInt A' N c' x i _ (by omega) F1).mono ?_); rintro _ _ ⟨rfl, rfl⟩) | (go_at_call 49; (with_reducible refine (impl_hasInt A'' M c'' y i _ (by omega) F2).mono ?_); rintro _ _ ⟨rfl, rfl⟩))
            go_roundw
            case rel => exact ⟨i + 1, by omega, by rw [e1.out], by go_num, below_alloc hB _, below_alloc hb _⟩
            case measure => simp [intOf]; omega
          · have t1 := bool_ne t
            have e1 := Lib.hid (show sumN (dfT v x y N M) (i + 1) = sumN (dfT v x y N M) i + v (i * 3 + 2) from by simp only [sumN, dfT]; rw [if_neg t])
            clear t
            go_wp2_with (first | (go_at_call 49; (with_reducible refine (impl_hasInt A' N c' x i _ (by omega) F1).mono ?_); rintro _ _ ⟨rfl, rfl⟩) | (go_at_call 49; (with_reducible refine (impl_hasInt A'' M c'' y i _ (by omega) F2).mono ?_); rintro _ _ ⟨rfl, rfl⟩))
            go_roundw
            case rel => exact ⟨i + 1, by omega, by rw [e1.out], by go_num, below_alloc hB _, below_alloc hb _⟩
            case measure => simp [intOf]; omega
        · obtain rfl : i = n := by omega
          go_wp2
          go_ret
          exact ⟨rfl, hB⟩
    · have e2 : (chainB n v && inB b 0 ((n : Int) - 1)) = false := by simp [h2]
      have hC : ∀ w, _ := fun w => impl_isCopy A n c v a w hm
      have hD : ∀ w, _ := fun w => impl_isCopy A n c v b w hm
      simp only [e0] at hC
      simp only [e2] at hD
      have e3 : dfV n v a b = -1 := by unfold dfV; rw [if_pos (Or.inr (by rw [abvL_out (fun h => h2 h.2)]; rfl))]
      rw [e3]
      have HC := Lib.hid hC; clear hC e0
      have HD := Lib.hid hD; clear hD e2 h1 h2 e3
      go_enter Try.func28, Try.ntmps28
      ((go_wp2_with fail); (with_reducible refine (HC.out _ f0).mono ?_); rintro _ w1 ⟨rfl, hb⟩; replace f0 := Fl.below f0 hb; replace hB := below_step hB hb; clear hb)
      ((go_wp2_with fail); (with_reducible refine (HD.out _ f0).mono ?_); rintro _ w1 ⟨rfl, hb⟩; replace f0 := Fl.below f0 hb; replace hB := below_step hB hb; clear hb)
      go_wp2_with fail
      go_ret
      exact ⟨rfl, hB⟩
  · have e0 : (chainB n v && inB a 0 ((n : Int) - 1)) = false := by
      cases hc : chainB n v && inB a 0 ((n : Int) - 1) with
      | false => rfl
      | true => exact absurd (by simpa using hc) h1
    have hC : ∀ w, _ := fun w => impl_isCopy A n c v a w hm
    simp only [e0] at hC
    have e3 : dfV n v a b = -1 := by unfold dfV; rw [if_pos (Or.inl (by rw [abvL_out h1]; rfl))]
    rw [e3]
    have HC := Lib.hid hC; clear hC e0 h1 e3
    go_enter Try.func28, Try.ntmps28
    ((go_wp2_with fail); (with_reducible refine (HC.out _ f0).mono ?_); rintro _ w1 ⟨rfl, hb⟩; replace f0 := Fl.below f0 hb; replace hB := below_step hB hb; clear hb)
    go_wp2_with fail
    go_ret
    exact ⟨rfl, hB⟩

theorem spec_DiffError (A : Option Addr) (n c : Nat) (v : Nat → Int) (a b : Int) (w : World) (hm : n ≤ 1048576) (f0 : Fl w A n 3 v) : Calls Try.prog 27 #[.slice A n c, .int .i64 a, .int .i64 b] w fun e w' => e = .returned (.int .i64 (dfV n v a b)) ∧ Below w.heap.size w w' := by
  have hB := Below.refl w.heap.size w
  have hI : ∀ w (f0 : Fl w A n 3 v), Calls Try.prog 17 #[.slice A n c, .int .i64 a] w (ResF w (abvL n v a).length (zL n v a)) := fun w f0 => (spec_AboveIn A n c v a w hm f0).mono fun e w' hh => hh.resF
  have hJ : ∀ w (f0 : Fl w A n 3 v), Calls Try.prog 17 #[.slice A n c, .int .i64 b] w (ResF w (abvL n v b).length (zL n v b)) := fun w f0 => (spec_AboveIn A n c v b w hm f0).mono fun e w' hh => hh.resF
  have hva := Lib.hid (fun (h : 0 < (abvL n v a).length) i (hi : i < n) => (abvL_valid h i hi).2.2)
  have q3 := Lib.hid (fun (h : 0 < (abvL n v a).length) => (chainB_inv (abvL_pos.1 h).1).2.1)
  have q1 := abvL_bd n v a
  have q2 := abvL_bd n v b
  unfold dfV
  revert hI hJ hva q1 q2 q3
  generalize (abvL n v a).length = N
  generalize (zL n v a) = x
  generalize (abvL n v b).length = M
  generalize (zL n v b) = y
  intro hI hJ hva q3 q1 q2
  have HI := Lib.hid hI; clear hI
  have HJ := Lib.hid hJ; clear hJ
  by_cases hN : N = 0
  · subst hN
    rw [if_pos (Or.inl rfl)]
    go_enter Try.func27, Try.ntmps27
    (go_wp2_with fail); (with_reducible refine (HI.out _ f0).mono ?_); rintro _ w1 ⟨A', c', rfl, f1, hb⟩; replace f0 := f0.below hb; replace hB := below_step hB hb; clear hb
    (go_wp2_with fail); (with_reducible refine (HJ.out _ f0).mono ?_); rintro _ w2 ⟨A'', c'', rfl, f2, hb⟩; replace hB := below_step hB hb; clear hb
    go_wp2_with fail
    go_ret
    exact ⟨rfl, hB⟩
  · have n0 : ((N : Int) == 0) = false := by simp; omega
    by_cases hM : M = 0
    · subst hM
      rw [if_pos (Or.inr rfl)]
      go_enter Try.func27, Try.ntmps27
      (go_wp2_with fail); (with_reducible refine (HI.out _ f0).mono ?_); rintro _ w1 ⟨A', c', rfl, f1, hb⟩; replace f0 := f0.below hb; replace hB := below_step hB hb; clear hb
      (go_wp2_with fail); (with_reducible refine (HJ.out _ f0).mono ?_); rintro _ w2 ⟨A'', c'', rfl, f2, hb⟩; replace hB := below_step hB hb; clear hb
      go_wp2_with fail
      go_ret
      exact ⟨rfl, hB⟩
    · have m0 : ((M : Int) == 0) = false := by simp; omega
      have n12 := q3.out (by omega)
      have hv2 := Lib.hid (hva.out (by omega))
      clear hva q3
      rw [if_neg (by omega)]
      go_enter Try.func27, Try.ntmps27
      (go_wp2_with fail); (with_reducible refine (HI.out _ f0).mono ?_); rintro _ w1 ⟨A', c', rfl, f1, hb⟩; replace f0 := f0.below hb; replace hB := below_step hB hb; clear hb
      (go_wp2_with fail); (with_reducible refine (HJ.out _ f0).mono ?_); rintro _ w2 ⟨A'', c'', rfl, f2, hb⟩; replace f0 := f0.below hb; replace f1 := f1.below hb; replace hB := below_step hB hb; clear hb
      go_wp2_with fail
      go_loop [9, 10] (fun s t => ∃ i : Nat, i ≤ n ∧ s = .int .i64 (sumN (dfT v x y N M) i) ∧ t = .int .i64 i) (fun _ t => n - (intOf t).toNat)
      case atStart => exact ⟨0, Nat.zero_le _, rfl, rfl⟩
      case round =>
        obtain ⟨i, hi, rfl, rfl⟩ := hrel
        by_cases hin : i < n
        · obtain ⟨b0, off, rfl, hc⟩ := f0 (by omega)
          have c2 : w2.cell? ⟨b0, off + i * 3 + 2, none⟩ = _ := hc (i * 3 + 2) (by omega)
          have s1 := hv2.out i hin
          have s2 := dfS_bd (x := x) (y := y) (N := N) (M := M) hv2.out hi
          clear hc f0
          by_cases t : hasN x i N = hasN y i M
          · have t1 := bool_eq t
            have e1 := Lib.hid (show sumN (dfT v x y N M) (i + 1) = sumN (dfT v x y N M) i from by simp only [sumN, dfT, t]; simp)
            clear t
            go_wp2_with (first | (go_at_call 48; (with_reducible refine (spec_l31Has A' N c' x i _ (by omega) f1).mono ?_); rintro _ _ ⟨rfl, rfl⟩) | (go_at_call 48; (with_reducible refine (spec_l31Has A'' M c'' y i _ (by omega) f2).mono ?_); rintro _ _ ⟨rfl, rfl⟩))
            go_round
            case rel => exact ⟨i + 1, by omega, by rw [e1.out], by go_num⟩
            case measure => simp [intOf]; omega
          · have t1 := bool_ne t
            have e1 := Lib.hid (show sumN (dfT v x y N M) (i + 1) = sumN (dfT v x y N M) i + v (i * 3 + 2) from by simp only [sumN, dfT]; rw [if_neg t])
            clear t
            go_wp2_with (first | (go_at_call 48; (with_reducible refine (spec_l31Has A' N c' x i _ (by omega) f1).mono ?_); rintro _ _ ⟨rfl, rfl⟩) | (go_at_call 48; (with_reducible refine (spec_l31Has A'' M c'' y i _ (by omega) f2).mono ?_); rintro _ _ ⟨rfl, rfl⟩))
            go_round
            case rel => exact ⟨i + 1, by omega, by rw [e1.out], by go_num⟩
            case measure => simp [intOf]; omega
        · obtain rfl : i = n := by omega
          go_wp2
          go_ret
          exact ⟨rfl, hB⟩
end Go.Proofs.Ytgmfpdnjeengoaa
