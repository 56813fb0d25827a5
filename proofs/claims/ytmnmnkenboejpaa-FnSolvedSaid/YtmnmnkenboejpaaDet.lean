/- The contracts of determinant and l22Det. -/
import Derived.Test.YtmnmnkenboejpaaWo
namespace Go.Proofs.Ytmnmnkenboejpaa
open Go.RowKit
set_option linter.unusedSimpArgs false
set_option linter.unusedVariables false
set_option maxHeartbeats 4000000
def altS (k : Nat) : Int := if k % 2 = 0 then 1 else -1
theorem altS_neg (k : Nat) : wrap64 (-(altS k)) = altS (k + 1) := by
  unfold altS
  rcases Nat.mod_two_eq_zero_or_one k with h | h
  · rw [if_pos h, if_neg (by omega)]; exact IntWalk.wrap64_in _ (by omega)
  · rw [if_neg (by omega), if_pos (by omega)]; exact IntWalk.wrap64_in _ (by omega)
/-- The first k terms of the determinant by the first row; D are the minors. -/
def dsum (r : Nat → Int) (D : Nat → Int) : Nat → Int
  | 0 => 0
  | k + 1 => wrap64 (dsum r D k + wrap64 (wrap64 (altS k * r k) * D k))
def detF : Nat → List (List Int) → Int
  | 0, _ => 1
  | m + 1, L => dsum (gl (L.getD 0 [])) (fun k => detF m (wo L 0 k)) (m + 1)
theorem wrap64_zero : wrap64 0 = 0 := IntWalk.wrap64_in _ (by omega)
theorem wrap64_wrap64 (x : Int) : wrap64 (wrap64 x) = wrap64 x := by unfold wrap64; omega
theorem dsum_in (r D : Nat → Int) (k : Nat) : wrap64 (dsum r D k) = dsum r D k := by
  cases k with
  | zero => exact wrap64_zero
  | succ k => exact wrap64_wrap64 _
theorem dsum_zero {r D : Nat → Int} {k : Nat} (h : r k = 0) : dsum r D (k + 1) = dsum r D k := by
  simp only [dsum, h, Int.mul_zero, wrap64_zero, Int.zero_mul, Int.add_zero]
  exact dsum_in r D k
theorem wo_sq {L : List (List Int)} {m i k : Nat} (hm : L.length = m + 1) (hr : ∀ r ∈ L, r.length = m + 1) (hi : i < m + 1) (hk : k < m + 1) : (wo L i k).length = m ∧ ∀ r ∈ wo L i k, r.length = m := by
  constructor
  · simp [wo, List.length_eraseIdx, hm]; omega
  · intro r h
    obtain ⟨r', h1, rfl⟩ := List.mem_map.1 h
    have h2 := hr r' ((List.eraseIdx_sublist _ _).mem h1)
    simp [List.length_eraseIdx, h2]; omega
set_option maxRecDepth 100000 in
theorem impl_det : ∀ (m : Nat) (A : Option Addr) (c : Nat) (L : List (List Int)) (w : World) (hm : L.length = m) (hr : ∀ r ∈ L, r.length = m) (h5 : m ≤ 8) (f0 : Fmc w A L),
    Calls Try.prog 57 #[.slice A m c] w fun e w' => e = .returned (.int .i64 (detF m L)) ∧ Below w.heap.size w w'
  | 0, A, c, L, w, hm, hr, h5, f0 => by
    go_enter Try.func57, Try.ntmps57
    go_wp2_with fail
    go_ret
    exact ⟨rfl, Below.refl _ _⟩
  | m + 1, A, c, L, w, hm, hr, h5, f0 => by
    have ih := fun A c L w h1 h2 h3 => impl_det m A c L w h1 h2 (by omega) h3
    have hwo := fun (k : Nat) w (hk : k < m + 1) f => impl_without A c L 0 k w (by omega) (fun r h => ⟨by have := hr r h; omega, by have := hr r h; omega⟩) f
    have hsq := fun k (hk : k < m + 1) => wo_sq (i := 0) (k := k) hm hr (by omega) hk
    rw [hm] at hwo
    simp only [Int.natCast_zero] at hwo
    have HF := Lib.hid f0
    obtain ⟨b, off, rfl, hc⟩ := f0 (by omega)
    obtain ⟨r0, hr0⟩ : ∃ r, L[0]? = some r := ⟨_, List.getElem?_eq_getElem (by omega)⟩
    obtain ⟨Ai, ci, c0, f1, _⟩ := hc 0 r0 hr0
    have hrl := hr r0 (List.mem_of_getElem? hr0)
    rw [Nat.add_zero, hrl] at c0
    rw [hrl] at f1
    obtain ⟨br, or, rfl, hcr⟩ := f1 (by omega)
    have hdet : ∀ k, dsum (gl r0) (fun k => detF m (wo L 0 k)) (k + 1) = wrap64 (dsum (gl r0) (fun k => detF m (wo L 0 k)) k + wrap64 (wrap64 (altS k * gl r0 k) * detF m (wo L 0 k))) := fun k => rfl
    have hfin : detF (m + 1) L = dsum (gl r0) (fun k => detF m (wo L 0 k)) (m + 1) := by
      have : L.getD 0 [] = r0 := getD_of hr0
      simp only [detF, this]
    generalize hS : dsum (gl r0) (fun k => detF m (wo L 0 k)) = S at hdet hfin
    have hS0 : S 0 = 0 := by rw [← hS]; rfl
    have HD := Lib.hid hdet; clear hdet
    have HFIN := Lib.hid hfin; clear hfin
    have HS0 := Lib.hid hS0; clear hS0
    have hCR := Lib.hid hcr; clear hcr
    have HSQ := Lib.hid hsq; clear hsq
    clear hS hc hr0 hrl f1 hm hr
    obtain ⟨M, hM⟩ : ∃ M, M = m + 1 := ⟨_, rfl⟩
    rw [← hM] at c0 HSQ HFIN hwo ⊢
    have HM := Lib.hid hM
    have hM0 : (0 : Int) < (M : Int) := by omega
    have hMb : ((M : Int) == 0) = false := by simp; omega
    have hM8 : M ≤ 8 := by omega
    have hMn : 0 < M := by omega
    clear hM h5
    go_enter Try.func57, Try.ntmps57
    go_wp2_with fail
    go_loopw [3, 4, 14] (fun n s x wr => ∃ k : Nat, k ≤ M ∧ x = .int .i64 k ∧ n = .int .i64 (S k) ∧ s = .int .i64 (altS k) ∧ Below w.heap.size w wr) (fun _ _ x _ => M - (intOf x).toNat)
    case atStart => exact ⟨0, Nat.zero_le _, rfl, by rw [HS0.out], rfl, Below.refl _ _⟩
    case round =>
      obtain ⟨k, hk, rfl, rfl, rfl, hB⟩ := hrel
      by_cases hkM : k < M
      · have c1 := below_cell hB (hCR.out k (by have := HM.out; omega))
        have hk1 : (k : Int) < (M : Int) := by omega
        have hk0 : (0 : Int) ≤ (k : Int) := Int.natCast_nonneg _
        have hsk := HSQ.out k hkM
        have HSK := Lib.hid hsk; clear hsk
        obtain ⟨x, hx⟩ : ∃ x, x = gl r0 k := ⟨_, rfl⟩
        have hd := HD.out k
        rw [← hx] at c1 hd
        have HDK := Lib.hid hd; clear hd hx
        obtain ⟨s, hs⟩ : ∃ s, s = altS k := ⟨_, rfl⟩
        have hsn := altS_neg k
        rw [← hs] at HDK hsn ⊢
        have HSN := Lib.hid hsn; clear hsn hs
        go_wp2_with fail
        with_reducible refine (hwo k _ hkM (HF.out.below hB)).mono ?_
        rintro _ w1 ⟨s1, rfl, o1, hb1⟩
        replace hB := below_step hB hb1
        obtain ⟨A1, c1', rfl, f1, _⟩ := o1.outc
        rw [HSK.out.1]
        clear o1 hb1
        go_wp2_with fail
        with_reducible refine (ih A1 c1' _ _ HSK.out.1 HSK.out.2 f1).mono ?_
        rintro _ w2 ⟨rfl, hb2⟩
        replace hB := below_step hB hb2
        clear hb2 f1
        go_wp2_with fail
        go_roundw
        case rel => exact ⟨k + 1, by omega, by go_num, by rw [HDK.out], by rw [← HSN.out], hB⟩
        case measure => simp [intOf]; omega
      · obtain rfl : k = M := by omega
        go_wp2_with fail
        go_ret
        exact ⟨ret_int (by rw [HFIN.out]), hB⟩
set_option maxRecDepth 100000 in
theorem spec_det : ∀ (m : Nat) (A : Option Addr) (c : Nat) (L : List (List Int)) (w : World) (hm : L.length = m) (hr : ∀ r ∈ L, r.length = m) (h5 : m ≤ 8) (f0 : Fmc w A L),
    Calls Try.prog 41 #[.slice A m c] w fun e w' => e = .returned (.int .i64 (detF m L)) ∧ Below w.heap.size w w'
  | 0, A, c, L, w, hm, hr, h5, f0 => by
    go_enter Try.func41, Try.ntmps41
    go_wp2_with fail
    go_ret
    exact ⟨rfl, Below.refl _ _⟩
  | m + 1, A, c, L, w, hm, hr, h5, f0 => by
    have ih := fun A c L w h1 h2 h3 => spec_det m A c L w h1 h2 (by omega) h3
    have hwo := fun (k : Nat) w (hk : k < m + 1) f => spec_Without A c L 0 k w (by omega) (fun r h => by have := hr r h; omega) f
    have hsq := fun k (hk : k < m + 1) => wo_sq (i := 0) (k := k) hm hr (by omega) hk
    rw [hm] at hwo
    simp only [Int.natCast_zero] at hwo
    have HF := Lib.hid f0
    obtain ⟨b, off, rfl, hc⟩ := f0 (by omega)
    obtain ⟨r0, hr0⟩ : ∃ r, L[0]? = some r := ⟨_, List.getElem?_eq_getElem (by omega)⟩
    obtain ⟨Ai, ci, c0, f1, _⟩ := hc 0 r0 hr0
    have hrl := hr r0 (List.mem_of_getElem? hr0)
    rw [Nat.add_zero, hrl] at c0
    rw [hrl] at f1
    obtain ⟨br, or, rfl, hcr⟩ := f1 (by omega)
    have hdet : ∀ k, dsum (gl r0) (fun k => detF m (wo L 0 k)) (k + 1) = wrap64 (dsum (gl r0) (fun k => detF m (wo L 0 k)) k + wrap64 (wrap64 (altS k * gl r0 k) * detF m (wo L 0 k))) := fun k => rfl
    have hz : ∀ k, gl r0 k = 0 → dsum (gl r0) (fun k => detF m (wo L 0 k)) (k + 1) = dsum (gl r0) (fun k => detF m (wo L 0 k)) k := fun k h => dsum_zero h
    have hfin : detF (m + 1) L = dsum (gl r0) (fun k => detF m (wo L 0 k)) (m + 1) := by
      have : L.getD 0 [] = r0 := getD_of hr0
      simp only [detF, this]
    generalize hS : dsum (gl r0) (fun k => detF m (wo L 0 k)) = S at hdet hfin hz
    have hS0 : S 0 = 0 := by rw [← hS]; rfl
    have HZ := Lib.hid hz; clear hz
    have HD := Lib.hid hdet; clear hdet
    have HFIN := Lib.hid hfin; clear hfin
    have HS0 := Lib.hid hS0; clear hS0
    have hCR := Lib.hid hcr; clear hcr
    have HSQ := Lib.hid hsq; clear hsq
    clear hS hc hr0 hrl f1 hm hr
    obtain ⟨M, hM⟩ : ∃ M, M = m + 1 := ⟨_, rfl⟩
    rw [← hM] at c0 HSQ HFIN hwo ⊢
    have HM := Lib.hid hM
    have hM0 : (0 : Int) < (M : Int) := by omega
    have hMb : ((M : Int) == 0) = false := by simp; omega
    have hM8 : M ≤ 8 := by omega
    have hMn : 0 < M := by omega
    clear hM h5
    go_enter Try.func41, Try.ntmps41
    go_wp2_with fail
    go_loopw [3, 4, 5] (fun n s x wr => ∃ k : Nat, k ≤ M ∧ x = .int .i64 k ∧ n = .int .i64 (S k) ∧ s = .int .i64 (altS k) ∧ Below w.heap.size w wr) (fun _ _ x _ => M - (intOf x).toNat)
    case atStart => exact ⟨0, Nat.zero_le _, rfl, by rw [HS0.out], rfl, Below.refl _ _⟩
    case round =>
      obtain ⟨k, hk, rfl, rfl, rfl, hB⟩ := hrel
      by_cases hkM : k < M
      · have c1 := below_cell hB (hCR.out k (by have := HM.out; omega))
        replace c0 := below_cell hB c0
        have hk1 : (k : Int) < (M : Int) := by omega
        have hk0 : (0 : Int) ≤ (k : Int) := Int.natCast_nonneg _
        have hsk := HSQ.out k hkM
        have HSK := Lib.hid hsk; clear hsk
        obtain ⟨x, hx⟩ : ∃ x, x = gl r0 k := ⟨_, rfl⟩
        have hd := HD.out k
        have hz := HZ.out k
        rw [← hx] at c1 hd hz
        have HZK := Lib.hid hz; clear hz
        have HDK := Lib.hid hd; clear hd hx
        obtain ⟨s, hs⟩ : ∃ s, s = altS k := ⟨_, rfl⟩
        have hsn := altS_neg k
        rw [← hs] at HDK hsn ⊢
        have HSN := Lib.hid hsn; clear hsn hs
        by_cases hx0 : x = 0
        · subst hx0
          go_wp2_with fail
          go_roundw
          case rel => exact ⟨k + 1, by omega, by go_num, by rw [HZK.out rfl], by rw [← HSN.out], hB⟩
          case measure => simp [intOf]; omega
        · have hxb : (x != 0) = true := by simp [hx0]
          have hFd := (HF.out.below hB).below (Below.refl _ _).drew
          go_wp2_with fail
          go_region_held3 (fun w' => w'.cell? ⟨b, off, none⟩ = some (.slice (some ⟨br, or, none⟩) M ci) ∧ w'.cell? ⟨br, or + k, none⟩ = some (.int .i64 x) ∧ Below wr.heap.size wr w')
            ((repeat' apply And.intro) <;> first
              | exact c0
              | exact c1
              | exact (Below.refl _ _).drew
              | exact below_cell hb1 c0
              | exact below_cell hb1 c1
              | exact below_step (Below.refl _ _).drew hb1
              | exact below_cell hb2 (below_cell hb1 c0)
              | exact below_cell hb2 (below_cell hb1 c1)
              | exact below_step (below_step (Below.refl _ _).drew hb1) hb2)
            (first
              | (go_at_call 60; with_reducible refine (hwo k _ hkM hFd).mono ?_; rintro _ w1 ⟨s1, rfl, o1, hb1⟩; have ho1 := o1.outc; obtain ⟨A1, c1', rfl, f1, _⟩ := ho1; rw [HSK.out.1])
              | (go_at_call 41; with_reducible refine (ih A1 c1' _ _ HSK.out.1 HSK.out.2 f1).mono ?_; rintro _ w2 ⟨rfl, hb2⟩))
          have hB2 := below_step (below_step hB.drew hb1) hb2
          go_wp2_with fail
          go_roundw
          case rel => exact ⟨k + 1, by omega, by go_num, by simp only [HDK.out, IntWalk.i64_left], by rw [← HSN.out], hB2⟩
          case measure => simp [intOf]; omega
      · obtain rfl : k = M := by omega
        go_wp2_with fail
        go_ret
        exact ⟨ret_int (by rw [HFIN.out]), hB⟩
end Go.Proofs.Ytmnmnkenboejpaa
