/- The contracts of AboveIn: for every slice of copies, number and world, the program's function and the reference's return a slice that holds the same list (abvL), and leave old memory alone. A length of at most 2^20 alone is asked. -/
import Derived.Test.YtgmfpdnjeengoaaChain
import Derived.Test.YtgmfpdnjeengoaaRes
namespace Go.Proofs.Ytgmfpdnjeengoaa
open Go.RowKit
set_option linter.unusedSimpArgs false
set_option linter.unusedVariables false
set_option maxHeartbeats 1000000

/-- The way up from k: at most f steps. -/
def abv (v : Nat → Int) : Nat → Int → List Int
  | 0, _ => []
  | f + 1, k => if k < 0 then [] else k :: abv v f (v (k.toNat * 3))
theorem abv_stop {v : Nat → Int} {f : Nat} {k : Int} (h : k < 0) : abv v f k = [] := by
  cases f with
  | zero => rfl
  | succ f => simp [abv, h]
theorem abv_go {v : Nat → Int} {f K : Nat} : abv v (f + 1) K = (K : Int) :: abv v f (v (K * 3)) := by
  simp [abv]
theorem abv_len (v : Nat → Int) : ∀ f k, (abv v f k).length ≤ f := by
  intro f
  induction f with
  | zero => intro k; simp [abv]
  | succ f ih =>
    intro k
    simp only [abv]
    split
    · simp
    · have := ih (v (k.toNat * 3)); simp; omega
def abvL (n : Nat) (v : Nat → Int) (k : Int) : List Int := if chainB n v = true ∧ inB k 0 ((n : Int) - 1) = true then abv v 13 k else []
theorem abvL_in {n : Nat} {v : Nat → Int} {k : Int} (h1 : chainB n v = true) (h2 : inB k 0 ((n : Int) - 1) = true) : abvL n v k = abv v 13 k := if_pos ⟨h1, h2⟩
theorem abvL_out {n : Nat} {v : Nat → Int} {k : Int} (h : ¬ (chainB n v = true ∧ inB k 0 ((n : Int) - 1) = true)) : abvL n v k = [] := if_neg h

theorem impl_isCopy (A : Option Addr) (n c : Nat) (v : Nat → Int) (k : Int) (w : World) (hm : n ≤ 1048576) (f0 : Fl w A n 3 v) : Calls Try.prog 46 #[.slice A n c, .int .i64 k] w fun e w' => e = .returned (.bool (chainB n v && inB k 0 ((n : Int) - 1))) ∧ Below w.heap.size w w' := by
  have hB := Below.refl w.heap.size w
  by_cases h1 : chainB n v = true
  · go_enter Try.func46, Try.ntmps46
    go_wp2_with (first | (go_at_call 15; (with_reducible refine (impl_ChainOk A n c v _ f0).mono ?_); rintro _ w1 ⟨rfl, hb⟩; replace hB := below_step hB hb; clear hb) | (go_at_call 44; (with_reducible refine (in_any _ _ _ _).mono ?_); rintro _ _ ⟨rfl, rfl⟩))
    go_ret
    exact ⟨ret_bool (by simp [h1]), hB⟩
  · go_enter Try.func46, Try.ntmps46
    go_wp2_with (first | (go_at_call 15; (with_reducible refine (impl_ChainOk A n c v _ f0).mono ?_); rintro _ w1 ⟨rfl, hb⟩; replace hB := below_step hB hb; clear hb) | (go_at_call 44; (with_reducible refine (in_any _ _ _ _).mono ?_); rintro _ _ ⟨rfl, rfl⟩))
    go_ret
    exact ⟨ret_bool (by simp [h1]), hB⟩

theorem impl_above (A : Option Addr) (n c : Nat) (v : Nat → Int) (k0 : Int) (w : World) (h1 : chainB n v = true) (h2 : -1 ≤ k0 ∧ k0 < n) (f0 : Fl w A n 3 v) : Calls Try.prog 47 #[.slice A n c, .int .i64 k0] w (IntRes w (abv v 13 k0)) := by
  obtain ⟨s1, s2, s3⟩ := chainB_inv h1
  have S3 := Lib.hid s3; clear s3
  go_enter Try.func47, Try.ntmps47
  go_wp2_with fail
  go_loopw [1, 5] (fun x s wr => ∃ (k : Int) (f : Nat) (acc : List Int), x = .int .i64 k ∧ -1 ≤ k ∧ k < n ∧ k < f ∧ f ≤ 13 ∧ acc.length + f ≤ 13 ∧ acc ++ abv v f k = abv v 13 k0 ∧ OwnS wr w.heap.size s acc ∧ Below w.heap.size w wr) (fun x _ _ => (intOf x + 1).toNat)
  case atStart => exact ⟨k0, 13, [], rfl, h2.1, h2.2, by omega, by omega, by simp, rfl, OwnS.nil _ _, Below.refl _ _⟩
  case round =>
    obtain ⟨k, f, acc, rfl, hk1, hk2, hkf, hf, hl, hE, hown, hB⟩ := hrel
    have HE := Lib.hid hE; clear hE
    by_cases hk : 0 ≤ k
    · obtain ⟨K, rfl⟩ : ∃ K : Nat, k = K := ⟨k.toNat, by omega⟩
      obtain ⟨f', rfl⟩ : ∃ f', f = f' + 1 := ⟨f - 1, by omega⟩
      have q := S3.out K (by omega)
      have hz := hB.size
      go_wp2_with (at_builtin; refine push_one rfl (.tmp 13) (.tmp 15) rfl w.heap.size _ acc K rfl rfl hown (by omega) hz ?_; intro s' w1 hown' hgrow; have hB1 := below_grow hB hown hgrow; obtain ⟨b, off, rfl, hc⟩ := (f0.below hB1) (by omega); have c0 : w1.cell? ⟨b, off + K * 3, none⟩ = _ := hc (K * 3) (by omega); clear hc hgrow hown)
      go_roundw
      case rel => exact ⟨v (K * 3), f', acc ++ [(K : Int)], rfl, by omega, by omega, by omega, by omega, by simp; omega, by rw [List.append_assoc, List.singleton_append, ← abv_go]; exact HE.out, hown', hB1⟩
      case measure => simp [intOf]; omega
    · go_wp2
      go_ret
      have e : abv v 13 k0 = acc := by rw [← HE.out, abv_stop (by omega), List.append_nil]
      rw [e]
      exact hown.res hB

theorem impl_AboveIn (A : Option Addr) (n c : Nat) (v : Nat → Int) (k : Int) (w : World) (hm : n ≤ 1048576) (f0 : Fl w A n 3 v) : Calls Try.prog 18 #[.slice A n c, .int .i64 k] w (IntRes w (abvL n v k)) := by
  have hB := Below.refl w.heap.size w
  by_cases h : chainB n v = true ∧ inB k 0 ((n : Int) - 1) = true
  · have hb := inB_iff.1 h.2
    have e0 : (chainB n v && inB k 0 ((n : Int) - 1)) = true := by simp [h.1, h.2]
    have hI : ∀ w, _ := fun w => impl_isCopy A n c v k w hm
    simp only [e0] at hI
    have HI := Lib.hid hI; clear hI e0
    rw [abvL_in h.1 h.2]
    have HH := Lib.hid h; clear h
    go_enter Try.func18, Try.ntmps18
    ((go_wp2_with fail); (with_reducible refine (HI.out _ f0).mono ?_); rintro _ w1 ⟨rfl, hb⟩; replace f0 := Fl.below f0 hb; replace hB := below_step hB hb; clear hb)
    go_wp2_with fail
    refine (impl_above A n c v k _ HH.out.1 (by omega) f0).mono ?_
    rintro _ w2 ⟨A', c', rfl, hA, hb2⟩
    go_wp2_with fail
    go_ret
    exact ⟨A', c', rfl, fun hl => by obtain ⟨g, e1, e2, e3⟩ := hA hl; exact ⟨g, e1, Nat.le_trans hB.size e2, e3⟩, below_step hB hb2⟩
  · have e0 : (chainB n v && inB k 0 ((n : Int) - 1)) = false := by
      cases hc : chainB n v && inB k 0 ((n : Int) - 1) with
      | false => rfl
      | true => exact absurd (by simpa using hc) h
    have hI : ∀ w, _ := fun w => impl_isCopy A n c v k w hm
    simp only [e0] at hI
    have HI := Lib.hid hI; clear hI e0
    rw [abvL_out h]
    clear h
    go_enter Try.func18, Try.ntmps18
    ((go_wp2_with fail); (with_reducible refine (HI.out _ f0).mono ?_); rintro _ w1 ⟨rfl, hb⟩; replace hB := below_step hB hb; clear hb)
    go_wp2_with fail
    go_ret
    exact ⟨none, 0, rfl, fun hl => absurd hl (by simp), hB⟩

theorem spec_AboveIn (A : Option Addr) (n c : Nat) (v : Nat → Int) (k0 : Int) (w : World) (hm : n ≤ 1048576) (f0 : Fl w A n 3 v) : Calls Try.prog 17 #[.slice A n c, .int .i64 k0] w (IntRes w (abvL n v k0)) := by
  have hB : Below w.heap.size w (w.alloc (.cells #[] 3)) := below_alloc (Below.refl _ _) _
  have f1 := f0.below hB
  by_cases h1 : chainB n v = true
  · by_cases h2 : inB k0 0 ((n : Int) - 1) = true
    · obtain ⟨s1, s2, s3⟩ := chainB_inv h1
      have S3 := Lib.hid s3; clear s3
      have hb := inB_iff.1 h2
      rw [abvL_in h1 h2]
      have hown0 := OwnS.empty (w := w) (B := w.heap.size) (Nat.le_refl _)
      go_enter Try.func17, Try.ntmps17
      go_wp2_with (first | (go_at_call 13; (with_reducible refine (spec_ChainOk A n c v _ hm f1).mono ?_); rintro _ w1 ⟨rfl, hb⟩; replace hown0 := hown0.below hb; replace hB := below_step hB hb; clear hb) | (go_at_call 42; (with_reducible refine (l01In_any _ _ _ _).mono ?_); rintro _ _ ⟨rfl, rfl⟩))
      go_loopw [1, 5] (fun x s wr => ∃ (k : Int) (f : Nat) (acc : List Int), x = .int .i64 k ∧ -1 ≤ k ∧ k < n ∧ k < f ∧ f ≤ 13 ∧ acc.length + f ≤ 13 ∧ acc ++ abv v f k = abv v 13 k0 ∧ OwnS wr w.heap.size s acc ∧ Below w.heap.size w wr) (fun x _ _ => (intOf x + 1).toNat)
      case atStart => exact ⟨k0, 13, [], rfl, by omega, by omega, by omega, by omega, by simp, rfl, hown0, hB⟩
      case round =>
        clear hown0
        have hB0 := hB
        clear hB
        obtain ⟨k, f, acc, rfl, hk1, hk2, hkf, hf, hl, hE, hown, hB⟩ := hrel
        have HE := Lib.hid hE; clear hE
        by_cases hk : 0 ≤ k
        · obtain ⟨K, rfl⟩ : ∃ K : Nat, k = K := ⟨k.toNat, by omega⟩
          obtain ⟨f', rfl⟩ : ∃ f', f = f' + 1 := ⟨f - 1, by omega⟩
          have q := S3.out K (by omega)
          have hz := hB.size
          go_wp2_with (at_builtin; refine push_one rfl (.tmp 21) (.tmp 23) rfl w.heap.size _ acc K rfl rfl hown (by omega) hz ?_; intro s' w1 hown' hgrow; have hB1 := below_grow hB hown hgrow; obtain ⟨b, off, rfl, hc⟩ := (f0.below hB1) (by omega); have c0 : w1.cell? ⟨b, off + K * 3, none⟩ = _ := hc (K * 3) (by omega); clear hc hgrow hown)
          go_roundw
          case rel => exact ⟨v (K * 3), f', acc ++ [(K : Int)], rfl, by omega, by omega, by omega, by omega, by simp; omega, by rw [List.append_assoc, List.singleton_append, ← abv_go]; exact HE.out, hown', hB1⟩
          case measure => simp [intOf]; omega
        · go_wp2
          go_ret
          have e : abv v 13 k0 = acc := by rw [← HE.out, abv_stop (by omega), List.append_nil]
          rw [e]
          exact hown.res hB
    · rw [abvL_out (fun h => h2 h.2)]
      go_enter Try.func17, Try.ntmps17
      go_wp2_with (first | (go_at_call 13; (with_reducible refine (spec_ChainOk A n c v _ hm f1).mono ?_); rintro _ w1 ⟨rfl, hb⟩; replace hB := below_step hB hb; clear hb) | (go_at_call 42; (with_reducible refine (l01In_any _ _ _ _).mono ?_); rintro _ _ ⟨rfl, rfl⟩))
      go_ret
      exact ⟨_, _, rfl, fun hl => absurd hl (by simp), hB⟩
  · rw [abvL_out (fun h => h1 h.1)]
    go_enter Try.func17, Try.ntmps17
    go_wp2_with (first | (go_at_call 13; (with_reducible refine (spec_ChainOk A n c v _ hm f1).mono ?_); rintro _ w1 ⟨rfl, hb⟩; replace hB := below_step hB hb; clear hb) | (go_at_call 42; (with_reducible refine (l01In_any _ _ _ _).mono ?_); rintro _ _ ⟨rfl, rfl⟩))
    go_ret
    exact ⟨_, _, rfl, fun hl => absurd hl (by simp), hB⟩
end Go.Proofs.Ytgmfpdnjeengoaa
