/- The contracts of IsDetermined and ReadingsOk. -/
import Derived.Test.YtmnmnkenboejpaaAdj
namespace Go.Proofs.Ytmnmnkenboejpaa
open Go.RowKit
set_option linter.unusedSimpArgs false
set_option linter.unusedVariables false
set_option maxHeartbeats 4000000
def detG (L : List (List Int)) : Int := detF (L.getD 0 []).length (gramL L)
def detB (L : List (List Int)) : Bool := desB L && (detG L != 0)
theorem gram_len {L : List (List Int)} : (gramL L).length = (L.getD 0 []).length := by simp [gramL]
theorem impl_IsDet (A : Option Addr) (c : Nat) (L : List (List Int)) (w : World) (hn : L.length ≤ 1048576) (hr : ∀ r ∈ L, r.length ≤ 1048576) (f0 : Fm w A L) : Calls Try.prog 54 #[.slice A L.length c] w fun e w' => e = .returned (.bool (detB L)) ∧ Below w.heap.size w w' := by
  have hDes := fun w f => impl_DesignOk A c L w hn hr f
  rcases Bool.eq_false_or_eq_true (desB L) with hd | hd
  · have hG := gram_sq hd
    have hGr := fun w f => impl_GramOf A c L w hd f
    have hDt := fun A c w f => impl_DeterminantOf (L.getD 0 []).length A c (gramL L) w hG f
    obtain ⟨D, hD⟩ : ∃ D, D = detG L := ⟨_, rfl⟩
    have hDt' : ∀ (A : Option Addr) (c : Nat) (w : World), Fmc w A (gramL L) → Calls Try.prog 71 #[.slice A (gramL L).length c] w fun e w' => e = .returned (.int .i64 D) ∧ Below w.heap.size w w' := by
      rw [hD, gram_len]; exact hDt
    have hv : detB L = (D != 0) := by unfold detB; rw [hd, hD]; rfl
    have HV := Lib.hid hv
    rw [hd] at hDes
    clear hDt hG hv hD
    go_enter Try.func54, Try.ntmps54
    go_wp2_with (go_at_call 52; (with_reducible refine (hDes _ f0).mono ?_); rintro _ _ ⟨rfl, rfl⟩)
    with_reducible refine (hGr _ f0).mono ?_
    rintro _ w1 ⟨s, rfl, o1, hb⟩
    obtain ⟨A1, c1, rfl, f1, _⟩ := o1.outc
    clear o1
    go_wp2_with fail
    with_reducible refine (hDt' _ _ _ f1).mono ?_
    rintro _ w2 ⟨rfl, hb2⟩
    replace hb := below_step hb hb2
    clear hb2
    by_cases h0 : D = 0
    · subst h0
      go_wp2_with fail
      go_ret
      exact ⟨ret_bool (by rw [HV.out]; rfl), hb⟩
    · have h0b : (D != 0) = true := by simp [h0]
      go_wp2_with fail
      go_ret
      exact ⟨ret_bool (by rw [HV.out, h0b]), hb⟩
  · rw [hd] at hDes
    have hv : detB L = false := by unfold detB; rw [hd]; rfl
    have HV := Lib.hid hv; clear hv
    go_enter Try.func54, Try.ntmps54
    go_wp2_with (go_at_call 52; (with_reducible refine (hDes _ f0).mono ?_); rintro _ _ ⟨rfl, rfl⟩)
    go_ret
    exact ⟨ret_bool (by rw [HV.out]), Below.refl _ _⟩
theorem spec_IsDet (A : Option Addr) (c : Nat) (L : List (List Int)) (w : World) (hn : L.length ≤ 1048576) (hr : ∀ r ∈ L, r.length ≤ 1048576) (f0 : Fm w A L) : Calls Try.prog 48 #[.slice A L.length c] w fun e w' => e = .returned (.bool (detB L)) ∧ Below w.heap.size w w' := by
  have hDes := fun w f => spec_DesignOk A c L w hn hr f
  rcases Bool.eq_false_or_eq_true (desB L) with hd | hd
  · have hG := gram_sq hd
    have hGr := fun w f => spec_GramOf A c L w hd f
    have hDt := fun A c w f => spec_det (L.getD 0 []).length A c (gramL L) w hG.len hG.row (by have := hG.m4; omega) f
    obtain ⟨D, hD⟩ : ∃ D, D = detG L := ⟨_, rfl⟩
    have hDt' : ∀ (A : Option Addr) (c : Nat) (w : World), Fmc w A (gramL L) → Calls Try.prog 41 #[.slice A (gramL L).length c] w fun e w' => e = .returned (.int .i64 D) ∧ Below w.heap.size w w' := by
      rw [hD, gram_len]; exact hDt
    have hv : detB L = (D != 0) := by unfold detB; rw [hd, hD]; rfl
    have HV := Lib.hid hv
    rw [hd] at hDes
    clear hDt hG hv hD
    go_enter Try.func48, Try.ntmps48
    go_wp2_with fail
    with_reducible refine (hDes _ f0).mono ?_
    rintro _ w0 ⟨rfl, hb0⟩
    replace f0 := f0.below hb0
    go_wp2_with fail
    with_reducible refine (hGr _ f0).mono ?_
    rintro _ w1 ⟨s, rfl, o1, hb⟩
    replace hb := below_step hb0 hb
    obtain ⟨A1, c1, rfl, f1, _⟩ := o1.outc
    clear o1
    go_wp2_with fail
    with_reducible refine (hDt' _ _ _ f1).mono ?_
    rintro _ w2 ⟨rfl, hb2⟩
    replace hb := below_step hb hb2
    clear hb2
    by_cases h0 : D = 0
    · subst h0
      go_wp2_with fail
      go_ret
      exact ⟨ret_bool (by rw [HV.out]; rfl), hb⟩
    · have h0b : (D != 0) = true := by simp [h0]
      go_wp2_with fail
      go_ret
      exact ⟨ret_bool (by rw [HV.out, h0b]), hb⟩
  · rw [hd] at hDes
    have hv : detB L = false := by unfold detB; rw [hd]; rfl
    have HV := Lib.hid hv; clear hv
    go_enter Try.func48, Try.ntmps48
    go_wp2_with fail
    with_reducible refine (hDes _ f0).mono ?_
    rintro _ w0 ⟨rfl, hb0⟩
    go_wp2_with fail
    go_ret
    exact ⟨ret_bool (by rw [HV.out]), hb0⟩
def rngB (n : Nat) (v : Nat → Int) : Bool := allN (fun j => inB (v j) (-500) 500) n
theorem rngB_no {n k : Nat} {v : Nat → Int} (hk : k < n) (h : inB (v k) (-500) 500 = false) : rngB n v = false := allN_no hk h
/-- Are the readings valid? -/
def rdB (L : List (List Int)) (n : Nat) (v : Nat → Int) : Bool := detB L && decide (n = L.length) && rngB n v
theorem impl_ReadingsOk (A B : Option Addr) (c d n : Nat) (L : List (List Int)) (v : Nat → Int) (w : World) (hn : L.length ≤ 1048576) (hr : ∀ r ∈ L, r.length ≤ 1048576) (hn2 : n ≤ 1048576) (f0 : Fm w A L) (f1 : Fl w B n 1 v) :
    Calls Try.prog 33 #[.slice A L.length c, .slice B n d] w fun e w' => e = .returned (.bool (rdB L n v)) ∧ Below w.heap.size w w' := by
  have hDet := fun w f => impl_IsDet A c L w hn hr f
  obtain ⟨D, hD⟩ : ∃ D, D = detB L := ⟨_, rfl⟩
  rw [← hD] at hDet
  have hv : rdB L n v = (D && decide (n = L.length) && rngB n v) := by unfold rdB; rw [hD]
  have HV := Lib.hid hv; clear hv hD
  obtain ⟨N, hN⟩ : ∃ N, N = L.length := ⟨_, rfl⟩
  rw [← hN] at HV
  simp only [← hN] at hn hDet ⊢
  clear hN hr
  cases D
  · go_enter Try.func33, Try.ntmps33
    go_wp2_with fail
    with_reducible refine (hDet _ f0).mono ?_
    rintro _ w0 ⟨rfl, hb0⟩
    go_wp2_with fail
    go_ret
    exact ⟨ret_bool (by rw [HV.out]; rfl), hb0⟩
  · by_cases hnn : n = N
    · subst hnn
      have hnb : ((n : Int) != (n : Int)) = false := by simp
      have hv : rdB L n v = rngB n v := by rw [HV.out]; simp
      have HV := Lib.hid hv; clear hv
      have HF1 := Lib.hid f1; clear f1
      go_enter Try.func33, Try.ntmps33
      go_wp2_with fail
      with_reducible refine (hDet _ f0).mono ?_
      rintro _ w0 ⟨rfl, hb0⟩
      clear hDet f0
      have HB0 := Lib.hid hb0; clear hb0
      go_wp2_with fail
      go_loopw [19] (fun x wr => ∃ k : Nat, k ≤ n ∧ x = .int .i64 k ∧ rngB k v = true ∧ Below w.heap.size w wr) (fun x _ => n - (intOf x).toNat)
      case atStart => exact ⟨0, Nat.zero_le _, rfl, rfl, HB0.out⟩
      case round =>
        clear HB0
        obtain ⟨k, hk, rfl, hs, hB⟩ := hrel
        by_cases hkn : k < n
        · obtain ⟨b, off, rfl, hc⟩ := (HF1.out.below hB) (by omega)
          have c0 := hc k (by omega)
          clear hc
          have hk1 : (k : Int) < (n : Int) := by omega
          have hk0 : (0 : Int) ≤ (k : Int) := Int.natCast_nonneg _
          rcases Bool.eq_false_or_eq_true (inB (v k) (-500) 500) with t1 | t1
          · go_wp2_with (go_at_call 51; (with_reducible refine (in_any _ _ _ _).mono ?_); rintro _ _ ⟨rfl, rfl⟩)
            go_roundw
            case rel => exact ⟨k + 1, by omega, by go_num, by simp only [rngB, allN, Bool.and_eq_true] at hs ⊢; exact ⟨hs, t1⟩, hB⟩
            case measure => simp [intOf]; omega
          · go_wp2_with (go_at_call 51; (with_reducible refine (in_any _ _ _ _).mono ?_); rintro _ _ ⟨rfl, rfl⟩)
            go_ret
            exact ⟨ret_bool (by rw [HV.out, rngB_no hkn t1]; simp), hB⟩
        · obtain rfl : k = n := by omega
          go_wp2_with fail
          go_ret
          exact ⟨ret_bool (by rw [HV.out, hs]; simp), hB⟩
    · have hnb : ((n : Int) != (N : Int)) = true := by simp; omega
      have hv : rdB L n v = false := by rw [HV.out]; simp [hnn]
      have HV := Lib.hid hv; clear hv
      go_enter Try.func33, Try.ntmps33
      go_wp2_with fail
      with_reducible refine (hDet _ f0).mono ?_
      rintro _ w0 ⟨rfl, hb0⟩
      go_wp2_with fail
      go_ret
      exact ⟨ret_bool (by rw [HV.out]), hb0⟩
theorem spec_ReadingsOk (A B : Option Addr) (c d n : Nat) (L : List (List Int)) (v : Nat → Int) (w : World) (hn : L.length ≤ 1048576) (hr : ∀ r ∈ L, r.length ≤ 1048576) (hn2 : n ≤ 1048576) (f0 : Fm w A L) (f1 : Fl w B n 1 v) :
    Calls Try.prog 40 #[.slice A L.length c, .slice B n d] w fun e w' => e = .returned (.bool (rdB L n v)) ∧ Below w.heap.size w w' := by
  have hDet := fun w f => spec_IsDet A c L w hn hr f
  obtain ⟨D, hD⟩ : ∃ D, D = detB L := ⟨_, rfl⟩
  rw [← hD] at hDet
  have hv : rdB L n v = (D && decide (n = L.length) && rngB n v) := by unfold rdB; rw [hD]
  have HV := Lib.hid hv; clear hv hD
  obtain ⟨N, hN⟩ : ∃ N, N = L.length := ⟨_, rfl⟩
  rw [← hN] at HV
  simp only [← hN] at hn hDet ⊢
  clear hN hr
  have HF1 := Lib.hid f1; clear f1
  have HF0 := Lib.hid f0; clear f0
  go_enter Try.func40, Try.ntmps40
  go_wp2_with fail
  go_loopw [5] (fun x wr => ∃ k : Nat, k ≤ n ∧ x = .int .i64 k ∧ rngB k v = true ∧ wr = w) (fun x _ => n - (intOf x).toNat)
  case atStart => exact ⟨0, Nat.zero_le _, rfl, rfl, rfl⟩
  case round =>
    obtain ⟨k, hk, rfl, hs, rfl⟩ := hrel
    by_cases hkn : k < n
    · obtain ⟨b, off, rfl, hc⟩ := HF1.out (by omega)
      have c0 := hc k (by omega)
      clear hc
      have hk1 : (k : Int) < (n : Int) := by omega
      have hk0 : (0 : Int) ≤ (k : Int) := Int.natCast_nonneg _
      rcases Bool.eq_false_or_eq_true (inB (v k) (-500) 500) with t1 | t1
      · go_wp2_with (go_at_call 59; (with_reducible refine (l01In_any _ _ _ _).mono ?_); rintro _ _ ⟨rfl, rfl⟩)
        go_roundw
        case rel => exact ⟨k + 1, by omega, by go_num, by simp only [rngB, allN, Bool.and_eq_true] at hs ⊢; exact ⟨hs, t1⟩, trivial⟩
        case measure => simp [intOf]; omega
      · go_wp2_with (go_at_call 59; (with_reducible refine (l01In_any _ _ _ _).mono ?_); rintro _ _ ⟨rfl, rfl⟩)
        go_ret
        exact ⟨ret_bool (by rw [HV.out, rngB_no hkn t1, Bool.and_false]), Below.refl _ _⟩
    · obtain rfl : k = n := by omega
      go_wp2_with fail
      with_reducible refine (hDet _ HF0.out).mono ?_
      rintro _ w0 ⟨rfl, hb0⟩
      have HS := Lib.hid hs; clear hs
      cases D
      · go_wp2_with fail
        go_ret
        exact ⟨ret_bool (by rw [HV.out]; rfl), hb0⟩
      · by_cases hnn : k = N
        · subst hnn
          have hnb : ((k : Int) == (k : Int)) = true := by simp
          go_wp2_with fail
          go_ret
          exact ⟨ret_bool (by rw [HV.out, HS.out]; simp), hb0⟩
        · have hnb : ((k : Int) == (N : Int)) = false := by simp; omega
          go_wp2_with fail
          go_ret
          exact ⟨ret_bool (by rw [HV.out]; simp [hnn]), hb0⟩
end Go.Proofs.Ytmnmnkenboejpaa
