/- The contracts of SignSum, Eliminates and DriftedSum: for every argument and world the program's function and the reference's return the same value of sgnV, elimV, driftV, and leave old memory alone. A length of at most 2^20 alone is asked. -/
import Derived.Test.YtmgfejdgjfldfaaSigns
namespace Go.Proofs.Ytmgfejdgjfldfaa
open Go.RowKit
set_option linter.unusedSimpArgs false
set_option linter.unusedVariables false
set_option maxHeartbeats 1000000

def sgnV (n : Nat) (v : Nat → Int) (d : Int) : Int := if sgnB n v = true ∧ inB d 0 5 = true then sumN (sgT v d.toNat) n else 0
theorem sgnV_in {n : Nat} {v : Nat → Int} {d : Nat} (h1 : sgnB n v = true) (h2 : inB (d : Int) 0 5 = true) : sgnV n v d = sumN (sgT v d) n := by
  unfold sgnV; rw [if_pos ⟨h1, h2⟩]; rfl
theorem sgnV_out {n : Nat} {v : Nat → Int} {d : Int} (h : ¬ (sgnB n v = true ∧ inB d 0 5 = true)) : sgnV n v d = 0 := if_neg h

theorem impl_SignSum (A : Option Addr) (n c : Nat) (v : Nat → Int) (d : Int) (w : World) (hm : n ≤ 1048576) (f0 : Fl w A n 1 v) : Calls Try.prog 16 #[.slice A n c, .int .i64 d] w fun e w' => e = .returned (.int .i64 (sgnV n v d)) ∧ w = w' := by
  by_cases h1 : sgnB n v = true
  · by_cases h2 : inB d 0 5 = true
    · obtain ⟨s1, s2⟩ := sgnB_inv h1
      have S2 := Lib.hid s2; clear s2
      obtain ⟨b1, b2⟩ := inB_iff.1 h2
      obtain ⟨D, rfl⟩ : ∃ D : Nat, d = D := ⟨d.toNat, by omega⟩
      go_enter Try.func16, Try.ntmps16
      go_wp2_with (first | (go_at_call 31; (with_reducible refine (impl_signsOk A n c v _ hm f0).mono ?_); rintro _ _ ⟨rfl, rfl⟩) | (go_at_call 27; (with_reducible refine (in_any _ _ _ _).mono ?_); rintro _ _ ⟨rfl, rfl⟩) | (go_at_call 32; (with_reducible refine (impl_signSum A n c D v _ s1 (by omega) S2.out f0).mono ?_); rintro _ _ ⟨rfl, rfl⟩))
      go_ret
      exact ⟨ret_int (sgnV_in h1 h2).symm, rfl⟩
    · go_enter Try.func16, Try.ntmps16
      go_wp2_with (first | (go_at_call 31; (with_reducible refine (impl_signsOk A n c v _ hm f0).mono ?_); rintro _ _ ⟨rfl, rfl⟩) | (go_at_call 27; (with_reducible refine (in_any _ _ _ _).mono ?_); rintro _ _ ⟨rfl, rfl⟩))
      go_ret
      exact ⟨ret_int (sgnV_out (fun h => h2 h.2)).symm, rfl⟩
  · go_enter Try.func16, Try.ntmps16
    go_wp2_with (first | (go_at_call 31; (with_reducible refine (impl_signsOk A n c v _ hm f0).mono ?_); rintro _ _ ⟨rfl, rfl⟩) | (go_at_call 27; (with_reducible refine (in_any _ _ _ _).mono ?_); rintro _ _ ⟨rfl, rfl⟩))
    go_ret
    exact ⟨ret_int (sgnV_out (fun h => h1 h.1)).symm, rfl⟩

theorem spec_SignSum (A : Option Addr) (n c : Nat) (v : Nat → Int) (d : Int) (w : World) (hm : n ≤ 1048576) (f0 : Fl w A n 1 v) : Calls Try.prog 14 #[.slice A n c, .int .i64 d] w fun e w' => e = .returned (.int .i64 (sgnV n v d)) ∧ w = w' := by
  by_cases h1 : sgnB n v = true
  · by_cases h2 : inB d 0 5 = true
    · obtain ⟨s1, s2⟩ := sgnB_inv h1
      have S2 := Lib.hid s2; clear s2
      obtain ⟨b1, b2⟩ := inB_iff.1 h2
      obtain ⟨D, rfl⟩ : ∃ D : Nat, d = D := ⟨d.toNat, by omega⟩
      go_enter Try.func14, Try.ntmps14
      go_wp2_with (first | (go_at_call 29; (with_reducible refine (spec_l27Signs A n c v _ hm f0).mono ?_); rintro _ _ ⟨rfl, rfl⟩) | (go_at_call 26; (with_reducible refine (l01In_any _ _ _ _).mono ?_); rintro _ _ ⟨rfl, rfl⟩) | (go_at_call 30; (with_reducible refine (spec_l27Sum A n c D v _ s1 (by omega) S2.out f0).mono ?_); rintro _ _ ⟨rfl, rfl⟩))
      go_ret
      exact ⟨ret_int (sgnV_in h1 h2).symm, rfl⟩
    · go_enter Try.func14, Try.ntmps14
      go_wp2_with (first | (go_at_call 29; (with_reducible refine (spec_l27Signs A n c v _ hm f0).mono ?_); rintro _ _ ⟨rfl, rfl⟩) | (go_at_call 26; (with_reducible refine (l01In_any _ _ _ _).mono ?_); rintro _ _ ⟨rfl, rfl⟩))
      go_ret
      exact ⟨ret_int (sgnV_out (fun h => h2 h.2)).symm, rfl⟩
  · go_enter Try.func14, Try.ntmps14
    go_wp2_with (first | (go_at_call 29; (with_reducible refine (spec_l27Signs A n c v _ hm f0).mono ?_); rintro _ _ ⟨rfl, rfl⟩) | (go_at_call 26; (with_reducible refine (l01In_any _ _ _ _).mono ?_); rintro _ _ ⟨rfl, rfl⟩))
    go_ret
    exact ⟨ret_int (sgnV_out (fun h => h1 h.1)).symm, rfl⟩

/-- The first number from d on, among r, at which f is not 0. -/
def elimN (f : Nat → Int) : Nat → Nat → Nat
  | 0, d => d
  | r + 1, d => if f d = 0 then elimN f r (d + 1) else d
theorem elimN_yes {f : Nat → Int} {d : Nat} (hd : d < 6) (h : f d = 0) : elimN f (6 - (d + 1)) (d + 1) = elimN f (6 - d) d := by
  obtain ⟨r, hr⟩ : ∃ r, 6 - d = r + 1 := ⟨5 - d, by omega⟩
  rw [hr, show 6 - (d + 1) = r from by omega]
  simp only [elimN, h, if_true]
theorem elimN_no {f : Nat → Int} {d : Nat} (hd : d < 6) (h : ¬ f d = 0) : elimN f (6 - d) d = d := by
  obtain ⟨r, hr⟩ : ∃ r, 6 - d = r + 1 := ⟨5 - d, by omega⟩
  rw [hr]
  simp only [elimN, h, if_false]
theorem elimN_bd (f : Nat → Int) : ∀ r d, d ≤ elimN f r d ∧ elimN f r d ≤ d + r := by
  intro r
  induction r with
  | zero => intro d; simp [elimN]
  | succ r ih =>
    intro d
    simp only [elimN]
    split
    · have := ih (d + 1); omega
    · omega
def elimV (n : Nat) (v : Nat → Int) : Int := if sgnB n v = true ∧ n ≠ 0 then (elimN (fun d => sumN (sgT v d) n) 6 0 : Nat) else 0

theorem impl_Eliminates (A : Option Addr) (n c : Nat) (v : Nat → Int) (w : World) (hm : n ≤ 1048576) (f0 : Fl w A n 1 v) : Calls Try.prog 18 #[.slice A n c] w fun e w' => e = .returned (.int .i64 (elimV n v)) ∧ w = w' := by
  by_cases h1 : sgnB n v = true
  · by_cases h2 : n = 0
    · subst h2
      go_enter Try.func18, Try.ntmps18
      go_wp2_with (first | (go_at_call 31; (with_reducible refine (impl_signsOk A _ c v _ hm f0).mono ?_); rintro _ _ ⟨rfl, rfl⟩))
      go_ret
      exact ⟨ret_int (by simp [elimV]), rfl⟩
    · obtain ⟨s1, s2⟩ := sgnB_inv h1
      have S2 := Lib.hid s2; clear s2
      have hn0 : ((n : Int) == 0) = false := by simp; omega
      go_enter Try.func18, Try.ntmps18
      go_wp2_with (first | (go_at_call 31; (with_reducible refine (impl_signsOk A n c v _ hm f0).mono ?_); rintro _ _ ⟨rfl, rfl⟩))
      go_loop [3] (fun x => ∃ d : Nat, d ≤ 6 ∧ x = .int .i64 d ∧ elimN (fun d => sumN (sgT v d) n) (6 - d) d = elimN (fun d => sumN (sgT v d) n) 6 0) (fun x => 6 - (intOf x).toNat)
      case atStart => exact ⟨0, by omega, rfl, rfl⟩
      case round =>
        obtain ⟨d, hd, rfl, hE⟩ := hrel
        have HE := Lib.hid hE; clear hE
        by_cases hd6 : d < 6
        · by_cases t : sumN (sgT v d) n = 0
          · have t1 : (sumN (sgT v d) n == 0) = true := by simp [t]
            have T := Lib.hid t; clear t
            go_wp2_with (first | (go_at_call 32; (with_reducible refine (impl_signSum A n c d v _ s1 (by omega) S2.out f0).mono ?_); rintro _ _ ⟨rfl, rfl⟩))
            go_round
            case rel => exact ⟨d + 1, by omega, by go_num, by rw [elimN_yes (f := fun d => sumN (sgT v d) n) hd6 T.out]; exact HE.out⟩
            case measure => simp [intOf]; omega
          · have t1 : (sumN (sgT v d) n == 0) = false := by simp [t]
            go_wp2_with (first | (go_at_call 32; (with_reducible refine (impl_signSum A n c d v _ s1 (by omega) S2.out f0).mono ?_); rintro _ _ ⟨rfl, rfl⟩))
            go_ret
            exact ⟨ret_int (by unfold elimV; rw [if_pos ⟨h1, h2⟩, ← HE.out, elimN_no (f := fun d => sumN (sgT v d) n) hd6 t]), rfl⟩
        · obtain rfl : d = 6 := by omega
          go_wp2
          go_ret
          exact ⟨ret_int (by unfold elimV; rw [if_pos ⟨h1, h2⟩, ← HE.out]; rfl), rfl⟩
  · go_enter Try.func18, Try.ntmps18
    go_wp2_with (first | (go_at_call 31; (with_reducible refine (impl_signsOk A n c v _ hm f0).mono ?_); rintro _ _ ⟨rfl, rfl⟩))
    go_ret
    exact ⟨ret_int (by unfold elimV; rw [if_neg (fun h => h1 h.1)]), rfl⟩

theorem spec_Eliminates (A : Option Addr) (n c : Nat) (v : Nat → Int) (w : World) (hm : n ≤ 1048576) (f0 : Fl w A n 1 v) : Calls Try.prog 17 #[.slice A n c] w fun e w' => e = .returned (.int .i64 (elimV n v)) ∧ w = w' := by
  by_cases h1 : sgnB n v = true
  · by_cases h2 : n = 0
    · subst h2
      go_enter Try.func17, Try.ntmps17
      go_wp2_with (first | (go_at_call 29; (with_reducible refine (spec_l27Signs A _ c v _ hm f0).mono ?_); rintro _ _ ⟨rfl, rfl⟩))
      go_ret
      exact ⟨ret_int (by simp [elimV]), rfl⟩
    · obtain ⟨s1, s2⟩ := sgnB_inv h1
      have S2 := Lib.hid s2; clear s2
      have hn0 : ((n : Int) == 0) = false := by simp; omega
      go_enter Try.func17, Try.ntmps17
      go_wp2_with (first | (go_at_call 29; (with_reducible refine (spec_l27Signs A n c v _ hm f0).mono ?_); rintro _ _ ⟨rfl, rfl⟩))
      go_loop [3] (fun x => ∃ d : Nat, d ≤ 6 ∧ x = .int .i64 d ∧ elimN (fun d => sumN (sgT v d) n) (6 - d) d = elimN (fun d => sumN (sgT v d) n) 6 0) (fun x => 6 - (intOf x).toNat)
      case atStart => exact ⟨0, by omega, rfl, rfl⟩
      case round =>
        obtain ⟨d, hd, rfl, hE⟩ := hrel
        have HE := Lib.hid hE; clear hE
        by_cases hd6 : d < 6
        · by_cases t : sumN (sgT v d) n = 0
          · have t1 : (sumN (sgT v d) n == 0) = true := by simp [t]
            have T := Lib.hid t; clear t
            go_wp2_with (first | (go_at_call 30; (with_reducible refine (spec_l27Sum A n c d v _ s1 (by omega) S2.out f0).mono ?_); rintro _ _ ⟨rfl, rfl⟩))
            go_round
            case rel => exact ⟨d + 1, by omega, by go_num, by rw [elimN_yes (f := fun d => sumN (sgT v d) n) hd6 T.out]; exact HE.out⟩
            case measure => simp [intOf]; omega
          · have t1 : (sumN (sgT v d) n == 0) = false := by simp [t]
            go_wp2_with (first | (go_at_call 30; (with_reducible refine (spec_l27Sum A n c d v _ s1 (by omega) S2.out f0).mono ?_); rintro _ _ ⟨rfl, rfl⟩))
            go_ret
            exact ⟨ret_int (by unfold elimV; rw [if_pos ⟨h1, h2⟩, ← HE.out, elimN_no (f := fun d => sumN (sgT v d) n) hd6 t]), rfl⟩
        · obtain rfl : d = 6 := by omega
          go_wp2
          go_ret
          exact ⟨ret_int (by unfold elimV; rw [if_pos ⟨h1, h2⟩, ← HE.out]; rfl), rfl⟩
  · go_enter Try.func17, Try.ntmps17
    go_wp2_with (first | (go_at_call 29; (with_reducible refine (spec_l27Signs A n c v _ hm f0).mono ?_); rintro _ _ ⟨rfl, rfl⟩))
    go_ret
    exact ⟨ret_int (by unfold elimV; rw [if_neg (fun h => h1 h.1)]), rfl⟩

def drT (n : Nat) (v u : Nat → Int) (k : Nat) : Int := u k * sumN (sgT v k) n
def driftV (n : Nat) (v : Nat → Int) (m : Nat) (u : Nat → Int) : Int := if sgnB n v = true ∧ m ≤ 5 ∧ allN (fun k => inB (u k) (-100) 100) m = true then sumN (drT n v u) m else 0
theorem mul_bd' {a b : Int} {x y : Nat} (ha : -(x : Int) ≤ a ∧ a ≤ x) (hb : -(y : Int) ≤ b ∧ b ≤ y) : -((x * y : Nat) : Int) ≤ a * b ∧ a * b ≤ ((x * y : Nat) : Int) := by
  have h : (a * b).natAbs ≤ x * y := by rw [Int.natAbs_mul]; exact Nat.mul_le_mul (by omega) (by omega)
  omega
theorem drT_bd {n : Nat} {v u : Nat → Int} {k : Nat} (h1 : sgnB n v = true) (hk : k ≤ 5) (h2 : inB (u k) (-100) 100 = true) : -91613283200 ≤ drT n v u k ∧ drT n v u k ≤ 91613283200 := by
  obtain ⟨s1, s2⟩ := sgnB_inv h1
  have q := sgS_bd (v := v) (d := k) s1 hk s2
  obtain ⟨b1, b2⟩ := inB_iff.1 h2
  have := mul_bd' (a := u k) (b := sumN (sgT v k) n) (x := 100) (y := 916132832) (by omega) (by omega)
  unfold drT
  omega
theorem drS_bd {n : Nat} {v u : Nat → Int} {m : Nat} (h1 : sgnB n v = true) (hm : m ≤ 5) (h2 : allN (fun k => inB (u k) (-100) 100) m = true) : -458066416000 ≤ sumN (drT n v u) m ∧ sumN (drT n v u) m ≤ 458066416000 := by
  have := sumN_bd (f := drT n v u) (n := m) (a := -91613283200) (b := 91613283200) fun k hk => drT_bd h1 (by omega) (allN_iff.1 h2 k hk)
  omega

theorem impl_DriftedSum (A A' : Option Addr) (n c m c' : Nat) (v u : Nat → Int) (w : World) (hm : n ≤ 1048576) (hm' : m ≤ 1048576) (f0 : Fl w A n 1 v) (f1 : Fl w A' m 1 u) :
    Calls Try.prog 20 #[.slice A n c, .slice A' m c'] w fun e w' => e = .returned (.int .i64 (driftV n v m u)) ∧ w = w' := by
  by_cases h1 : sgnB n v = true
  · by_cases h2 : m ≤ 5
    · obtain ⟨s1, s2⟩ := sgnB_inv h1
      have S2 := Lib.hid s2; clear s2
      go_enter Try.func20, Try.ntmps20
      go_wp2_with (first | (go_at_call 31; (with_reducible refine (impl_signsOk A n c v _ hm f0).mono ?_); rintro _ _ ⟨rfl, rfl⟩))
      go_loop [5, 18] (fun a x => ∃ k : Nat, k ≤ m ∧ a = .int .i64 (sumN (drT n v u) k) ∧ x = .int .i64 k ∧ allN (fun k => inB (u k) (-100) 100) k = true) (fun _ x => m - (intOf x).toNat)
      case atStart => exact ⟨0, Nat.zero_le _, rfl, rfl, rfl⟩
      case round =>
        obtain ⟨k, hk, rfl, rfl, hs⟩ := hrel
        by_cases hkm : k < m
        · obtain ⟨b, off, rfl, hc⟩ := f1 (by omega)
          have c0 : w.cell? ⟨b, off + k, none⟩ = _ := hc k (by omega)
          clear f1 hc
          by_cases t : inB (u k) (-100) 100 = true
          · have q1 : -91613283200 ≤ u k * sumN (sgT v k) n ∧ u k * sumN (sgT v k) n ≤ 91613283200 := drT_bd h1 (by omega) t
            have q2 := drS_bd (v := v) h1 (by omega) hs
            have T : allN (fun k => inB (u k) (-100) 100) (k + 1) = true := by simp only [allN, hs, t, Bool.and_true]
            have HT := Lib.hid T; clear T
            go_wp2_with (first | (go_at_call 27; (with_reducible refine (in_any _ _ _ _).mono ?_); rintro _ _ ⟨rfl, rfl⟩) | (go_at_call 32; (with_reducible refine (impl_signSum A n c k v _ s1 (by omega) S2.out f0).mono ?_); rintro _ _ ⟨rfl, rfl⟩))
            go_round
            case rel => exact ⟨k + 1, by omega, rfl, by go_num, HT.out⟩
            case measure => simp [intOf]; omega
          · go_wp2_with (first | (go_at_call 27; (with_reducible refine (in_any _ _ _ _).mono ?_); rintro _ _ ⟨rfl, rfl⟩))
            go_ret
            exact ⟨ret_int (by unfold driftV; rw [if_neg (fun h => t (allN_iff.1 h.2.2 k hkm))]), rfl⟩
        · obtain rfl : k = m := by omega
          go_wp2
          go_ret
          exact ⟨ret_int (by unfold driftV; rw [if_pos ⟨h1, h2, hs⟩]), rfl⟩
    · go_enter Try.func20, Try.ntmps20
      go_wp2_with (first | (go_at_call 31; (with_reducible refine (impl_signsOk A n c v _ hm f0).mono ?_); rintro _ _ ⟨rfl, rfl⟩))
      go_ret
      exact ⟨ret_int (by unfold driftV; rw [if_neg (fun h => h2 h.2.1)]), rfl⟩
  · go_enter Try.func20, Try.ntmps20
    go_wp2_with (first | (go_at_call 31; (with_reducible refine (impl_signsOk A n c v _ hm f0).mono ?_); rintro _ _ ⟨rfl, rfl⟩))
    go_ret
    exact ⟨ret_int (by unfold driftV; rw [if_neg (fun h => h1 h.1)]), rfl⟩

theorem spec_DriftedSum (A A' : Option Addr) (n c m c' : Nat) (v u : Nat → Int) (w : World) (hm : n ≤ 1048576) (hm' : m ≤ 1048576) (f0 : Fl w A n 1 v) (f1 : Fl w A' m 1 u) :
    Calls Try.prog 19 #[.slice A n c, .slice A' m c'] w fun e w' => e = .returned (.int .i64 (driftV n v m u)) ∧ Below w.heap.size w w' := by
  go_enter Try.func19, Try.ntmps19
  go_wp2_with fail
  go_loopw [5, 6] (fun a x wr => ∃ k : Nat, k ≤ m ∧ a = .int .i64 (sumN (drT n v u) k) ∧ x = .int .i64 k ∧ allN (fun k => inB (u k) (-100) 100) k = true ∧ (0 < k → m ≤ 5 ∧ sgnB n v = true) ∧ Below w.heap.size w wr) (fun _ x _ => m - (intOf x).toNat)
  case atStart => exact ⟨0, Nat.zero_le _, rfl, rfl, rfl, fun h => absurd h (by omega), Below.refl _ _⟩
  case round =>
    obtain ⟨k, hk, rfl, rfl, hs, hg, hB⟩ := hrel
    have HG := Lib.hid hg; clear hg
    by_cases hkm : k < m
    · have F0 := f0.below hB
      obtain ⟨b, off, rfl, hc⟩ := (f1.below hB) (by omega)
      have c0 : wr.cell? ⟨b, off + k, none⟩ = _ := hc k (by omega)
      clear hc
      by_cases t : inB (u k) (-100) 100 = true
      · by_cases h2 : m ≤ 5
        · by_cases h1 : sgnB n v = true
          · obtain ⟨s1, s2⟩ := sgnB_inv h1
            have S2 := Lib.hid s2; clear s2
            have q1 : -91613283200 ≤ u k * sumN (sgT v k) n ∧ u k * sumN (sgT v k) n ≤ 91613283200 := drT_bd h1 (by omega) t
            have q2 := drS_bd (v := v) h1 (by omega) hs
            have T : allN (fun k => inB (u k) (-100) 100) (k + 1) = true := by simp only [allN, hs, t, Bool.and_true]
            have HT := Lib.hid T; clear T
            go_wp2_with (first | (go_at_call 26; (with_reducible refine (l01In_any _ _ _ _).mono ?_); rintro _ _ ⟨rfl, rfl⟩) | (go_at_call 29; (with_reducible refine (spec_l27Signs A n c v _ hm F0).mono ?_); rintro _ _ ⟨rfl, rfl⟩))
            (have Ec0 := ext_cell c0; refine calm_lit (by kernel_rfl) (by kernel_rfl) ?_; (repeat (first | go_big_quiet_step ((go_at_call 30; exact calm_same (spec_l27Sum A n c k v _ s1 (by omega) S2.out (F0.below (ext_below _ _))))) | simp only [TF])); refine wpQuiet_nil ?_; intro w1 hb; clear Ec0; replace c0 := below_cell hb c0; replace hB := below_step hB hb; clear hb)
            go_wp2
            go_roundw
            case rel => exact ⟨k + 1, by omega, rfl, by go_num, HT.out, fun _ => ⟨h2, h1⟩, hB⟩
            case measure => simp [intOf]; omega
          · go_wp2_with (first | (go_at_call 26; (with_reducible refine (l01In_any _ _ _ _).mono ?_); rintro _ _ ⟨rfl, rfl⟩) | (go_at_call 29; (with_reducible refine (spec_l27Signs A n c v _ hm F0).mono ?_); rintro _ _ ⟨rfl, rfl⟩))
            go_ret
            exact ⟨ret_int (by unfold driftV; rw [if_neg (fun h => h1 h.1)]), hB⟩
        · go_wp2_with (first | (go_at_call 26; (with_reducible refine (l01In_any _ _ _ _).mono ?_); rintro _ _ ⟨rfl, rfl⟩))
          go_ret
          exact ⟨ret_int (by unfold driftV; rw [if_neg (fun h => h2 h.2.1)]), hB⟩
      · go_wp2_with (first | (go_at_call 26; (with_reducible refine (l01In_any _ _ _ _).mono ?_); rintro _ _ ⟨rfl, rfl⟩))
        go_ret
        exact ⟨ret_int (by unfold driftV; rw [if_neg (fun h => t (allN_iff.1 h.2.2 k hkm))]), hB⟩
    · obtain rfl : k = m := by omega
      go_wp2
      go_ret
      refine ⟨ret_int ?_, hB⟩
      unfold driftV
      rcases Nat.eq_zero_or_pos k with h0 | h0
      · subst h0; simp [sumN]
      · rw [if_pos ⟨(HG.out h0).2, (HG.out h0).1, hs⟩]
end Go.Proofs.Ytmgfejdgjfldfaa
