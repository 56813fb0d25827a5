/- The contract of ReadDesign, for a design and values that are in order. -/
import Derived.Test.YtmnmnkenboejpaaDrawP
namespace Go.Proofs.Ytmnmnkenboejpaa
open Go.RowKit
set_option linter.unusedSimpArgs false
set_option linter.unusedVariables false
set_option maxHeartbeats 4000000
set_option maxRecDepth 100000 in
theorem impl_Read (A B : Option Addr) (c d m : Nat) (L : List (List Int)) (x : Nat → Int) (w : World) (hd : desB L = true) (hm : (L.getD 0 []).length = m) (hx : ∀ k, k < m → (x k).natAbs ≤ 1000) (f0 : Fm w A L) (f1 : Fl w B m 1 x) :
    Calls Try.prog 31 #[.slice A L.length c, .slice B m d] w fun e w' => ∃ s, e = .returned s ∧ OwnS w' w.heap.size s (rdL L x) ∧ Below w.heap.size w w' := by
  obtain ⟨⟨hL1, hL8⟩, ⟨hm1, hm4⟩, hrl, _⟩ := des_at hd
  rw [hm] at hm1 hm4 hrl
  have hDe := fun w f => impl_DesignOk A c L w (by omega) (fun r hr => by rw [hrl r hr]; omega) f
  rw [hd] at hDe
  have hres : rdL L x = (List.range L.length).map fun j => dotV (gl (L.getD j [])) x m := by unfold rdL; rw [hm]
  obtain ⟨r0, hr0⟩ : ∃ r, L[0]? = some r := ⟨_, List.getElem?_eq_getElem (by omega)⟩
  have hr0l := hrl r0 (List.mem_of_getElem? hr0)
  obtain ⟨n, hnL⟩ : ∃ l, l = L.length := ⟨_, rfl⟩
  rw [← hnL] at hL1 hL8 hDe hres ⊢
  have HNL := Lib.hid hnL
  have HF := Lib.hid f0; have HF1 := Lib.hid f1; have HX := Lib.hid hx; have HRL := Lib.hid hrl; have HRES := Lib.hid hres
  obtain ⟨b, off, rfl, hc⟩ := id f0 (by omega)
  obtain ⟨Ai, ci, c0, _⟩ := hc 0 r0 hr0
  rw [hr0l, Nat.add_zero] at c0
  have hp0 : (0 : Int) < (n : Int) := by omega
  have hmm : ((m : Int) != (m : Int)) = false := by simp
  clear f1 hx hr0 hd hm hrl hnL hres hc
  go_enter Try.func31, Try.ntmps31
  go_wp2_with fail
  with_reducible refine (hDe _ f0).mono ?_
  rintro _ _ ⟨rfl, rfl⟩
  clear hDe f0
  go_wp2_with fail
  go_loopw [24] (fun i wr => ∃ k : Nat, k ≤ m ∧ i = .int .i64 k ∧ wr = w) (fun i _ => m - (intOf i).toNat)
  case atStart => exact ⟨0, Nat.zero_le _, rfl, rfl⟩
  case round =>
    obtain ⟨k, hk, rfl, rfl⟩ := hrel
    clear c0
    by_cases hkm : k < m
    · obtain ⟨bv, ov, rfl, hc⟩ := HF1.out (by omega)
      have c0 := hc k (by omega)
      have hin : inB (x k) (-1000) 1000 = true := inB_iff.2 (by have := HX.out k hkm; omega)
      clear hc
      go_wp2_with (go_at_call 51; (with_reducible refine (in_any _ _ _ _).mono ?_); rintro _ _ ⟨rfl, rfl⟩)
      go_roundw
      case rel => exact ⟨k + 1, by omega, by go_num, trivial⟩
      case measure => simp [intOf]; omega
    · obtain rfl : k = m := by omega
      obtain ⟨w0, hw0⟩ : ∃ w0, w0 = wr := ⟨_, rfl⟩
      rw [← hw0] at HF HF1
      have HW0 := Lib.hid hw0; clear hw0
      go_wp2_with fail
      go_loopw [7, 34] (fun s i wr => ∃ j : Nat, j ≤ n ∧ i = .int .i64 j ∧ OwnS wr w0.heap.size s ((rdL L x).take j) ∧ Below w0.heap.size w0 wr) (fun _ i _ => n - (intOf i).toNat)
      case atStart => exact ⟨0, Nat.zero_le _, rfl, OwnS.nil _ _, by rw [HW0.out]; exact Below.refl _ _⟩
      case round =>
        obtain ⟨j, hj, rfl, p0, hB⟩ := hrel
        by_cases hjn : j < n
        · obtain ⟨r, hrk⟩ : ∃ r, L[j]? = some r := ⟨_, List.getElem?_eq_getElem (by have := HNL.out; omega)⟩
          have hrm : r.length = k := HRL.out r (List.mem_of_getElem? hrk)
          have htk : (rdL L x).take (j + 1) = (rdL L x).take j ++ [dotV (gl r) x k] := by
            rw [HRES.out, ← getD_of hrk]; exact take_map_range _ _ _ hjn
          have HTK := Lib.hid htk; clear htk
          obtain ⟨b', off', e', hc⟩ := (HF.out.below hB) (by have := HNL.out; omega)
          cases e'
          obtain ⟨Aj, cj, c0, f1⟩ := hc j r hrk
          rw [hrm] at c0 f1
          have fl := HF1.out.below hB
          have hP := fun w f g => impl_product Aj B k k cj d (gl r) x w (by omega) (Nat.le_refl _) f g
          obtain ⟨y, hy⟩ : ∃ y, y = dotV (gl r) x k := ⟨_, rfl⟩
          rw [← hy] at hP HTK
          have hj0 : (0 : Int) ≤ (j : Int) := Int.natCast_nonneg _
          have hj1 : (j : Int) < (n : Int) := by omega
          have P0 := Lib.hid p0; have HB := Lib.hid hB
          clear hc hrk hrm hy p0 hB
          go_wp2_with fail
          with_reducible refine (hP _ f1 fl).mono ?_
          rintro _ w1 ⟨rfl, hb⟩
          have p0 := P0.out.below hb
          have hB := below_step HB.out hb
          have htl : ((rdL L x).take j).length ≤ 1048576 := by rw [HRES.out]; simp; omega
          have hB0 := hB.size
          have hlt := fun q h => (p0.base (g := q) h).1
          have HLT := Lib.hid hlt; clear hlt
          have HB2 := Lib.hid hB
          have P1 := Lib.hid p0
          clear p0 hB f1 fl hb hP P0 HB
          go_wp2_with (at_builtin; refine push_one rfl (.tmp 38) (.tmp 42) rfl w0.heap.size _ _ y rfl rfl P1.out htl hB0 ?_; intro s' w4 hown hgrow; have HG := Lib.hid hgrow; clear hgrow; have HW := Lib.hid hown; clear hown)
          go_roundw
          case rel => exact ⟨j + 1, by omega, by go_num, by rw [HTK.out]; exact HW.out, HB2.out.grown HG.out hB0 HLT.out⟩
          case measure => simp [intOf]; omega
        · obtain rfl : j = n := by omega
          have htk : (rdL L x).take j = rdL L x := List.take_of_length_le (by rw [HRES.out]; simp)
          rw [htk] at p0
          have HK := Lib.hid p0; clear p0
          have HB := Lib.hid hB; clear hB
          go_wp2_with fail
          go_ret
          have e0 := HW0.out
          subst e0
          exact ⟨_, rfl, HK.out, HB.out⟩
end Go.Proofs.Ytmnmnkenboejpaa
