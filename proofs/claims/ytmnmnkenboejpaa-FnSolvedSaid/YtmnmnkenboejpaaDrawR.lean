/- The draw of a determined design and its readings. -/
import Derived.Test.YtmnmnkenboejpaaDrawP
namespace Go.Proofs.Ytmnmnkenboejpaa
open Go.RowKit
set_option linter.unusedSimpArgs false
set_option linter.unusedVariables false
set_option maxHeartbeats 4000000
theorem det11 : detB [[1]] = true := by kernel_rfl
set_option maxRecDepth 100000 in
theorem spec_DrawReadings (A0 : Option Addr) (n k : Nat) (v0 : Nat → Int) (w : World) (hn : n ≤ 1048576) (hF : Fb w A0 n v0) : Calls Try.prog 27 #[.slice A0 n k] w fun e w' => ∃ (A : Option Addr) (c : Nat) (L : List (List Int)) (B : Option Addr) (d : Nat) (l : List Int),
    e = .returned (.tuple #[.slice A L.length c, .slice B l.length d]) ∧ (Fm w' A L ∧ Fl w' B l.length 1 (gl l) ∧ detB L = true ∧ RdOk L l) ∧ Below w.heap.size w w' := by
  have HA := Lib.hid hF.lt
  have HF := Lib.hid hF; clear hF
  go_enter Try.func27, Try.ntmps27
  go_wp2_with fail
  with_reducible refine (spec_New A0 n k v0 _ hn HF.out w.heap.size (Nat.le_refl _) HA.out).mono ?_
  rintro _ w1 ⟨g, rfl, hg0, hc, hb⟩
  have hs0 := hb.size
  have hO : w.grownBy w1 (some g) := only_of_below hb
  clear hb HF HA
  have hgl := hc.lt
  go_wp2_with fail
  with_reducible refine (spec_Design2 _ w.heap.size g hc hs0).mono ?_
  rintro _ w2 ⟨s, L, rfl, ⟨m0, hl, N, hN1, hrl⟩, hc2, hg2⟩
  have hO2 := only_trans hO hg2
  have hs2 := hg2.size
  obtain ⟨A, c, rfl, fmg⟩ := m0.fmg hgl
  have hId := spec_IsDet A c L w2 (by omega) (fun r hr => by rw [hrl r hr]; omega) fmg.fm
  clear hc hO hg2 m0
  go_wp2_with fail
  with_reducible refine hId.mono ?_
  rintro _ w3 ⟨rfl, hb⟩
  have hc3 := hc2.below hb
  have hO3 := only_step hO2 hb
  have fmg3 := fmg.below hb
  have hs3 := hb.size
  clear hId hc2 hO2 fmg hb
  rcases Bool.eq_false_or_eq_true (detB L) with hd | hd
  · have hds : desB L = true := by unfold detB at hd; simp only [Bool.and_eq_true] at hd; exact hd.1
    have hRd := spec_RdDraw w3 w.heap.size g A c L hc3 (by omega) hds fmg3
    have F3 := Lib.hid fmg3
    have HO3 := Lib.hid hO3
    have HD := Lib.hid hd
    rw [hd]
    clear hc3 hO3 fmg3 hds hd
    go_wp2_with fail
    with_reducible refine hRd.mono ?_
    rintro _ w4 ⟨s2, l, rfl, ⟨p4, hok⟩, _, hg4⟩
    obtain ⟨B, d, rfl, fl, _⟩ := p4.out
    have F4 := Lib.hid (F3.out.only hg4).fm
    have HO4 := Lib.hid (only_trans HO3.out hg4)
    have FL := Lib.hid fl
    clear hRd p4 hg4 fl
    go_wp2_with fail
    refine bodyPost_ret (by first | (simp [results, Try.results27, go_sem]; done) | (simp [results, Try.results27, go_sem]; rfl)) rfl ?_
    exact ⟨A, c, L, B, d, l, rfl, ⟨F4.out, FL.out, HD.out, hok⟩, only_below (Below.refl _ _) HO4.out hg0⟩
  · have hba1 := below_alloc (Below.refl w3.heap.size w3) (.cells #[.int .i64 1] 3)
    have hba := below_alloc hba1 (.cells #[.slice (some ⟨w3.heap.size, 0, none⟩) 1 1] 23)
    have fmn : Fmg ((w3.alloc (.cells #[.int .i64 1] 3)).alloc (.cells #[.slice (some ⟨w3.heap.size, 0, none⟩) 1 1] 23)) g (some ⟨w3.heap.size + 1, 0, none⟩) [[1]] := fun _ => by
      refine ⟨w3.heap.size + 1, 0, rfl, by omega, fun i r hr => ?_⟩
      match i, hr with
      | 0, hr =>
        simp at hr
        subst hr
        refine ⟨some ⟨w3.heap.size, 0, none⟩, 1, by simp [go_sem], fun _ => ⟨w3.heap.size, 0, rfl, fun j hj => ?_⟩, fun b off e => by injection e with e; injection e with e; omega⟩
        have : j = 0 := by simp at hj; omega
        subst this
        simp [go_sem, gl]
    have hRd := spec_RdDraw _ w.heap.size g (some ⟨w3.heap.size + 1, 0, none⟩) 1 [[1]] (hc3.below hba) (by have := hba.size; omega) (by unfold desB; kernel_rfl) fmn
    rw [show ([[1]] : List (List Int)).length = 1 from rfl] at hRd
    have F3 := Lib.hid fmn
    have HO3 := Lib.hid (only_step hO3 hba)
    rw [hd]
    clear hc3 hO3 fmg3 hd fmn hba hba1
    go_wp2_with fail
    with_reducible refine hRd.mono ?_
    rintro _ w4 ⟨s2, l, rfl, ⟨p4, hok⟩, _, hg4⟩
    obtain ⟨B, d, rfl, fl, _⟩ := p4.out
    have F4 := Lib.hid (F3.out.only hg4).fm
    have HO4 := Lib.hid (only_trans HO3.out hg4)
    have FL := Lib.hid fl
    clear hRd p4 hg4 fl
    go_wp2_with fail
    refine bodyPost_ret (by first | (simp [results, Try.results27, go_sem]; done) | (simp [results, Try.results27, go_sem]; rfl)) rfl ?_
    exact ⟨_, 1, [[1]], B, d, l, rfl, ⟨F4.out, FL.out, det11, hok⟩, only_below (Below.refl _ _) HO4.out hg0⟩
end Go.Proofs.Ytmnmnkenboejpaa
