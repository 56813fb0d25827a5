/- The draw of ratios: its contract. -/
import Derived.Test.YtfgkglbhbdfpfaaDrawV
namespace Go.Proofs.Ytfgkglbhbdfpfaa
open Go.RowKit
set_option linter.unusedSimpArgs false
set_option linter.unusedVariables false
set_option maxHeartbeats 4000000
set_option maxRecDepth 100000 in
theorem spec_DrawRatios (A0 : Option Addr) (n k : Nat) (v0 : Nat → Int) (w : World) (hn : n ≤ 1048576) (hF : Fb w A0 n v0) : Calls Try.prog 25 #[.slice A0 n k] w fun e w' => ∃ (A : Option Addr) (m c : Nat) (v : Nat → Int) (wr : Nat),
    e = .returned (.slice A m c) ∧ (Fl w' A m 4 v ∧ m ≤ c ∧ m ≤ 8 ∧ Dr v m szF wr) ∧ Below w.heap.size w w' := by
  have HA := Lib.hid hF.lt
  have HF := Lib.hid hF; clear hF
  go_enter Try.func25, Try.ntmps25
  go_wp2_with fail
  with_reducible refine (spec_New A0 n k v0 _ hn HF.out w.heap.size (Nat.le_refl _) HA.out).mono ?_
  rintro _ w1 ⟨g, rfl, hg0, hc, hb⟩
  have hs0 := hb.size
  have hO : w.grownBy w1 (some g) := only_of_below hb
  clear hb HF HA
  go_wp2_with fail
  with_reducible refine (spec_RList _ w.heap.size g hc hs0).mono ?_
  rintro _ w2 ⟨s, m, l, wr, rfl, ⟨u0, hl, hm, hok⟩, _, hg2⟩
  have HO := Lib.hid (only_trans hO hg2)
  obtain ⟨A, c, rfl, hf, hmc⟩ := u0.out
  have HFL := Lib.hid hf
  clear hc hO hg2 u0 hf
  go_wp2_with fail
  go_ret
  have hres : Fl w2 A m 4 (fun j => l.getD j 0) ∧ m ≤ c ∧ m ≤ 8 ∧ Dr (fun j => l.getD j 0) m szF wr := ⟨HFL.out, hmc, hm, okU_dr hok (by omega)⟩
  have hbl := only_below (Below.refl _ _) HO.out hg0
  first | exact ⟨A, m, c, _, wr, rfl, hres, hbl⟩ | exact ⟨_, _, _, rfl, ⟨_, hres.1, hres.2.1, hres.2.2.1, wr, hres.2.2.2⟩, hbl⟩
end Go.Proofs.Ytfgkglbhbdfpfaa
