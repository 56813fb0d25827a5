/- The contracts of GreatestDelay: for every slice of visits, order and world, the program's function and the reference's return the same number (gdV), and leave old memory alone. Lengths of at most 2^20 alone are asked, and of the order that it holds as many as it has room for. -/
import Derived.Test.YtgmfpdnjeengoaaWays
import Derived.Test.YtgmfpdnjeengoaaVisits
import Derived.Test.YtgmfpdnjeengoaaBoo
import Derived.RegionTactic
import Derived.BigRegion
namespace Go.Proofs.Ytgmfpdnjeengoaa
open Go.RowKit
set_option linter.unusedSimpArgs false
set_option linter.unusedVariables false
set_option maxHeartbeats 1000000

def ordP (n : Nat) (z : Nat → Int) (k : Nat) : Bool := inB (z k) 0 ((n : Int) - 1) && !hasN z (z k) k
def dayN (v z : Nat → Int) : Nat → Int := sumN (fun i => v ((z i).toNat * 2 + 1))
def wsN (v z : Nat → Int) : Nat → Int
  | 0 => 0
  | k + 1 => max (wsN v z k) (dayN v z (k + 1) - v ((z k).toNat * 2))
def gdV (n : Nat) (v : Nat → Int) (N : Nat) (z : Nat → Int) : Int := if visitsB n v = true ∧ N = n ∧ allN (ordP n z) n = true then wsN v z n else -1
theorem gdV_no {n N : Nat} {v z : Nat → Int} (h : ¬ (visitsB n v = true ∧ N = n ∧ allN (ordP n z) n = true)) : gdV n v N z = -1 := if_neg h
theorem gdV_yes {n : Nat} {v z : Nat → Int} (h : visitsB n v = true) (h2 : allN (ordP n z) n = true) : gdV n v n z = wsN v z n := if_pos ⟨h, rfl, h2⟩
theorem ordP_in {n k K : Nat} {z : Nat → Int} (h : allN (ordP n z) K = true) (hk : k < K) : 0 ≤ z k ∧ z k < n := by
  have := allN_iff.1 h k hk
  simp only [ordP, Bool.and_eq_true, inB_iff] at this
  omega
theorem wsN_bd {v z : Nat → Int} {n K : Nat} (hv : ∀ k, k < n → 1 ≤ v (k * 2) ∧ v (k * 2) ≤ 1000 ∧ 1 ≤ v (k * 2 + 1) ∧ v (k * 2 + 1) ≤ 100) (hz : ∀ k, k < K → 0 ≤ z k ∧ z k < n) : 0 ≤ dayN v z K ∧ dayN v z K ≤ 100 * K ∧ 0 ≤ wsN v z K ∧ wsN v z K ≤ 100 * K := by
  have h1 : ∀ K, (∀ k, k < K → 0 ≤ z k ∧ z k < n) → 0 ≤ dayN v z K ∧ dayN v z K ≤ 100 * K := by
    intro K hz
    have := sumN_bd (f := fun i => v ((z i).toNat * 2 + 1)) (n := K) (a := 0) (b := 100) (fun i hi => by have h1 := hz i hi; have := hv (z i).toNat (by omega); omega)
    simp only [dayN]; omega
  have h2 : 0 ≤ wsN v z K ∧ wsN v z K ≤ 100 * K := by
    induction K with
    | zero => simp [wsN]
    | succ K ih =>
      have h3 := ih fun k hk => hz k (by omega)
      have h4 := h1 (K + 1) hz
      have h5 := hz K (by omega)
      have h6 := hv (z K).toNat (by omega)
      simp only [wsN]; omega
  exact ⟨(h1 K hz).1, (h1 K hz).2, h2.1, h2.2⟩

theorem impl_delay (A A' : Option Addr) (n c c' : Nat) (v z : Nat → Int) (w : World) (hv : ∀ k, k < n → 1 ≤ v (k * 2) ∧ v (k * 2) ≤ 1000 ∧ 1 ≤ v (k * 2 + 1) ∧ v (k * 2 + 1) ≤ 100) (hn : n ≤ 12) (hz : ∀ k, k < n → 0 ≤ z k ∧ z k < n) (f0 : Fl w A n 2 v) (f1 : Fl w A' n 1 z) : Calls Try.prog 55 #[.slice A n c, .slice A' n c'] w fun e w' => e = .returned (.int .i64 (wsN v z n)) ∧ w = w' := by
  have HV := Lib.hid hv
  have HZ := Lib.hid hz
  clear hv hz
  go_enter Try.func55, Try.ntmps55
  go_wp2_with fail
  go_loop [5, 6, 11] (fun a b x => ∃ k : Nat, k ≤ n ∧ x = .int .i64 k ∧ a = .int .i64 (wsN v z k) ∧ b = .int .i64 (dayN v z k)) (fun _ _ x => n - (intOf x).toNat)
  case atStart => exact ⟨0, Nat.zero_le _, rfl, rfl, rfl⟩
  case round =>
    obtain ⟨k, hk, rfl, rfl, rfl⟩ := hrel
    by_cases hkn : k < n
    · have q := wsN_bd (K := k) HV.out fun i hi => HZ.out i (by omega)
      have q2 := HZ.out k hkn
      obtain ⟨I, hI⟩ : ∃ I : Nat, z k = I := ⟨(z k).toNat, by omega⟩
      have q3 := HV.out I (by omega)
      have q4 : I < n := by omega
      obtain ⟨b, off, rfl, hc⟩ := f0 (by omega)
      obtain ⟨b1, off1, rfl, hc1⟩ := f1 (by omega)
      have c0 : w.cell? ⟨b, off + I * 2, none⟩ = _ := hc (I * 2) (by omega)
      have c1 : w.cell? ⟨b, off + I * 2 + 1, none⟩ = _ := hc (I * 2 + 1) (by omega)
      have c2 : w.cell? ⟨b1, off1 + k, none⟩ = _ := hc1 k (by omega)
      have e2 : dayN v z (k + 1) = dayN v z k + v (I * 2 + 1) := by simp only [dayN, sumN, hI]; rfl
      have e3 : wsN v z (k + 1) = max (wsN v z k) (dayN v z (k + 1) - v (I * 2)) := by simp only [wsN, hI]; rfl
      rw [hI] at c2
      clear hc hc1 f0 f1 hI q2
      by_cases t : wsN v z k < dayN v z k + v (I * 2 + 1) - v (I * 2)
      · have e4 := Lib.hid (show wsN v z (k + 1) = dayN v z k + v (I * 2 + 1) - v (I * 2) from by omega)
        have e5 := Lib.hid e2
        clear e2 e3
        go_wp2
        go_round
        case rel => exact ⟨k + 1, by omega, by go_num, by rw [e4.out], by rw [e5.out]⟩
        case measure => simp [intOf]; omega
      · have e4 := Lib.hid (show wsN v z (k + 1) = wsN v z k from by omega)
        have e5 := Lib.hid e2
        clear e2 e3
        go_wp2
        go_round
        case rel => exact ⟨k + 1, by omega, by go_num, by rw [e4.out], by rw [e5.out]⟩
        case measure => simp [intOf]; omega
    · obtain rfl : n = k := by omega
      go_wp2
      go_ret
      exact ⟨rfl, rfl⟩

theorem infoBool : (Try.prog.info? 4).map (fun i => (i.zero, i.size, i.bytes)) = some (some (.bool false), 1, 1) := by kernel_rfl
theorem ordP_no1 {n k : Nat} {z : Nat → Int} (h : ¬ inB (z k) 0 ((n : Int) - 1) = true) : ordP n z k = false := by simp [ordP, h]
theorem ordP_no2 {n k : Nat} {z : Nat → Int} (h : hasN z (z k) k = true) : ordP n z k = false := by simp [ordP, h]
theorem gdV_at {n k : Nat} {v z : Nat → Int} (hk : k < n) (h : ordP n z k = false) : gdV n v n z = -1 := gdV_no (fun h2 => by rw [allN_no hk h] at h2; exact absurd h2.2.2 (by simp))

theorem impl_Delay (A A' : Option Addr) (n c N c' : Nat) (v z : Nat → Int) (w : World) (hm : n ≤ 1048576) (hm2 : N ≤ 1048576) (f0 : Fl w A n 2 v) (f1 : Fl w A' N 1 z) : Calls Try.prog 41 #[.slice A n c, .slice A' N c'] w fun e w' => e = .returned (.int .i64 (gdV n v N z)) ∧ Below w.heap.size w w' := by
  have hB := Below.refl w.heap.size w
  have hS : ∀ w, _ := fun w => impl_VisitsOk A n c v w hm
  by_cases hs : visitsB n v = true
  · have hI := visitsB_inv hs
    by_cases hN : N = n
    · subst hN
      have hY := Lib.hid (gdV_yes (z := z) hs)
      have HV := Lib.hid hI.2
      have h12 := hI.1
      clear hI
      have hmk := fun W => run_make_rowN (P := Try.prog) 70 4 _ _ _ Try.underlying70 infoBool .i64 .i64 N (by omega) (by omega) W
      simp only [hs] at hS
      have HS := Lib.hid hS; clear hS hs
      have tn : ((N : Int) != (N : Int)) = false := by simp
      go_enter Try.func41, Try.ntmps41
      ((go_wp2_with fail); (with_reducible refine (HS.out _ f0).mono ?_); rintro _ w1 ⟨rfl, hb⟩; replace f0 := Fl.below f0 hb; replace f1 := Fl.below f1 hb; replace hB := below_step hB hb; clear hb)
      go_wp2_with fail
      have q0 : OwnB (w1.alloc (.cells (madeCells #[.bool false] N) 4)) w1.heap.size 4 N (fun _ => false) := own_madeB (by decide) (by intro i hi; match i, hi with | 0, _ => rfl)
      have hb := below_alloc (Below.refl w1.heap.size w1) (.cells (madeCells #[.bool false] N) 4)
      have hz := hB.size
      replace hB := below_step hB hb
      clear hb
      have hF0 := Lib.hid (And.intro f0 f1)
      clear f0 f1
      have hB1 : Below w1.heap.size w1 (w1.alloc (.cells (madeCells #[.bool false] N) 4)) := below_alloc (Below.refl _ _) _
      revert q0 hB hB1
      generalize w1.alloc (.cells (madeCells #[.bool false] N) 4) = W
      intro q0 hB hB1
      go_loopw [23] (fun x wr => ∃ k : Nat, k ≤ N ∧ x = .int .i64 k ∧ allN (ordP N z) k = true ∧ OwnB wr w1.heap.size 4 N (fun j => hasN z j k) ∧ Below w.heap.size w wr ∧ Below w1.heap.size w1 wr) (fun x _ => N - (intOf x).toNat)
      case atStart => exact ⟨0, Nat.zero_le _, rfl, rfl, q0.congr (fun j _ => by simp [hasN]), hB, hB1⟩
      case round =>
        clear q0 hB hB1
        obtain ⟨k, hk, rfl, ha, q0, hB, hB1⟩ := hrel
        have f0 := hF0.out.1.below hB1
        have f1 := hF0.out.2.below hB1
        by_cases hkn : k < N
        · obtain ⟨b1, off1, rfl, hc1⟩ := f1 (by omega)
          have c2 : wr.cell? ⟨b1, off1 + k, none⟩ = _ := hc1 k (by omega)
          clear hc1
          by_cases t1 : inB (z k) 0 ((N : Int) - 1) = true
          · have t1' := inB_iff.1 t1
            obtain ⟨I, hI⟩ : ∃ I : Nat, z k = I := ⟨(z k).toNat, by omega⟩
            have hIN : I < N := by omega
            have c3 := q0.cell hIN
            have z3 := q0.frozen I
            by_cases t2 : hasN z I k = true
            · have e1 := Lib.hid (gdV_at (v := v) hkn (ordP_no2 (n := N) (z := z) (by rw [hI]; exact t2)))
              rw [t2] at c3
              rw [hI] at c2 t1
              clear t2 hI
              go_wp2_with (go_at_call 44; (with_reducible refine (in_any _ _ _ _).mono ?_); rintro _ _ ⟨rfl, rfl⟩)
              go_ret
              exact ⟨ret_int e1.out.symm, hB⟩
            · have e1 := Lib.hid (show allN (ordP N z) (k + 1) = true from by simp [allN, ha, ordP, hI]; exact ⟨by rw [← hI]; exact t1, by simpa using t2⟩)
              have e2 := Lib.hid (fun j (hj : j < N) => show (if j = I then true else hasN z j k) = hasN z j (k + 1) from by
                simp only [hasN, hI]
                by_cases e3 : j = I
                · simp [e3]
                · rw [if_neg e3]; have : ((I : Int) = (j : Int)) = False := by simp; omega
                  simp [this])
              have t2' : hasN z I k = false := by simpa using t2
              rw [t2'] at c3
              rw [hI] at c2 t1
              clear t2 hI t2'
              go_wp2_with (go_at_call 44; (with_reducible refine (in_any _ _ _ _).mono ?_); rintro _ _ ⟨rfl, rfl⟩)
              go_roundw
              case rel => exact ⟨k + 1, by omega, by go_num, e1.out, (q0.set I true).congr e2.out, hB.setCell (p := ⟨w1.heap.size, I, none⟩) hz _, hB1.setCell (p := ⟨w1.heap.size, I, none⟩) (Nat.le_refl _) _⟩
              case measure => simp [intOf]; omega
          · have e1 := Lib.hid (gdV_at (v := v) hkn (ordP_no1 t1))
            go_wp2_with (go_at_call 44; (with_reducible refine (in_any _ _ _ _).mono ?_); rintro _ _ ⟨rfl, rfl⟩)
            go_ret
            exact ⟨ret_int e1.out.symm, hB⟩
        · obtain rfl : N = k := by omega
          have e1 := Lib.hid (hY.out ha)
          go_wp2_with (go_at_call 55; (with_reducible refine (impl_delay _ _ N _ _ v z _ HV.out h12 (fun k hk => ordP_in ha hk) f0 f1).mono ?_); rintro _ _ ⟨rfl, rfl⟩)
          go_ret
          exact ⟨ret_int e1.out.symm, hB⟩
    · have e1 := Lib.hid (gdV_no (v := v) (z := z) (n := n) (N := N) (fun h => hN h.2.1))
      have tn : ((N : Int) != (n : Int)) = true := by simp; omega
      simp only [hs] at hS
      have HS := Lib.hid hS; clear hS hs
      go_enter Try.func41, Try.ntmps41
      ((go_wp2_with fail); (with_reducible refine (HS.out _ f0).mono ?_); rintro _ w1 ⟨rfl, hb⟩; replace hB := below_step hB hb; clear hb)
      go_wp2_with fail
      go_ret
      exact ⟨ret_int e1.out.symm, hB⟩
  · have e1 := Lib.hid (gdV_no (v := v) (z := z) (n := n) (N := N) (fun h => hs h.1))
    have e0 : visitsB n v = false := by simpa using hs
    simp only [e0] at hS
    have HS := Lib.hid hS; clear hS hs e0
    go_enter Try.func41, Try.ntmps41
    ((go_wp2_with fail); (with_reducible refine (HS.out _ f0).mono ?_); rintro _ w1 ⟨rfl, hb⟩; replace hB := below_step hB hb; clear hb)
    go_wp2_with fail
    go_ret
    exact ⟨ret_int e1.out.symm, hB⟩

theorem spec_Delay (A A' : Option Addr) (n c N : Nat) (v z : Nat → Int) (w : World) (hm : n ≤ 1048576) (hm2 : N ≤ 1048576) (f0 : Fl w A n 2 v) (f1 : Fl w A' N 1 z) : Calls Try.prog 39 #[.slice A n c, .slice A' N N] w fun e w' => e = .returned (.int .i64 (gdV n v N z)) ∧ Below w.heap.size w w' := by
  have hB := Below.refl w.heap.size w
  have hS : ∀ w, _ := fun w => spec_VisitsOk A n c v w hm
  by_cases hs : visitsB n v = true
  · have hI := visitsB_inv hs
    by_cases hN : N = n
    · subst hN
      have hY := Lib.hid (gdV_yes (z := z) hs)
      have HV := Lib.hid hI.2
      have h12 := hI.1
      clear hI
      simp only [hs] at hS
      have HS := Lib.hid hS; clear hS hs
      have tn : ((N : Int) != (N : Int)) = false := by simp
      go_enter Try.func39, Try.ntmps39
      ((go_wp2_with fail); (with_reducible refine (HS.out _ f0).mono ?_); rintro _ w1 ⟨rfl, hb⟩; replace f0 := Fl.below f0 hb; replace f1 := Fl.below f1 hb; replace hB := below_step hB hb; clear hb)
      go_wp2_with fail
      go_loopw [5, 6, 7] (fun a b x wr => ∃ k : Nat, k ≤ N ∧ x = .int .i64 k ∧ a = .int .i64 (dayN v z k) ∧ b = .int .i64 (wsN v z k) ∧ allN (ordP N z) k = true ∧ Fl wr A N 2 v ∧ Fl wr A' N 1 z ∧ Below w.heap.size w wr) (fun _ _ x _ => N - (intOf x).toNat)
      case atStart => exact ⟨0, Nat.zero_le _, rfl, rfl, rfl, rfl, f0, f1, hB⟩
      case round =>
        clear hB f0 f1
        obtain ⟨k, hk, rfl, rfl, rfl, ha, f0, f1, hB⟩ := hrel
        have q := wsN_bd (K := k) (v := v) (z := z) HV.out fun i hi => ordP_in ha hi
        by_cases hkn : k < N
        · obtain ⟨b1, off1, rfl, hc1⟩ := id f1 (by omega)
          have c2 : wr.cell? ⟨b1, off1 + k, none⟩ = _ := hc1 k (by omega)
          have hF : ∀ e, Fl (ext wr e) (some ⟨b1, off1, none⟩) k 1 z := fun e => Fl.below (fun _ => ⟨b1, off1, rfl, fun j hj => hc1 j (by omega)⟩) (ext_below wr e)
          have hkm : k ≤ 1048576 := by omega
          clear hc1
          by_cases t1 : inB (z k) 0 ((N : Int) - 1) = true
          · have t1' := inB_iff.1 t1
            by_cases t2 : hasN z (z k) k = true
            · have e1 := Lib.hid (gdV_at (v := v) hkn (ordP_no2 (n := N) (z := z) t2))
              go_wp2_with fail
              (have Ec2 := ext_cell c2; refine calm_lit (by kernel_rfl) (by kernel_rfl) ?_; (repeat (first | go_big_quiet_step ((first | (go_at_call 42; exact calm_same (l01In_any _ _ _ _)) | (go_at_call 48; exact calm_same (spec_l31Has _ _ _ z _ _ hkm (hF _))))) | simp only [TF])); refine wpQuiet_nil ?_; intro w1 hb; clear Ec2; replace c2 := below_cell hb c2; replace f0 := Fl.below f0 hb; replace f1 := Fl.below f1 hb; replace hB := below_step hB hb; clear hb)
              go_wp2
              go_ret
              exact ⟨ret_int e1.out.symm, hB⟩
            · have t2' : hasN z (z k) k = false := by simpa using t2
              obtain ⟨I, hI⟩ : ∃ I : Nat, z k = I := ⟨(z k).toNat, by omega⟩
              have hIN : I < N := by omega
              have q3 := HV.out I hIN
              have e1 := Lib.hid (show allN (ordP N z) (k + 1) = true from by simp [allN, ha, ordP, t1, t2'])
              have e2 : dayN v z (k + 1) = dayN v z k + v (I * 2 + 1) := by simp only [dayN, sumN, hI]; rfl
              have e3 : wsN v z (k + 1) = max (wsN v z k) (dayN v z (k + 1) - v (I * 2)) := by simp only [wsN, hI]; rfl
              obtain ⟨b, off, rfl, hc⟩ := id f0 (by omega)
              have c0 : wr.cell? ⟨b, off + I * 2, none⟩ = _ := hc (I * 2) (by omega)
              have c1 : wr.cell? ⟨b, off + I * 2 + 1, none⟩ = _ := hc (I * 2 + 1) (by omega)
              clear hc t2
              rw [hI] at c2 t1 t2'
              clear hI t1'
              by_cases t : wsN v z k < dayN v z k + v (I * 2 + 1) - v (I * 2)
              · have e4 := Lib.hid (show wsN v z (k + 1) = dayN v z k + v (I * 2 + 1) - v (I * 2) from by omega)
                have e5 := Lib.hid e2
                clear e2 e3
                go_wp2_with fail
                (have Ec2 := ext_cell c2; have Ec0 := ext_cell c0; have Ec1 := ext_cell c1; refine calm_lit (by kernel_rfl) (by kernel_rfl) ?_; (repeat (first | go_big_quiet_step ((first | (go_at_call 42; exact calm_same (l01In_any _ _ _ _)) | (go_at_call 48; exact calm_same (spec_l31Has _ _ _ z _ _ hkm (hF _))))) | simp only [TF])); refine wpQuiet_nil ?_; intro w1 hb; clear Ec2 Ec0 Ec1; replace c2 := below_cell hb c2; replace c0 := below_cell hb c0; replace c1 := below_cell hb c1; replace f0 := Fl.below f0 hb; replace f1 := Fl.below f1 hb; replace hB := below_step hB hb; clear hb)
                go_wp2
                go_roundw
                case rel => exact ⟨k + 1, by omega, by go_num, by rw [e5.out], by rw [e4.out], e1.out, f0, f1, hB⟩
                case measure => simp [intOf]; omega
              · have e4 := Lib.hid (show wsN v z (k + 1) = wsN v z k from by omega)
                have e5 := Lib.hid e2
                clear e2 e3
                go_wp2_with fail
                (have Ec2 := ext_cell c2; have Ec0 := ext_cell c0; have Ec1 := ext_cell c1; refine calm_lit (by kernel_rfl) (by kernel_rfl) ?_; (repeat (first | go_big_quiet_step ((first | (go_at_call 42; exact calm_same (l01In_any _ _ _ _)) | (go_at_call 48; exact calm_same (spec_l31Has _ _ _ z _ _ hkm (hF _))))) | simp only [TF])); refine wpQuiet_nil ?_; intro w1 hb; clear Ec2 Ec0 Ec1; replace c2 := below_cell hb c2; replace c0 := below_cell hb c0; replace c1 := below_cell hb c1; replace f0 := Fl.below f0 hb; replace f1 := Fl.below f1 hb; replace hB := below_step hB hb; clear hb)
                go_wp2
                go_roundw
                case rel => exact ⟨k + 1, by omega, by go_num, by rw [e5.out], by rw [e4.out], e1.out, f0, f1, hB⟩
                case measure => simp [intOf]; omega
          · have e1 := Lib.hid (gdV_at (v := v) hkn (ordP_no1 t1))
            go_wp2_with fail
            (have Ec2 := ext_cell c2; refine calm_lit (by kernel_rfl) (by kernel_rfl) ?_; (repeat (first | go_big_quiet_step ((first | (go_at_call 42; exact calm_same (l01In_any _ _ _ _)) | (go_at_call 48; exact calm_same (spec_l31Has _ _ _ z _ _ hkm (hF _))))) | simp only [TF])); refine wpQuiet_nil ?_; intro w1 hb; clear Ec2; replace c2 := below_cell hb c2; replace f0 := Fl.below f0 hb; replace f1 := Fl.below f1 hb; replace hB := below_step hB hb; clear hb)
            go_wp2
            go_ret
            exact ⟨ret_int e1.out.symm, hB⟩
        · obtain rfl : N = k := by omega
          have e1 := Lib.hid (hY.out ha)
          go_wp2
          go_ret
          exact ⟨ret_int e1.out.symm, hB⟩
    · have e1 := Lib.hid (gdV_no (v := v) (z := z) (n := n) (N := N) (fun h => hN h.2.1))
      have tn : ((N : Int) != (n : Int)) = true := by simp; omega
      simp only [hs] at hS
      have HS := Lib.hid hS; clear hS hs
      go_enter Try.func39, Try.ntmps39
      ((go_wp2_with fail); (with_reducible refine (HS.out _ f0).mono ?_); rintro _ w1 ⟨rfl, hb⟩; replace hB := below_step hB hb; clear hb)
      go_wp2_with fail
      go_ret
      exact ⟨ret_int e1.out.symm, hB⟩
  · have e1 := Lib.hid (gdV_no (v := v) (z := z) (n := n) (N := N) (fun h => hs h.1))
    have e0 : visitsB n v = false := by simpa using hs
    simp only [e0] at hS
    have HS := Lib.hid hS; clear hS hs e0
    go_enter Try.func39, Try.ntmps39
    ((go_wp2_with fail); (with_reducible refine (HS.out _ f0).mono ?_); rintro _ w1 ⟨rfl, hb⟩; replace hB := below_step hB hb; clear hb)
    go_wp2_with fail
    go_ret
    exact ⟨ret_int e1.out.symm, hB⟩
end Go.Proofs.Ytgmfpdnjeengoaa
