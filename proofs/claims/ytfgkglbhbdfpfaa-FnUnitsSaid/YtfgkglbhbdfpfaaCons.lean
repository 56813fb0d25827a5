/- IsConsistent: both contracts and the law's walk. -/
import Derived.Test.YtfgkglbhbdfpfaaConv
namespace Go.Proofs.Ytfgkglbhbdfpfaa
open Go.RowKit
set_option linter.unusedSimpArgs false
set_option linter.unusedVariables false
set_option maxHeartbeats 4000000
def fX : Value → Int
  | .tuple #[.agg #[.int _ X, .int _ _], .bool _] => X
  | _ => 0
def fY : Value → Int
  | .tuple #[.agg #[.int _ _, .int _ Y], .bool _] => Y
  | _ => 0
def fO : Value → Bool
  | .tuple #[.agg #[.int _ _, .int _ _], .bool O] => O
  | _ => false
/-- Ratio k agrees with the ones ahead of it. -/
noncomputable def conP (v : Nat → Int) (k : Nat) : Bool := !(fO (facV k v (v (k * 4)) (v (k * 4 + 1)))) || (fX (facV k v (v (k * 4)) (v (k * 4 + 1))) == v (k * 4 + 2) && fY (facV k v (v (k * 4)) (v (k * 4 + 1))) == v (k * 4 + 3))
noncomputable def conB (n : Nat) (v : Nat → Int) : Bool := ratB n v && allN (conP v) n
theorem conP_of {v : Nat → Int} {k : Nat} {X Y : Int} {O : Bool} (h : facV k v (v (k * 4)) (v (k * 4 + 1)) = .tuple #[.agg #[.int .i64 X, .int .i64 Y], .bool O]) : conP v k = (!O || (X == v (k * 4 + 2) && Y == v (k * 4 + 3))) := by
  unfold conP; rw [h]; rfl
theorem conB_no {n k : Nat} {v : Nat → Int} (hk : k < n) (h : conP v k = false) : conB n v = false := by simp [conB, allN_no hk h]
theorem Fl.less {w : World} {A : Option Addr} {n k : Nat} {v : Nat → Int} (h : Fl w A n 4 v) (hk : k ≤ n) : Fl w A k 4 v := fun h0 => by
  obtain ⟨b, off, e, hc⟩ := h (by omega)
  exact ⟨b, off, e, fun j hj => hc j (by omega)⟩
set_option maxRecDepth 100000 in
theorem impl_Cons (A : Option Addr) (n c : Nat) (v : Nat → Int) (w : World) (hm : n ≤ 1048576) (hnc : n ≤ c) (f0 : Fl w A n 4 v) : Calls Try.prog 23 #[.slice A n c] w fun e w' => e = .returned (.bool (conB n v)) ∧ Below w.heap.size w w' := by
  have hR := fun w f => impl_RatiosOk A n c v w hm f
  have HF := Lib.hid f0
  have hB := Below.refl w.heap.size w
  cases h1 : ratB n v
  · have hc : conB n v = false := by simp [conB, h1]
    rw [hc]
    simp only [h1] at hR
    clear h1 hc
    go_enter Try.func23, Try.ntmps23
    ((go_wp2_with fail); (with_reducible refine (hR _ f0).mono ?_); rintro _ w1 ⟨rfl, hb⟩; replace hB := below_step hB hb; clear hb)
    go_wp2_with fail
    go_ret
    exact ⟨rfl, hB⟩
  · have hc : conB n v = allN (conP v) n := by simp [conB, h1]
    have HC := Lib.hid hc; clear hc
    simp only [h1] at hR
    clear h1
    go_enter Try.func23, Try.ntmps23
    ((go_wp2_with fail); (with_reducible refine (hR _ f0).mono ?_); rintro _ w1 ⟨rfl, hb⟩; replace hB := below_step hB hb; clear hb)
    clear hR f0
    go_wp2_with fail
    go_loopw [12] (fun i wr => ∃ k : Nat, k ≤ n ∧ i = .int .i64 k ∧ allN (conP v) k = true ∧ Below w.heap.size w wr) (fun i _ => n - (intOf i).toNat)
    case atStart => exact ⟨0, Nat.zero_le _, rfl, rfl, hB⟩
    case round =>
      clear hB
      obtain ⟨k, hk, rfl, hall, hB⟩ := hrel
      by_cases hkn : k < n
      · have f0 := HF.out.below hB
        have f1 := f0.less hk
        have hI := fun w f => impl_FactorA A k c v (v (k * 4)) (v (k * 4 + 1)) w (by omega) f
        obtain ⟨X, Y, O, hv, _⟩ := facV_form k v (v (k * 4)) (v (k * 4 + 1))
        rw [hv] at hI
        have hcon := conP_of hv
        clear hv
        obtain ⟨b, off, rfl, hcs⟩ := f0 (by omega)
        have c0 := hcs (k * 4) (by omega)
        have c1 := hcs (k * 4 + 1) (by omega)
        have c2 := hcs (k * 4 + 2) (by omega)
        have c3 := hcs (k * 4 + 3) (by omega)
        rw [← Nat.add_assoc] at c1 c2 c3
        clear hcs f0
        have hb := below_alloc (Below.refl wr.heap.size wr) (.cells #[.int .i64 (v (k * 4)), .int .i64 (v (k * 4 + 1)), .int .i64 (v (k * 4 + 2)), .int .i64 (v (k * 4 + 3))] 46)
        have c4 : (wr.alloc (.cells #[.int .i64 (v (k * 4)), .int .i64 (v (k * 4 + 1)), .int .i64 (v (k * 4 + 2)), .int .i64 (v (k * 4 + 3))] 46)).cell? ⟨wr.heap.size, 0, none⟩ = some (.int .i64 (v (k * 4))) := by simp [go_sem]
        have c5 : (wr.alloc (.cells #[.int .i64 (v (k * 4)), .int .i64 (v (k * 4 + 1)), .int .i64 (v (k * 4 + 2)), .int .i64 (v (k * 4 + 3))] 46)).cell? ⟨wr.heap.size, 1, none⟩ = some (.int .i64 (v (k * 4 + 1))) := by simp [go_sem]
        have c6 : (wr.alloc (.cells #[.int .i64 (v (k * 4)), .int .i64 (v (k * 4 + 1)), .int .i64 (v (k * 4 + 2)), .int .i64 (v (k * 4 + 3))] 46)).cell? ⟨wr.heap.size, 2, none⟩ = some (.int .i64 (v (k * 4 + 2))) := by simp [go_sem]
        have c7 : (wr.alloc (.cells #[.int .i64 (v (k * 4)), .int .i64 (v (k * 4 + 1)), .int .i64 (v (k * 4 + 2)), .int .i64 (v (k * 4 + 3))] 46)).cell? ⟨wr.heap.size, 3, none⟩ = some (.int .i64 (v (k * 4 + 3))) := by simp [go_sem]
        have b0 : (0 : Int) ≤ (k : Int) := Int.natCast_nonneg _
        have b1 : (k : Int) ≤ (c : Int) := by omega
        have b2 : k ≤ c := by omega
        have HALL := Lib.hid hall; clear hall
        have HCON := Lib.hid hcon; clear hcon
        go_wp2_with fail
        (skip; replace c0 := below_cell hb c0; replace c1 := below_cell hb c1; replace c2 := below_cell hb c2; replace c3 := below_cell hb c3; replace f1 := Fl.below f1 hb; replace hB := below_step hB hb; clear hb)
        apply region_made
        case hm => kernel_rfl
        case hok => kernel_rfl
        case hsz => rfl
        case hal => kernel_rfl
        case H =>
          intro u hu
          have Ec4 := ext_cell (below_cell hu c4)
          have Ec5 := ext_cell (below_cell hu c5)
          have Ec6 := ext_cell (below_cell hu c6)
          have Ec7 := ext_cell (below_cell hu c7)
          have Ef1 := fun e => (Fl.below f1 hu).below (ext_below u e)
          dsimp only [List.map, tame]
          (repeat (first | go_big_quiet_step (((go_at_call 17; with_reducible exact calm_of (hI _ (Ef1 _))))) | simp only [TF]))
          exact wpQuiet_nil rfl
        case hst => simp only [storesOk, true_and, and_true]; exact ⟨_, rfl, sizeFraction, by simp [Value.oneCell']⟩
        intro G w1 hb hf hd
        simp only [madeFacts, true_and, and_true] at hf
        obtain ⟨hg5, hh5⟩ := hf
        clear hd
        dsimp only [alSlots, List.filterMap, putAll]
        have c8 : w1.cell? ⟨G 5, 0, none⟩ = some (.int .i64 X) := made_cell hh5 rfl
        have c9 : w1.cell? ⟨G 5, 1, none⟩ = some (.int .i64 Y) := made_cell hh5 rfl
        clear hh5
        generalize G 5 = g5 at *
        simp only [Act.put, List.setIfInBounds_toArray, List.set_cons_succ, List.set_cons_zero]
        (replace c4 := below_cell hb c4; replace c5 := below_cell hb c5; replace c6 := below_cell hb c6; replace c7 := below_cell hb c7; replace f1 := Fl.below f1 hb; replace hB := below_step hB hb; clear hb)
        cases O
        · go_wp2_with fail
          go_roundw
          case rel => exact ⟨k + 1, by omega, by go_num, by simp only [allN, Bool.and_eq_true]; exact ⟨HALL.out, by rw [HCON.out]; rfl⟩, hB⟩
          case measure => simp [intOf]; omega
        · by_cases t1 : X = v (k * 4 + 2)
          · by_cases t2 : Y = v (k * 4 + 3)
            · go_wp2_with fail
              go_roundw
              case rel => exact ⟨k + 1, by omega, by go_num, by simp only [allN, Bool.and_eq_true]; exact ⟨HALL.out, by rw [HCON.out]; simp [t1, t2]⟩, hB⟩
              case measure => simp [intOf]; omega
            · have hno := conB_no hkn (by rw [HCON.out]; simp [t2])
              go_wp2_with fail
              go_ret
              exact ⟨ret_bool (by rw [hno]), hB⟩
          · have hno := conB_no hkn (by rw [HCON.out]; simp [t1])
            go_wp2_with fail
            go_ret
            exact ⟨ret_bool (by rw [hno]), hB⟩
      · obtain rfl : k = n := by omega
        go_wp2_with fail
        go_ret
        exact ⟨ret_bool (by rw [HC.out, hall]), hB⟩
set_option maxRecDepth 100000 in
theorem spec_Cons (A : Option Addr) (n c : Nat) (v : Nat → Int) (w : World) (hm : n ≤ 1048576) (hnc : n ≤ c) (f0 : Fl w A n 4 v) : Calls Try.prog 22 #[.slice A n c] w fun e w' => e = .returned (.bool (conB n v)) ∧ Below w.heap.size w w' := by
  have hR := fun w f => spec_RatiosOk A n c v w hm f
  have HF := Lib.hid f0
  have hB := Below.refl w.heap.size w
  cases h1 : ratB n v
  · have hc : conB n v = false := by simp [conB, h1]
    rw [hc]
    simp only [h1] at hR
    clear h1 hc
    by_cases hn0 : 0 < n
    · go_enter Try.func22, Try.ntmps22
      go_wp2_with fail
      go_loopw [3] (fun i wr => i = .int .i64 (0 : Nat) ∧ Below w.heap.size w wr) (fun i _ => n - (intOf i).toNat)
      case atStart => exact ⟨rfl, hB⟩
      case round =>
        clear hB
        obtain ⟨rfl, hB⟩ := hrel
        replace f0 := HF.out.below hB
        ((go_wp2_with fail); (with_reducible refine (hR _ f0).mono ?_); rintro _ w1 ⟨rfl, hb⟩; replace f0 := Fl.below f0 hb; replace hB := below_step hB hb; clear hb)
        ((go_wp2_with fail); (with_reducible refine (hR _ f0).mono ?_); rintro _ w1 ⟨rfl, hb⟩; replace hB := below_step hB hb; clear hb)
        go_wp2_with fail
        go_ret
        exact ⟨rfl, hB⟩
    · obtain rfl : n = 0 := by omega
      go_enter Try.func22, Try.ntmps22
      go_wp2_with fail
      go_loopw [3] (fun i wr => i = .int .i64 (0 : Nat) ∧ Below w.heap.size w wr) (fun i _ => 0 - (intOf i).toNat)
      case atStart => exact ⟨rfl, hB⟩
      case round =>
        clear hB
        obtain ⟨rfl, hB⟩ := hrel
        replace f0 := HF.out.below hB
        ((go_wp2_with fail); (with_reducible refine (hR _ f0).mono ?_); rintro _ w1 ⟨rfl, hb⟩; replace hB := below_step hB hb; clear hb)
        go_wp2_with fail
        go_ret
        exact ⟨rfl, hB⟩
  · have hc : conB n v = allN (conP v) n := by simp [conB, h1]
    have HC := Lib.hid hc; clear hc
    simp only [h1] at hR
    clear h1
    go_enter Try.func22, Try.ntmps22
    go_wp2_with fail
    clear f0
    go_loopw [3] (fun i wr => ∃ k : Nat, k ≤ n ∧ i = .int .i64 k ∧ allN (conP v) k = true ∧ Below w.heap.size w wr) (fun i _ => n - (intOf i).toNat)
    case atStart => exact ⟨0, Nat.zero_le _, rfl, rfl, hB⟩
    case round =>
      clear hB
      obtain ⟨k, hk, rfl, hall, hB⟩ := hrel
      by_cases hkn : k < n
      · have f0 := HF.out.below hB
        ((go_wp2_with fail); (with_reducible refine (hR _ f0).mono ?_); rintro _ w1 ⟨rfl, hb⟩; replace f0 := Fl.below f0 hb; replace hB := below_step hB hb; clear hb)
        have f1 := f0.less hk
        have hI := fun w f => spec_FactorA A k c v (v (k * 4)) (v (k * 4 + 1)) w (by omega) f
        obtain ⟨X, Y, O, hv, _⟩ := facV_form k v (v (k * 4)) (v (k * 4 + 1))
        rw [hv] at hI
        have hcon := conP_of hv
        clear hv
        obtain ⟨b, off, rfl, hcs⟩ := f0 (by omega)
        have c0 := hcs (k * 4) (by omega)
        have c1 := hcs (k * 4 + 1) (by omega)
        have c2 := hcs (k * 4 + 2) (by omega)
        have c3 := hcs (k * 4 + 3) (by omega)
        rw [← Nat.add_assoc] at c1 c2 c3
        clear hcs f0
        have b0 : (0 : Int) ≤ (k : Int) := Int.natCast_nonneg _
        have b1 : (k : Int) ≤ (c : Int) := by omega
        have b2 : k ≤ c := by omega
        have b3 : (k : Int) < (n : Int) := by omega
        have HALL := Lib.hid hall; clear hall
        have HCON := Lib.hid hcon; clear hcon
        go_wp2_with fail
        apply region_made
        case hm => kernel_rfl
        case hok => kernel_rfl
        case hsz => rfl
        case hal => kernel_rfl
        case H =>
          intro u hu
          have Ec0 := ext_cell (below_cell hu c0)
          have Ec1 := ext_cell (below_cell hu c1)
          have Ec2 := ext_cell (below_cell hu c2)
          have Ec3 := ext_cell (below_cell hu c3)
          have Ef1 := fun e => (Fl.below f1 hu).below (ext_below u e)
          dsimp only [List.map, tame]
          (repeat (first | go_big_quiet_step (((go_at_call 16; with_reducible exact calm_of (hI _ (Ef1 _))))) | simp only [TF]))
          exact wpQuiet_nil rfl
        case hst => simp only [storesOk, true_and, and_true]; exact ⟨_, rfl, sizeFraction, by simp [Value.oneCell']⟩
        intro G w1 hb hf hd
        simp only [madeFacts, true_and, and_true] at hf
        obtain ⟨hg4, hh4⟩ := hf
        clear hd
        dsimp only [alSlots, List.filterMap, putAll]
        have c8 : w1.cell? ⟨G 4, 0, none⟩ = some (.int .i64 X) := made_cell hh4 rfl
        have c9 : w1.cell? ⟨G 4, 1, none⟩ = some (.int .i64 Y) := made_cell hh4 rfl
        clear hh4
        generalize G 4 = g4 at *
        simp only [Act.put, List.setIfInBounds_toArray, List.set_cons_succ, List.set_cons_zero]
        (replace c0 := below_cell hb c0; replace c1 := below_cell hb c1; replace c2 := below_cell hb c2; replace c3 := below_cell hb c3; replace f1 := Fl.below f1 hb; replace hB := below_step hB hb; clear hb)
        cases O
        · go_wp2_with fail
          (have Ec0 := ext_cell c0; have Ec1 := ext_cell c1; have Ec2 := ext_cell c2; have Ec3 := ext_cell c3; have Ec8 := ext_cell c8; have Ec9 := ext_cell c9; refine calm_lit (by kernel_rfl) (by kernel_rfl) ?_; (repeat (first | go_big_quiet_step (fail) | simp only [TF])); refine wpQuiet_nil ?_; intro w1 hb; clear Ec0 Ec1 Ec2 Ec3 Ec8 Ec9; replace c0 := below_cell hb c0; replace c1 := below_cell hb c1; replace c2 := below_cell hb c2; replace c3 := below_cell hb c3; replace c8 := below_cell hb c8; replace c9 := below_cell hb c9; replace hB := below_step hB hb; clear hb)
          go_wp2_with fail
          go_roundw
          case rel => exact ⟨k + 1, by omega, by go_num, by simp only [allN, Bool.and_eq_true]; exact ⟨HALL.out, by rw [HCON.out]; rfl⟩, hB⟩
          case measure => simp [intOf]; omega
        · by_cases t1 : X = v (k * 4 + 2)
          · by_cases t2 : Y = v (k * 4 + 3)
            · go_wp2_with fail
              (have Ec0 := ext_cell c0; have Ec1 := ext_cell c1; have Ec2 := ext_cell c2; have Ec3 := ext_cell c3; have Ec8 := ext_cell c8; have Ec9 := ext_cell c9; refine calm_lit (by kernel_rfl) (by kernel_rfl) ?_; (repeat (first | go_big_quiet_step (fail) | simp only [TF])); refine wpQuiet_nil ?_; intro w1 hb; clear Ec0 Ec1 Ec2 Ec3 Ec8 Ec9; replace c0 := below_cell hb c0; replace c1 := below_cell hb c1; replace c2 := below_cell hb c2; replace c3 := below_cell hb c3; replace c8 := below_cell hb c8; replace c9 := below_cell hb c9; replace hB := below_step hB hb; clear hb)
              go_wp2_with fail
              go_roundw
              case rel => exact ⟨k + 1, by omega, by go_num, by simp only [allN, Bool.and_eq_true]; exact ⟨HALL.out, by rw [HCON.out]; simp [t1, t2]⟩, hB⟩
              case measure => simp [intOf]; omega
            · have hno := conB_no hkn (by rw [HCON.out]; simp [t2])
              have HNO := Lib.hid hno; clear hno
              go_wp2_with fail
              (have Ec0 := ext_cell c0; have Ec1 := ext_cell c1; have Ec2 := ext_cell c2; have Ec3 := ext_cell c3; have Ec8 := ext_cell c8; have Ec9 := ext_cell c9; refine calm_lit (by kernel_rfl) (by kernel_rfl) ?_; (repeat (first | go_big_quiet_step (fail) | simp only [TF])); refine wpQuiet_nil ?_; intro w1 hb; clear Ec0 Ec1 Ec2 Ec3 Ec8 Ec9; replace c0 := below_cell hb c0; replace c1 := below_cell hb c1; replace c2 := below_cell hb c2; replace c3 := below_cell hb c3; replace c8 := below_cell hb c8; replace c9 := below_cell hb c9; replace hB := below_step hB hb; clear hb)
              go_wp2_with fail
              go_ret
              exact ⟨ret_bool (by rw [HNO.out]), hB⟩
          · have hno := conB_no hkn (by rw [HCON.out]; simp [t1])
            have HNO := Lib.hid hno; clear hno
            go_wp2_with fail
            (have Ec0 := ext_cell c0; have Ec1 := ext_cell c1; have Ec2 := ext_cell c2; have Ec3 := ext_cell c3; have Ec8 := ext_cell c8; have Ec9 := ext_cell c9; refine calm_lit (by kernel_rfl) (by kernel_rfl) ?_; (repeat (first | go_big_quiet_step (fail) | simp only [TF])); refine wpQuiet_nil ?_; intro w1 hb; clear Ec0 Ec1 Ec2 Ec3 Ec8 Ec9; replace c0 := below_cell hb c0; replace c1 := below_cell hb c1; replace c2 := below_cell hb c2; replace c3 := below_cell hb c3; replace c8 := below_cell hb c8; replace c9 := below_cell hb c9; replace hB := below_step hB hb; clear hb)
            go_wp2_with fail
            go_ret
            exact ⟨ret_bool (by rw [HNO.out]), hB⟩
      · obtain rfl : k = n := by omega
        have f0 := HF.out.below hB
        ((go_wp2_with fail); (with_reducible refine (hR _ f0).mono ?_); rintro _ w1 ⟨rfl, hb⟩; replace f0 := Fl.below f0 hb; replace hB := below_step hB hb; clear hb)
        go_wp2_with fail
        go_ret
        exact ⟨ret_bool (by rw [HC.out, hall]), hB⟩
theorem walkIsConsistent (A : Option Addr) (n c : Nat) (v : Nat → Int) (w : World) (hm : n ≤ maxLen) (f0 : Fl w A n 4 v) : Calls Try.prog 7 #[.slice A n c] w fun e w' => e = .returned (.bool true) ∧ Below w.heap.size w w' := by
  have hB := Below.refl w.heap.size w
  by_cases hn : n ≤ 1048576
  · have hs : ∀ w, _ := fun w => szRatioS_any A n c hm w
    simp only [szB_yes hn] at hs
    have hI := fun A c w f hc => impl_Cons A n c v w hn hc f
    have hS := fun A c w f hc => spec_Cons A n c v w hn hc f
    generalize conB n v = o at hI hS
    have ob : (o != o) = false := by simp
    go_enter Try.func7, Try.ntmps7
    ((go_wp2_with fail); (with_reducible refine (hs _).mono ?_); rintro _ _ ⟨rfl, rfl⟩)
    ((go_wp2_with fail); (with_reducible refine (toRatioS_any A n c v _ hn f0).mono ?_); rintro _ w1 ⟨g1, rfl, hg1, o1, hb⟩; replace f0 := Fl.below f0 hb; replace hB := below_step hB hb; clear hb)
    ((go_wp2_with fail); (with_reducible refine (hS _ n _ (o1.fl (Nat.le_refl _)) (Nat.le_refl _)).mono ?_); rintro _ w1 ⟨rfl, hb⟩; replace f0 := Fl.below f0 hb; replace hB := below_step hB hb; clear hb)
    ((go_wp2_with fail); (with_reducible refine (toRatioS_any A n c v _ hn f0).mono ?_); rintro _ w1 ⟨g1, rfl, hg1, o1, hb⟩; replace f0 := Fl.below f0 hb; replace hB := below_step hB hb; clear hb)
    ((go_wp2_with fail); (with_reducible refine (hI _ n _ (o1.fl (Nat.le_refl _)) (Nat.le_refl _)).mono ?_); rintro _ w1 ⟨rfl, hb⟩; replace f0 := Fl.below f0 hb; replace o1 := Own.below o1 hb; replace hB := below_step hB hb; clear hb)
    ((go_wp2_with fail); (with_reducible refine (toRatioS_any A n c v _ hn f0).mono ?_); rintro _ w1 ⟨g2, rfl, hg2, o2, hb⟩; replace f0 := Fl.below f0 hb; replace o1 := Own.below o1 hb; replace hB := below_step hB hb; clear hb)
    ((go_wp2_with fail); (with_reducible refine (eqRatioS_true _ _ n n n v _ hn (o1.fl (Nat.le_refl _)) (o2.fl (Nat.le_refl _))).mono ?_); rintro _ w1 ⟨rfl, hb⟩; replace hB := below_step hB hb; clear hb)
    go_wp2_with fail
    go_ret
    exact ⟨rfl, hB⟩
  · have hs : ∀ w, _ := fun w => szRatioS_any A n c hm w
    simp only [szB_no hn] at hs
    go_enter Try.func7, Try.ntmps7
    ((go_wp2_with fail); (with_reducible refine (hs _).mono ?_); rintro _ _ ⟨rfl, rfl⟩)
    go_wp2_with fail
    go_ret
    exact ⟨rfl, hB⟩
end Go.Proofs.Ytfgkglbhbdfpfaa
