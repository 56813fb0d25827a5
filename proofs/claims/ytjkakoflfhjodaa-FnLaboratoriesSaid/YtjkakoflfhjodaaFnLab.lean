/- The walk of the law FnLaboratories: it returns true. No conditions. -/
import Derived.Test.YtjkakoflfhjodaaDrawL
import Derived.Test.YtjkakoflfhjodaaLabP
import Derived.Test.YtjkakoflfhjodaaApart
namespace Go.Proofs.Ytjkakoflfhjodaa
open Go.RowKit
set_option linter.unusedSimpArgs false
set_option linter.unusedVariables false
set_option maxHeartbeats 4000000
/-- x is among the first N numbers of z. -/
def hasP (z : Nat → Int) (x : Int) : Nat → Bool
  | 0 => false
  | j + 1 => hasP z x j || decide (z j = x)
theorem hasP_yes {z : Nat → Int} {x : Int} {j N : Nat} (hj : j < N) (h : z j = x) : hasP z x N = true := by
  induction N with
  | zero => omega
  | succ N ih =>
    rcases Nat.lt_or_ge j N with h1 | h1
    · simp [hasP, ih h1]
    · obtain rfl : j = N := by omega
      simp [hasP, h]
theorem hasP_iff {z : Nat → Int} {x : Int} : ∀ {N : Nat}, hasP z x N = true ↔ ∃ j, j < N ∧ z j = x
  | 0 => by simp [hasP]
  | N + 1 => by
    simp only [hasP, Bool.or_eq_true, hasP_iff (N := N), decide_eq_true_eq]
    constructor
    · rintro (⟨j, h1, h2⟩ | h)
      · exact ⟨j, by omega, h2⟩
      · exact ⟨N, by omega, h⟩
    · rintro ⟨j, h1, h2⟩
      rcases Nat.lt_or_ge j N with h | h
      · exact Or.inl ⟨j, h, h2⟩
      · obtain rfl : j = N := by omega
        exact Or.inr h2
theorem hasQ_iff {l : List Int} {x : Int} : hasP (fun j => l.getD j 0) x l.length = true ↔ x ∈ l := by
  rw [hasP_iff, List.mem_iff_getElem]
  constructor
  · rintro ⟨j, h1, h2⟩
    exact ⟨j, h1, by simpa [List.getD, List.getElem?_eq_getElem h1] using h2⟩
  · rintro ⟨j, h1, h2⟩
    exact ⟨j, h1, by simpa [List.getD, List.getElem?_eq_getElem h1] using h2⟩
/-- One of the first j points lies in the span. -/
def hitB (z : Nat → Int) (lo hi : Int) : Nat → Bool
  | 0 => false
  | j + 1 => hitB z lo hi j || inB (z j) lo hi
theorem hitB_of {z : Nat → Int} {lo hi : Int} {j : Nat} (h : inB (z j) lo hi = true) : ∀ N, j < N → hitB z lo hi N = true
  | 0, h => by omega
  | N + 1, hj => by
    rcases Nat.lt_or_ge j N with h1 | h1
    · simp [hitB, hitB_of h N h1]
    · obtain rfl : j = N := by omega
      simp [hitB, h]
theorem laws_has (A : Option Addr) (N c : Nat) (z : Nat → Int) (x : Int) (w : World) (hm : N ≤ 1048576) (f0 : Fl w A N 1 z) : Calls Try.prog 35 #[.slice A N c, .int .i64 x] w fun e w' => e = .returned (.bool (hasP z x N)) ∧ w = w' := by
  go_enter Try.func35, Try.ntmps35
  go_wp2_with fail
  go_loop [5] (fun i => ∃ k : Nat, k ≤ N ∧ i = .int .i64 k ∧ hasP z x k = false) (fun i => N - (intOf i).toNat)
  case atStart => exact ⟨0, Nat.zero_le _, rfl, rfl⟩
  case round =>
    obtain ⟨k, hk, rfl, hs⟩ := hrel
    by_cases hkn : k < N
    · obtain ⟨b, off, rfl, hc⟩ := f0 (by omega)
      have c0 : w.cell? ⟨b, off + k, none⟩ = _ := hc k (by omega)
      clear f0 hc
      by_cases t1 : z k = x
      · have T : (z k == x) = true := by simp [t1]
        go_wp2
        go_ret
        exact ⟨ret_bool (hasP_yes hkn t1).symm, rfl⟩
      · have T : (z k == x) = false := by simp [t1]
        go_wp2
        go_round
        case rel => exact ⟨k + 1, by omega, by go_num, by simp [hasP, hs, t1]⟩
        case measure => simp [intOf]; omega
    · obtain rfl : k = N := by omega
      go_wp2
      go_ret
      exact ⟨ret_bool (by first | exact hs.symm | simp [hs]), rfl⟩
/-- What the law asks, in plain words. -/
theorem lab_law {m : Nat} {u : Nat → Int} (hs : spansB m u = true) (hm : 1 ≤ m) : ∃ M : Nat, moA m u = (M : Int) ∧ 1 ≤ M ∧ M ≤ m ∧ (oddL m u).length + M = m ∧ (M = m ↔ loN u m ≤ hiN u m) ∧
    (∀ k, k < m → ((k : Int) ∈ oddL m u ↔ ¬ inB (moB m u) (u (k * 2)) (u (k * 2 + 1)) = true)) := by
  obtain ⟨_, _, hv⟩ := spansB_inv hs
  have h0 : inB (u 0) (u 0) (u 1) = true := by
    have := hv 0 (by omega)
    rw [inB_iff]
    simp at this
    omega
  have h1 : 1 ≤ cnt u (u 0) m := cnt_pos (k := 0) (by simpa using h0) m (by omega)
  have hmo := mo_cnt u m m hm h1
  have hge := mo_ge u m m
  refine ⟨(mo u m m).1, by simp [moA, hs], ?_, ?_, ?_, ?_, ?_⟩
  · have := hge 0 (by omega)
    simp only [Nat.zero_mul] at this
    omega
  · rw [hmo]; exact cnt_le _ _ _
  · rw [oddL_yes hs, hmo]
    have := odd_len u (moB m u) m
    simp only [moB, hs, if_true] at this ⊢
    exact this
  · constructor
    · intro h
      rw [hmo] at h
      have ha := (cnt_all m).1 h
      obtain ⟨a, ha1, ea⟩ := loN_at u m hm
      obtain ⟨b, hb1, eb⟩ := hiN_at u m hm
      have q1 := inB_iff.1 (ha a ha1)
      have q2 := inB_iff.1 (ha b hb1)
      omega
    · intro h
      obtain ⟨a, ha1, ea⟩ := loN_at u m hm
      have q : cnt u (u (a * 2)) m = m := (cnt_all m).2 fun k hk => by
        have := loN_ge u m k hk
        have := hiN_le u m k hk
        rw [inB_iff]
        omega
      have := hge a ha1
      have := cnt_le u (mo u m m).2 m
      omega
  · intro k hk
    rw [oddL_yes hs, odd_mem]
    simp [hk]
set_option maxRecDepth 100000 in
theorem walkLabs (A : Option Addr) (n k : Nat) (v : Nat → Int) (w : World) (hm : n ≤ maxLen) (hF : Fb w A n v) : Calls Try.prog 10 #[.slice A n k] w fun e w' => e = .returned (.bool true) ∧ Below w.heap.size w w' := by
  have hs : ∀ w, _ := fun w => laws_big A n k w hm
  by_cases hn : n ≤ 1048576
  · rw [show decide (1048576 < n) = false by simp; omega] at hs
    have HF := Lib.hid hF; clear hF
    go_enter Try.func10, Try.ntmps10
    ((go_wp2_with fail); (with_reducible refine (hs _).mono ?_); rintro _ _ ⟨rfl, rfl⟩)
    go_wp2_with fail
    with_reducible refine (spec_DrawSpans A n k v _ hn HF.out).mono ?_
    rintro _ w1 ⟨A1, c1, m, l, rfl, ⟨f0, hm7, hok⟩, hb⟩
    have hB := below_step (Below.refl w.heap.size w) hb
    clear hb
    obtain ⟨u, hu⟩ : ∃ u : Nat → Int, u = fun j => l.getD j 0 := ⟨_, rfl⟩
    have hsp : spansB m u = true := by rw [hu]; exact okL_spans hok hm7
    have hspv : ∀ j, j < m → -10 ≤ u (j * 2) ∧ u (j * 2) ≤ u (j * 2 + 1) ∧ u (j * 2 + 1) ≤ 40 := by rw [hu]; exact hok
    rw [← hu] at f0
    clear hok hu
    obtain ⟨M, hM, hM1, hMm, hOL, hMi, hOM⟩ := lab_law hsp hm7.1
    have hfew : ∀ j, j < m → ∃ p ∈ fewL m u, u (j * 2) ≤ p ∧ p ≤ u (j * 2 + 1) := fun j hj => by
      rw [fewL_yes hsp]
      exact few_hits (fun k hk => (hspv k hk).2.1) 13 _ (by have := und_le (fun _ => false) m; omega) j hj rfl
    have hpr := pair_iff hsp hm7.1
    have hCo := fun w f => impl_Common A1 m c1 u w f
    have hMo := fun w f => impl_Most A1 m c1 u w f
    rw [hM] at hMo
    have hFe := fun w f => impl_Few A1 m c1 u w (by omega) f
    have hOd := fun w f => impl_Odd A1 m c1 u w (by omega) f
    have hPa := fun w f => impl_DoPairs A1 m c1 u w f
    have hAp := fun w f => impl_Apart A1 m c1 u w (by omega) f
    have hSp := fun w f => impl_SpansOk A1 m c1 u w f
    rw [hsp] at hSp
    rw [hpr] at hPa
    clear hM hpr
    have hcom : ∃ (s0 s1 : Int) (o : Bool), comV m u = .tuple #[.agg #[.int .i64 s0, .int .i64 s1], .bool o] ∧ o = decide (loN u m ≤ hiN u m) ∧ (o = true → s0 = loN u m ∧ s1 = hiN u m) := by
      by_cases h : loN u m ≤ hiN u m
      · exact ⟨_, _, _, comV_yes hsp h, by simp [h], fun _ => ⟨rfl, rfl⟩⟩
      · exact ⟨_, _, _, comV_no (fun hx => h hx.2), by simp [h], fun e => by cases e⟩
    obtain ⟨s0, s1, o, hcv, ho, hso⟩ := hcom
    simp only [hcv] at hCo
    rw [← ho] at hPa
    clear hcv
    have hoM : o = decide ((M : Int) = m) := by
      rw [ho, Bool.eq_iff_iff]
      simp only [decide_eq_true_eq]
      omega
    have hin : o = true → ∀ j, j < m → u (j * 2) ≤ s0 ∧ s1 ≤ u (j * 2 + 1) := fun h j hj => by
      obtain ⟨e0, e1⟩ := hso h
      have := loN_ge u m j hj
      have := hiN_le u m j hj
      omega
    clear hso ho hMi
    have HOE := Lib.hid hoM; clear hoM
    have hHIT : ∀ j, j < m → hitB (fun i => (fewL m u).getD i 0) (u (j * 2)) (u (j * 2 + 1)) (fewL m u).length = true := fun j hj => by
      obtain ⟨p, hp, h1, h2⟩ := hfew j hj
      obtain ⟨i, hi, e⟩ := List.mem_iff_getElem.1 hp
      exact hitB_of (j := i) (by simp [List.getD, List.getElem?_eq_getElem hi, e, inB_iff, h1, h2]) _ hi
    have hHAS : ∀ j, j < m → hasP (fun i => (oddL m u).getD i 0) j (oddL m u).length = !(inB (moB m u) (u (j * 2)) (u (j * 2 + 1))) := fun j hj => by
      rw [Bool.eq_iff_iff, hasQ_iff, hOM j hj]
      simp
    have hLp13 : (fewL m u).length ≤ 13 := by rw [fewL_yes hsp]; exact few_len _ _ _ _
    clear hOM hfew
    have HIN := Lib.hid hin; clear hin
    have HOL := Lib.hid hOL; clear hOL
    have HSPV := Lib.hid hspv; clear hspv
    clear hsp
    revert hMo hHAS
    generalize moB m u = x
    intro hMo hHAS
    ((go_wp2_with fail); (with_reducible refine (hCo _ f0).mono ?_); rintro _ w1 ⟨rfl, hb⟩; replace f0 := Fl.below f0 hb; replace hB := below_step hB hb; clear hb)
    have hb := below_alloc (Below.refl w1.heap.size w1) (.cells #[.int .i64 s0, .int .i64 s1] 30)
    have c0 : (w1.alloc (.cells #[.int .i64 s0, .int .i64 s1] 30)).cell? ⟨w1.heap.size, 0, none⟩ = some (.int .i64 s0) := by simp [go_sem]
    have c5 : (w1.alloc (.cells #[.int .i64 s0, .int .i64 s1] 30)).cell? ⟨w1.heap.size, 1, none⟩ = some (.int .i64 s1) := by simp [go_sem]
    (skip; replace f0 := Fl.below f0 hb; replace hB := below_step hB hb; clear hb)
    ((go_wp2_with fail); (with_reducible refine (hMo _ f0).mono ?_); rintro _ w1 ⟨rfl, hb⟩; replace f0 := Fl.below f0 hb; replace c0 := below_cell hb c0; replace c5 := below_cell hb c5; replace hB := below_step hB hb; clear hb)
    go_wp2_with fail
    with_reducible refine (hFe _ f0).mono ?_
    rintro _ w1 ⟨A2, d2, rfl, hA2, hb⟩
    have f1 : Fl w1 A2 (fewL m u).length 1 (fun j => (fewL m u).getD j 0) := IntRes.fl fun hl => by
      obtain ⟨q, e, _, o⟩ := hA2 hl
      exact ⟨q, e, o⟩
    (skip; replace f0 := Fl.below f0 hb; replace c0 := below_cell hb c0; replace c5 := below_cell hb c5; replace hB := below_step hB hb; clear hb)
    clear hA2
    go_wp2_with fail
    with_reducible refine (hOd _ f0).mono ?_
    rintro _ w1 ⟨A3, d3, rfl, hA3, hb⟩
    have f2 : Fl w1 A3 (oddL m u).length 1 (fun j => (oddL m u).getD j 0) := IntRes.fl fun hl => by
      obtain ⟨q, e, _, o⟩ := hA3 hl
      exact ⟨q, e, o⟩
    (skip; replace f0 := Fl.below f0 hb; replace f1 := Fl.below f1 hb; replace c0 := below_cell hb c0; replace c5 := below_cell hb c5; replace hB := below_step hB hb; clear hb)
    clear hA3
    obtain ⟨zp, hzp⟩ : ∃ zp : Nat → Int, zp = fun i => (fewL m u).getD i 0 := ⟨_, rfl⟩
    obtain ⟨zo, hzo⟩ : ∃ zo : Nat → Int, zo = fun i => (oddL m u).getD i 0 := ⟨_, rfl⟩
    rw [← hzp] at f1 hHIT
    rw [← hzo] at f2 hHAS
    clear hzp hzo
    obtain ⟨Lp, hLp⟩ : ∃ Lp, (fewL m u).length = Lp := ⟨_, rfl⟩
    obtain ⟨Lo, hLo⟩ : ∃ Lo, (oddL m u).length = Lo := ⟨_, rfl⟩
    have hol := HOL.out
    rw [hLp] at f1 hHIT hAp hLp13
    rw [hLo] at f2 hHAS hol
    simp only [hLp, hLo]
    clear hLp hLo HOL hFe hOd hCo hMo
    have HHIT := Lib.hid hHIT; clear hHIT
    have HHAS := Lib.hid hHAS; clear hHAS
    have hMe : ((M : Int) == (m : Int)) = o := by rw [HOE.out, Bool.eq_iff_iff]; simp
    have hLe : ((Lo : Int) == (m : Int) - (M : Int)) = true := by simp; omega
    have HLO := Lib.hid hol; clear hol
    have HME := Lib.hid hMe; clear hMe
    have HLE := Lib.hid hLe; clear hLe
    go_wp2_with fail
    obtain ⟨W, hW⟩ : ∃ W, W = w1 := ⟨_, rfl⟩
    rw [← hW] at f0 f1 f2 c0 c5 hB
    rw [← hW]
    clear hW
    have HB := Lib.hid hB; clear hB
    go_loopw [10, 11, 12] (fun i _ _ wr => ∃ j : Nat, j ≤ m ∧ i = .int .i64 j ∧ Below W.heap.size W wr) (fun i _ _ _ => m - (intOf i).toNat)
    case atStart => exact ⟨0, Nat.zero_le _, rfl, Below.refl _ _⟩
    case round =>
      obtain ⟨j, hj, rfl, hB⟩ := hrel
      replace f0 := f0.below hB
      replace f1 := f1.below hB
      replace f2 := f2.below hB
      replace c0 := below_cell hB c0
      replace c5 := below_cell hB c5
      by_cases hjm : j < m
      · obtain ⟨blk, off, rfl, hcs⟩ := f0 (by omega)
        have c2 := hcs (j * 2) (by omega)
        have c3 := hcs (j * 2 + 1) (by omega)
        rw [← Nat.add_assoc] at c3
        clear hcs
        obtain ⟨v1, v2, v3⟩ := HSPV.out j hjm
        have hit1 := HHIT.out j hjm
        have has1 := HHAS.out j hjm
        have hin1 := fun h => HIN.out h j hjm
        revert c2 c3 hit1 has1 hin1 v1 v2 v3
        generalize u (j * 2) = lo
        generalize u (j * 2 + 1) = hi
        intro c2 c3 v1 v2 v3 hit1 has1 hin1
        have HIT1 := Lib.hid hit1; clear hit1
        have HAS1 := Lib.hid has1; clear has1
        have hBW := hB
        cases o
        all_goals
          first
            | (obtain ⟨q1, q2⟩ := hin1 rfl
               have TF : decide (s0 < lo) = false ∧ decide (hi < s1) = false := by simp; omega)
            | skip
          clear hin1
          go_wp2_with fail
          (have Ec0 := ext_cell c0; have Ec5 := ext_cell c5; have Ec2 := ext_cell c2; have Ec3 := ext_cell c3; refine calm_lit (by kernel_rfl) (by kernel_rfl) ?_; (repeat (first | go_big_quiet_step (fail) | simp only [TF])); refine wpQuiet_nil ?_; intro w1 hb; clear Ec0 Ec5 Ec2 Ec3; replace f0 := Fl.below f0 hb; replace f1 := Fl.below f1 hb; replace f2 := Fl.below f2 hb; replace c0 := below_cell hb c0; replace c5 := below_cell hb c5; replace c2 := below_cell hb c2; replace c3 := below_cell hb c3; replace hB := below_step hB hb; clear hb)
          (try clear TF)
          go_wp2_with fail
          go_loopw [11, 12] (fun h i wr2 => ∃ q : Nat, q ≤ Lp ∧ h = .bool (hitB zp lo hi q) ∧ i = .int .i64 q ∧ Below w1.heap.size w1 wr2) (fun _ i _ => Lp - (intOf i).toNat)
          case atStart => exact ⟨0, Nat.zero_le _, rfl, rfl, Below.refl _ _⟩
          case round =>
            obtain ⟨q, hq, rfl, rfl, hb⟩ := hrel
            replace f0 := f0.below hb
            replace f1 := f1.below hb
            replace f2 := f2.below hb
            replace c2 := below_cell hb c2
            replace c3 := below_cell hb c3
            by_cases hqL : q < Lp
            · obtain ⟨b4, o4, rfl, hcs⟩ := f1 (by omega)
              have c4 := hcs q (by omega)
              clear hcs f0 f2 f1 hB
              have hB := hb
              clear hb hBW
              revert c4
              generalize hz : zp q = z
              have HZ := Lib.hid hz; clear hz
              intro c4
              cases hh : hitB zp lo hi q
              · have HH := Lib.hid hh; clear hh
                rcases (by omega : z < lo ∨ (lo ≤ z ∧ z ≤ hi) ∨ (lo ≤ z ∧ hi < z)) with t1 | ⟨t1, t2⟩ | ⟨t1, t2⟩
                · have TF : decide (lo ≤ z) = false := by simp; omega
                  go_wp2_with fail
                  (have Ec2 := ext_cell c2; have Ec3 := ext_cell c3; have Ec4 := ext_cell c4; refine calm_lit (by kernel_rfl) (by kernel_rfl) ?_; (repeat (first | go_big_quiet_step (fail) | simp only [TF])); refine wpQuiet_nil ?_; intro w1 hb; clear Ec2 Ec3 Ec4; replace c2 := below_cell hb c2; replace c3 := below_cell hb c3; replace c4 := below_cell hb c4; replace hB := below_step hB hb; clear hb)
                  go_wp2_with fail
                  go_roundw
                  case rel => exact ⟨q + 1, by omega, by simp [hitB, HH.out, HZ.out, inB] <;> omega, by go_num, hB⟩
                  case measure => simp [intOf]; omega
                · have TF : decide (lo ≤ z) = true ∧ decide (z ≤ hi) = true := by simp; omega
                  go_wp2_with fail
                  (have Ec2 := ext_cell c2; have Ec3 := ext_cell c3; have Ec4 := ext_cell c4; refine calm_lit (by kernel_rfl) (by kernel_rfl) ?_; (repeat (first | go_big_quiet_step (fail) | simp only [TF])); refine wpQuiet_nil ?_; intro w1 hb; clear Ec2 Ec3 Ec4; replace c2 := below_cell hb c2; replace c3 := below_cell hb c3; replace c4 := below_cell hb c4; replace hB := below_step hB hb; clear hb)
                  go_wp2_with fail
                  go_roundw
                  case rel => exact ⟨q + 1, by omega, by simp [hitB, HH.out, HZ.out, inB] <;> omega, by go_num, hB⟩
                  case measure => simp [intOf]; omega
                · have TF : decide (lo ≤ z) = true ∧ decide (z ≤ hi) = false := by simp; omega
                  go_wp2_with fail
                  (have Ec2 := ext_cell c2; have Ec3 := ext_cell c3; have Ec4 := ext_cell c4; refine calm_lit (by kernel_rfl) (by kernel_rfl) ?_; (repeat (first | go_big_quiet_step (fail) | simp only [TF])); refine wpQuiet_nil ?_; intro w1 hb; clear Ec2 Ec3 Ec4; replace c2 := below_cell hb c2; replace c3 := below_cell hb c3; replace c4 := below_cell hb c4; replace hB := below_step hB hb; clear hb)
                  go_wp2_with fail
                  go_roundw
                  case rel => exact ⟨q + 1, by omega, by simp [hitB, HH.out, HZ.out, inB] <;> omega, by go_num, hB⟩
                  case measure => simp [intOf]; omega
              · have HH := Lib.hid hh; clear hh
                go_wp2_with fail
                (have Ec2 := ext_cell c2; have Ec3 := ext_cell c3; have Ec4 := ext_cell c4; refine calm_lit (by kernel_rfl) (by kernel_rfl) ?_; (repeat (first | go_big_quiet_step (fail) | simp only [TF])); refine wpQuiet_nil ?_; intro w1 hb; clear Ec2 Ec3 Ec4; replace c2 := below_cell hb c2; replace c3 := below_cell hb c3; replace c4 := below_cell hb c4; replace hB := below_step hB hb; clear hb)
                go_wp2_with fail
                go_roundw
                case rel => exact ⟨q + 1, by omega, by simp [hitB, HH.out], by go_num, hB⟩
                case measure => simp [intOf]; omega
            · obtain rfl : Lp = q := by omega
              rw [HIT1.out]
              replace hB := below_step hB hb
              clear hb hBW f0 f1
              have EF2 := fun e => Fl.below f2 (ext_below _ e)
              have hHs := fun w f => laws_has A3 Lo d3 zo j w (by have := HLO.out; omega) f
              rw [HAS1.out] at hHs
              rcases (by omega : x < lo ∨ (lo ≤ x ∧ x ≤ hi) ∨ (lo ≤ x ∧ hi < x)) with t1 | ⟨t1, t2⟩ | ⟨t1, t2⟩
              · rw [show inB x lo hi = false by rw [inB_not]; omega] at hHs
                simp only [Bool.not_false] at hHs
                have TF : decide (lo ≤ x) = false := by simp; omega
                go_wp2_with fail
                (have Ec2 := ext_cell c2; have Ec3 := ext_cell c3; refine calm_lit (by kernel_rfl) (by kernel_rfl) ?_; (repeat (first | go_big_quiet_step ((go_at_call 35; with_reducible exact calm_same (hHs _ (EF2 _)))) | simp only [TF])); refine wpQuiet_nil ?_; intro w1 hb; clear Ec2 Ec3; replace c2 := below_cell hb c2; replace c3 := below_cell hb c3; replace hB := below_step hB hb; clear hb)
                go_wp2_with fail
                go_roundw
                case rel => exact ⟨j + 1, by omega, by go_num, hB⟩
                case measure => simp [intOf]; omega
              · rw [show inB x lo hi = true by rw [inB_iff]; omega] at hHs
                simp only [Bool.not_true] at hHs
                have TF : decide (lo ≤ x) = true ∧ decide (x ≤ hi) = true := by simp; omega
                go_wp2_with fail
                (have Ec2 := ext_cell c2; have Ec3 := ext_cell c3; refine calm_lit (by kernel_rfl) (by kernel_rfl) ?_; (repeat (first | go_big_quiet_step ((go_at_call 35; with_reducible exact calm_same (hHs _ (EF2 _)))) | simp only [TF])); refine wpQuiet_nil ?_; intro w1 hb; clear Ec2 Ec3; replace c2 := below_cell hb c2; replace c3 := below_cell hb c3; replace hB := below_step hB hb; clear hb)
                go_wp2_with fail
                go_roundw
                case rel => exact ⟨j + 1, by omega, by go_num, hB⟩
                case measure => simp [intOf]; omega
              · rw [show inB x lo hi = false by rw [inB_not]; omega] at hHs
                simp only [Bool.not_false] at hHs
                have TF : decide (lo ≤ x) = true ∧ decide (x ≤ hi) = false := by simp; omega
                go_wp2_with fail
                (have Ec2 := ext_cell c2; have Ec3 := ext_cell c3; refine calm_lit (by kernel_rfl) (by kernel_rfl) ?_; (repeat (first | go_big_quiet_step ((go_at_call 35; with_reducible exact calm_same (hHs _ (EF2 _)))) | simp only [TF])); refine wpQuiet_nil ?_; intro w1 hb; clear Ec2 Ec3; replace c2 := below_cell hb c2; replace c3 := below_cell hb c3; replace hB := below_step hB hb; clear hb)
                go_wp2_with fail
                go_roundw
                case rel => exact ⟨j + 1, by omega, by go_num, hB⟩
                case measure => simp [intOf]; omega
      · obtain rfl : m = j := by omega
        have hMe := HME.out
        have hLe := HLE.out
        clear f1 f2
        go_wp2_with (first | (go_at_call 20; (with_reducible refine (hPa _ f0).mono ?_); rintro _ w1 ⟨rfl, hb⟩; replace f0 := Fl.below f0 hb; replace hB := below_step hB hb; clear hb) | (go_at_call 24; (with_reducible refine (hAp _ f0).mono ?_); rintro _ w1 ⟨rfl, hb⟩; replace f0 := Fl.below f0 hb; replace hB := below_step hB hb; clear hb) | (go_at_call 14; (with_reducible refine (hSp _ f0).mono ?_); rintro _ w1 ⟨rfl, hb⟩; replace f0 := Fl.below f0 hb; replace hB := below_step hB hb; clear hb))
        all_goals
          go_ret
          exact ⟨by simp, below_step HB.out hB⟩
  · rw [show decide (1048576 < n) = true by simp; omega] at hs
    have hB := Below.refl w.heap.size w
    go_enter Try.func10, Try.ntmps10
    ((go_wp2_with fail); (with_reducible refine (hs _).mono ?_); rintro _ _ ⟨rfl, rfl⟩)
    go_wp2_with fail
    go_ret
    exact ⟨rfl, hB⟩
end Go.Proofs.Ytjkakoflfhjodaa
