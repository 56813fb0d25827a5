/- The contracts of ResidueSquares and WorstRow. -/
import Derived.Test.YtmnmnkenboejpaaResi
import Derived.WalkSpells
namespace Go.Proofs.Ytmnmnkenboejpaa
open Go.RowKit
set_option linter.unusedSimpArgs false
set_option linter.unusedVariables false
set_option maxHeartbeats 4000000
/-- The sum of the squares. -/
def sqV (L : List (List Int)) (n : Nat) (v : Nat → Int) : Int := if rdB L n v = true then dotV (gl (resV L n v)) (gl (resV L n v)) (resV L n v).length else -1
theorem res_len {L : List (List Int)} {n : Nat} {v : Nat → Int} (h : rdB L n v = true) : (resV L n v).length = n := by unfold resV; rw [if_pos h]; simp [resT]
theorem rdB_n {L : List (List Int)} {n : Nat} {v : Nat → Int} (h : rdB L n v = true) : 1 ≤ n ∧ n ≤ 8 := by
  obtain ⟨hd, e⟩ := rdB_at h
  have := (des_at hd).1
  omega
theorem res_le {L : List (List Int)} {n : Nat} {v : Nat → Int} : (resV L n v).length ≤ 8 := by
  rcases Bool.eq_false_or_eq_true (rdB L n v) with h | h
  · rw [res_len h]; exact (rdB_n h).2
  · unfold resV; rw [if_neg (by rw [h]; simp)]; simp
theorem impl_Sq (A B : Option Addr) (c d n : Nat) (L : List (List Int)) (v : Nat → Int) (w : World) (hn : L.length ≤ 1048576) (hr : ∀ r ∈ L, r.length ≤ 1048576) (hn2 : n ≤ 1048576) (f0 : Fm w A L) (f1 : Fl w B n 1 v) :
    Calls Try.prog 14 #[.slice A L.length c, .slice B n d] w fun e w' => e = .returned (.int .i64 (sqV L n v)) ∧ Below w.heap.size w w' := by
  have hRe := fun w f g => impl_Res A B c d n L v w hn hr hn2 f g
  have hle := res_le (L := L) (n := n) (v := v)
  clear hn hr hn2
  rcases Bool.eq_false_or_eq_true (rdB L n v) with ht | ht
  · have hv : sqV L n v = dotV (gl (resV L n v)) (gl (resV L n v)) (resV L n v).length := by unfold sqV; rw [if_pos ht]
    have hl := res_len ht
    have hn1 := (rdB_n ht).1
    rw [← hl] at hn1
    clear ht hl
    generalize resV L n v = l at *
    have HV := Lib.hid hv; clear hv
    have hE := fun w A n c => Lib.run_eql_slice_nil (P := Try.prog) w 23 3 A n c 0 0 Try.underlying23
    go_enter Try.func14, Try.ntmps14
    go_wp2_with fail
    with_reducible refine (hRe _ f0 f1).mono ?_
    rintro _ w1 ⟨s, rfl, o1, _, hb⟩
    obtain ⟨A1, c1, rfl, fl, _⟩ := o1.outc
    have hP := fun w f g => impl_product A1 A1 l.length l.length c1 c1 (gl l) (gl l) w (by omega) (Nat.le_refl _) f g
    obtain ⟨b, off, rfl, _⟩ := id fl (by omega)
    clear o1
    obtain ⟨k, hk⟩ : ∃ k, k = l.length := ⟨_, rfl⟩
    rw [← hk] at hP fl HV ⊢
    obtain ⟨X, hX⟩ : ∃ X, X = dotV (gl l) (gl l) k := ⟨_, rfl⟩
    rw [← hX] at hP HV
    clear hk hX
    go_wp2_with fail
    with_reducible refine (hP _ fl fl).mono ?_
    rintro _ w2 ⟨rfl, hb2⟩
    go_wp2_with fail
    go_ret
    exact ⟨ret_int (by rw [HV.out]), below_step hb hb2⟩
  · have hv : sqV L n v = -1 := by unfold sqV; rw [if_neg (by rw [ht]; simp)]
    have HV := Lib.hid hv; clear hv
    have hE := fun w A n c => Lib.run_eql_slice_nil (P := Try.prog) w 23 3 A n c 0 0 Try.underlying23
    go_enter Try.func14, Try.ntmps14
    go_wp2_with fail
    with_reducible refine (hRe _ f0 f1).mono ?_
    rintro _ w1 ⟨s, rfl, o1, h0, hb⟩
    obtain rfl := h0 ht
    go_wp2_with fail
    go_ret
    exact ⟨ret_int (by rw [HV.out]), hb⟩
theorem spec_Sq (A B : Option Addr) (c d n : Nat) (L : List (List Int)) (v : Nat → Int) (w : World) (hn : L.length ≤ 1048576) (hr : ∀ r ∈ L, r.length ≤ 1048576) (hn2 : n ≤ 1048576) (f0 : Fm w A L) (f1 : Fl w B n 1 v) :
    Calls Try.prog 11 #[.slice A L.length c, .slice B n d] w fun e w' => e = .returned (.int .i64 (sqV L n v)) ∧ Below w.heap.size w w' := by
  have hRe := fun w f g => spec_Res A B c d n L v w hn hr hn2 f g
  have hle := res_le (L := L) (n := n) (v := v)
  clear hn hr hn2
  rcases Bool.eq_false_or_eq_true (rdB L n v) with ht | ht
  · have hv : sqV L n v = dotV (gl (resV L n v)) (gl (resV L n v)) (resV L n v).length := by unfold sqV; rw [if_pos ht]
    have hl := res_len ht
    have hn1 := (rdB_n ht).1
    rw [← hl] at hn1
    clear ht hl
    generalize resV L n v = l at *
    have HV := Lib.hid hv; clear hv
    go_enter Try.func11, Try.ntmps11
    go_wp2_with fail
    with_reducible refine (hRe _ f0 f1).mono ?_
    rintro _ w1 ⟨s, rfl, o1, hb⟩
    obtain ⟨A1, c1, rfl, fl, _⟩ := o1.outc
    have hP := fun w f g => spec_product A1 A1 l.length l.length c1 c1 (gl l) (gl l) w (by omega) (Nat.le_refl _) f g
    clear o1
    obtain ⟨k, hk⟩ : ∃ k, k = l.length := ⟨_, rfl⟩
    rw [← hk] at hP fl HV hn1 ⊢
    have hk0 : ((k : Int) == 0) = false := by simp; omega
    obtain ⟨X, hX⟩ : ∃ X, X = dotV (gl l) (gl l) k := ⟨_, rfl⟩
    rw [← hX] at hP HV
    clear hk hX
    go_wp2_with fail
    with_reducible refine (hP _ fl fl).mono ?_
    rintro _ w2 ⟨rfl, hb2⟩
    go_wp2_with fail
    go_ret
    exact ⟨ret_int (by rw [HV.out]), below_step hb hb2⟩
  · have hv : sqV L n v = -1 := by unfold sqV; rw [if_neg (by rw [ht]; simp)]
    have hv2 : resV L n v = [] := by unfold resV; rw [if_neg (by rw [ht]; simp)]
    have HV := Lib.hid hv; clear hv
    rw [hv2] at hRe
    go_enter Try.func11, Try.ntmps11
    go_wp2_with fail
    with_reducible refine (hRe _ f0 f1).mono ?_
    rintro _ w1 ⟨s, rfl, o1, hb⟩
    obtain ⟨A1, c1, rfl, fl, _⟩ := o1.outc
    clear o1 hv2
    go_wp2_with fail
    go_ret
    exact ⟨ret_int (by rw [HV.out]), hb⟩
/-- The magnitude, as the machine reckons it. -/
def mxv (x : Int) : Int := if x < wrap64 (-x) then wrap64 (-x) else x
/-- The place of the greatest magnitude among the first k. -/
def wj (l : Nat → Int) : Nat → Nat
  | 0 => 0
  | k + 1 => if mxv (l (wj l k)) < mxv (l k) then k else wj l k
def wstV (l : Nat → Int) (k : Nat) : Int := if k = 0 then -1 else (wj l k : Int)
def mostV (z : Nat → Int) (j : Nat) : Int := if j = 0 then 0 else mxv (z (wj z j))
theorem wj_lt {l : Nat → Int} {k : Nat} (h : 0 < k) : wj l k < k := by
  induction k with
  | zero => omega
  | succ k ih =>
    rcases Nat.eq_zero_or_pos k with h0 | h0
    · subst h0; simp [wj]
    · have := ih h0
      simp only [wj]
      split <;> omega
set_option maxRecDepth 100000 in
theorem impl_Worst (A B : Option Addr) (c d n : Nat) (L : List (List Int)) (v : Nat → Int) (w : World) (hn : L.length ≤ 1048576) (hr : ∀ r ∈ L, r.length ≤ 1048576) (hn2 : n ≤ 1048576) (f0 : Fm w A L) (f1 : Fl w B n 1 v) :
    Calls Try.prog 18 #[.slice A L.length c, .slice B n d] w fun e w' => e = .returned (.int .i64 (wstV (gl (resV L n v)) (resV L n v).length)) ∧ Below w.heap.size w w' := by
  have hRe := fun w f g => impl_Res A B c d n L v w hn hr hn2 f g
  have hle := res_le (L := L) (n := n) (v := v)
  clear hn hr hn2
  generalize resV L n v = l at *
  obtain ⟨N, hN⟩ : ∃ N, N = l.length := ⟨_, rfl⟩
  obtain ⟨z, hz⟩ : ∃ z, z = gl l := ⟨_, rfl⟩
  rw [← hN] at hle ⊢
  rw [← hz]
  have HN := Lib.hid hN; clear hN
  have HZ := Lib.hid hz; clear hz
  go_enter Try.func18, Try.ntmps18
  go_wp2_with fail
  with_reducible refine (hRe _ f0 f1).mono ?_
  rintro _ w1 ⟨s, rfl, o1, _, hb⟩
  obtain ⟨A1, c1, rfl, fl, _⟩ := o1.outc
  clear o1 hRe f0 f1
  rw [← HN.out, ← HZ.out] at fl
  rw [← HN.out]
  have HF := Lib.hid fl; clear fl
  have HB := Lib.hid hb; clear hb
  go_wp2_with fail
  go_loopw [5, 6, 14] (fun best most i wr => ∃ j : Nat, j ≤ N ∧ i = .int .i64 j ∧ best = .int .i64 (wstV z j) ∧ most = .int .i64 (mostV z j) ∧ wr = w1) (fun _ _ i _ => N - (intOf i).toNat)
  case atStart => exact ⟨0, Nat.zero_le _, rfl, rfl, rfl, rfl⟩
  case round =>
    obtain ⟨j, hj, rfl, rfl, rfl, rfl⟩ := hrel
    by_cases hjn : j < N
    · obtain ⟨b, off, rfl, hc⟩ := HF.out (by omega)
      have c0 := hc j (by omega)
      clear hc
      have hj1 : (j : Int) < (N : Int) := by omega
      have hj0 : (0 : Int) ≤ (j : Int) := Int.natCast_nonneg _
      obtain ⟨x, hx⟩ : ∃ x, x = z j := ⟨_, rfl⟩
      rw [← hx] at c0
      rcases Nat.eq_zero_or_pos j with h0 | h0
      · have hv0 : wstV z j = -1 := by unfold wstV; rw [if_pos h0]
        have hw1 : wj z (j + 1) = j := by subst h0; simp [wj]
        rw [hv0]
        have HW := Lib.hid hw1
        have HX := Lib.hid hx
        have H0 := Lib.hid h0
        clear hx hw1 h0 hv0
        go_wp2_with fail
        go_roundw
        case rel => exact ⟨j + 1, by omega, by go_num, by simp [wstV, HW.out], by simp [mostV, HW.out, mxv, ← HX.out], trivial⟩
        case measure => simp [intOf]; omega
      · have hv0 : wstV z j = (wj z j : Int) := by unfold wstV; rw [if_neg (by omega)]
        have hlt := wj_lt (l := z) h0
        rw [hv0, show mostV z j = mxv (z (wj z j)) from if_neg (by omega)]
        have hb1 : (0 : Int) ≤ (wj z j : Int) := Int.natCast_nonneg _
        have hstep : wj z (j + 1) = if mxv (z (wj z j)) < mxv x then j else wj z j := by rw [hx]; rfl
        have hmx : mxv x = (if x < wrap64 (-x) then wrap64 (-x) else x) := rfl
        obtain ⟨K, hK⟩ : ∃ K, K = wj z j := ⟨_, rfl⟩
        obtain ⟨M, hM⟩ : ∃ M, M = mxv (z K) := ⟨_, rfl⟩
        rw [← hK] at hstep hb1 ⊢
        rw [← hM] at hstep ⊢
        have HM := Lib.hid hM; clear hM
        have HX := Lib.hid hx; clear hx
        have hKn : ¬ ((K : Int) < 0) := by omega
        by_cases hgt : M < (if x < wrap64 (-x) then wrap64 (-x) else x)
        · have HS := Lib.hid (show wj z (j + 1) = j by rw [hstep, hmx, if_pos hgt])
          clear hstep hK hv0 hmx
          go_wp2_with fail
          go_roundw
          case rel => exact ⟨j + 1, by omega, by go_num, by simp [wstV, HS.out], by simp [mostV, HS.out, ← HX.out, mxv], trivial⟩
          case measure => simp [intOf]; omega
        · have HS := Lib.hid (show wj z (j + 1) = K by rw [hstep, hmx, if_neg hgt])
          clear hstep hK hv0 hmx
          go_wp2_with fail
          go_roundw
          case rel => exact ⟨j + 1, by omega, by go_num, by simp [wstV, HS.out], by simp [mostV, HS.out, HM.out], trivial⟩
          case measure => simp [intOf]; omega
    · obtain rfl : j = N := by omega
      go_wp2_with fail
      go_ret
      exact ⟨rfl, HB.out⟩
set_option maxRecDepth 100000 in
theorem spec_Worst (A B : Option Addr) (c d n : Nat) (L : List (List Int)) (v : Nat → Int) (w : World) (hn : L.length ≤ 1048576) (hr : ∀ r ∈ L, r.length ≤ 1048576) (hn2 : n ≤ 1048576) (f0 : Fm w A L) (f1 : Fl w B n 1 v) :
    Calls Try.prog 17 #[.slice A L.length c, .slice B n d] w fun e w' => e = .returned (.int .i64 (wstV (gl (resV L n v)) (resV L n v).length)) ∧ Below w.heap.size w w' := by
  have hRe := fun w f g => spec_Res A B c d n L v w hn hr hn2 f g
  have hle := res_le (L := L) (n := n) (v := v)
  clear hn hr hn2
  generalize resV L n v = l at *
  obtain ⟨N, hN⟩ : ∃ N, N = l.length := ⟨_, rfl⟩
  obtain ⟨z, hz⟩ : ∃ z, z = gl l := ⟨_, rfl⟩
  rw [← hN] at hle ⊢
  rw [← hz]
  have HN := Lib.hid hN; clear hN
  have HZ := Lib.hid hz; clear hz
  go_enter Try.func17, Try.ntmps17
  go_wp2_with fail
  with_reducible refine (hRe _ f0 f1).mono ?_
  rintro _ w1 ⟨s, rfl, o1, hb⟩
  obtain ⟨A1, c1, rfl, fl, _⟩ := o1.outc
  clear o1 hRe f0 f1
  rw [← HN.out, ← HZ.out] at fl
  rw [← HN.out]
  have HF := Lib.hid fl; clear fl
  have HB := Lib.hid hb; clear hb
  go_wp2_with fail
  go_loopw [6, 7] (fun best i wr => ∃ j : Nat, j ≤ N ∧ i = .int .i64 j ∧ best = .int .i64 (wstV z j) ∧ Below w.heap.size w wr ∧ Fl wr A1 N 1 z) (fun _ i _ => N - (intOf i).toNat)
  case atStart => exact ⟨0, Nat.zero_le _, rfl, rfl, HB.out, HF.out⟩
  case round =>
    clear HB HF
    obtain ⟨j, hj, rfl, rfl, hB, f2⟩ := hrel
    by_cases hjn : j < N
    · obtain ⟨b, off, rfl, hc⟩ := id f2 (by omega)
      have c0 := hc j (by omega)
      have hj1 : (j : Int) < (N : Int) := by omega
      have hj0 : (0 : Int) ≤ (j : Int) := Int.natCast_nonneg _
      obtain ⟨x, hx⟩ : ∃ x, x = z j := ⟨_, rfl⟩
      rw [← hx] at c0
      rcases Nat.eq_zero_or_pos j with h0 | h0
      · have hv0 : wstV z j = -1 := by unfold wstV; rw [if_pos h0]
        have hw1 : wj z (j + 1) = j := by subst h0; simp [wj]
        rw [hv0]
        have HW := Lib.hid hw1
        clear hx hw1 h0 hv0 hc
        go_wp2_with fail
        (have Ec0 := ext_cell c0; refine calm_lit (by kernel_rfl) (by kernel_rfl) ?_; (repeat (first | go_big_quiet_step (fail) | simp only [TF])); refine wpQuiet_nil ?_; intro w1 hb; clear Ec0; replace c0 := below_cell hb c0; replace f2 := Fl.below f2 hb; replace hB := below_step hB hb; clear hb)
        go_wp2_with fail
        go_roundw
        case rel => exact ⟨j + 1, by omega, by go_num, by simp [wstV, HW.out], hB, f2⟩
        case measure => simp [intOf]; omega
      · have hv0 : wstV z j = (wj z j : Int) := by unfold wstV; rw [if_neg (by omega)]
        have hlt := wj_lt (l := z) h0
        have c1 := hc (wj z j) (by omega)
        rw [hv0]
        have hb1 : (0 : Int) ≤ (wj z j : Int) := Int.natCast_nonneg _
        have hstep : wj z (j + 1) = if mxv (z (wj z j)) < mxv x then j else wj z j := by rw [hx]; rfl
        have hmx : mxv x = (if x < wrap64 (-x) then wrap64 (-x) else x) := rfl
        obtain ⟨K, hK⟩ : ∃ K, K = wj z j := ⟨_, rfl⟩
        obtain ⟨y, hy⟩ : ∃ y, y = z K := ⟨_, rfl⟩
        rw [← hK] at hstep hb1 c1 hlt ⊢
        rw [← hy] at hstep c1
        have hmy : mxv y = (if y < wrap64 (-y) then wrap64 (-y) else y) := rfl
        have hKn : decide ((K : Int) < 0) = false := by simp
        have hK1 : (K : Int) < (N : Int) := by omega
        clear hc hx hy hlt
        by_cases hgt : (if y < wrap64 (-y) then wrap64 (-y) else y) < (if x < wrap64 (-x) then wrap64 (-x) else x)
        · have HS := Lib.hid (show wj z (j + 1) = j by rw [hstep, hmx, hmy, if_pos hgt])
          clear hstep hK hv0 hmx hmy
          go_wp2_with fail
          (have Ec0 := ext_cell c0; have Ec1 := ext_cell c1; refine calm_lit (by kernel_rfl) (by kernel_rfl) ?_; (repeat (first | go_big_quiet_step (fail) | simp only [TF])); refine wpQuiet_nil ?_; intro w1 hb; clear Ec0 Ec1; replace c0 := below_cell hb c0; replace c1 := below_cell hb c1; replace f2 := Fl.below f2 hb; replace hB := below_step hB hb; clear hb)
          go_wp2_with fail
          go_roundw
          case rel => exact ⟨j + 1, by omega, by go_num, by simp [wstV, HS.out], hB, f2⟩
          case measure => simp [intOf]; omega
        · have HS := Lib.hid (show wj z (j + 1) = K by rw [hstep, hmx, hmy, if_neg hgt])
          clear hstep hK hv0 hmx hmy
          go_wp2_with fail
          (have Ec0 := ext_cell c0; have Ec1 := ext_cell c1; refine calm_lit (by kernel_rfl) (by kernel_rfl) ?_; (repeat (first | go_big_quiet_step (fail) | simp only [TF])); refine wpQuiet_nil ?_; intro w1 hb; clear Ec0 Ec1; replace c0 := below_cell hb c0; replace c1 := below_cell hb c1; replace f2 := Fl.below f2 hb; replace hB := below_step hB hb; clear hb)
          go_wp2_with fail
          go_roundw
          case rel => exact ⟨j + 1, by omega, by go_num, by simp [wstV, HS.out], hB, f2⟩
          case measure => simp [intOf]; omega
    · obtain rfl : j = N := by omega
      go_wp2_with fail
      go_ret
      exact ⟨rfl, hB⟩
end Go.Proofs.Ytmnmnkenboejpaa
