/- The contracts of BestSwap. -/
import Derived.Test.YtmnmnkenboejpaaBnd
import Derived.Test.YtmnmnkenboejpaaSwap
namespace Go.Proofs.Ytmnmnkenboejpaa
open Go.RowKit
set_option linter.unusedSimpArgs false
set_option linter.unusedVariables false
set_option maxHeartbeats 4000000
theorem swp_rng {n : Nat} {v : Nat → Int} {i k : Nat} (h : rngB n v = true) (hi : i < n) (hk : k < n) : rngB n (swp v i k) = true := by
  refine allN_iff.2 fun j hj => ?_
  have hh := allN_iff.1 h
  unfold swp
  split
  · exact hh k hk
  · split
    · exact hh i hi
    · exact hh j hj
theorem swp_rd {L : List (List Int)} {n : Nat} {v : Nat → Int} {i k : Nat} (h : rdB L n v = true) (hi : i < n) (hk : k < n) : rdB L n (swp v i k) = true := by
  have hs := swp_rng (i := i) (k := k) (rdB_all h).2.2.2 hi hk
  unfold rdB at h ⊢
  simp only [Bool.and_eq_true] at h ⊢
  exact ⟨h.1, hs⟩
/-- One exchange tried. -/
def stp (S : Nat → Nat → Int) (i k : Nat) (s : Int × Int × Int) : Int × Int × Int := if S i k < s.2.2 then (i, k, S i k) else s
def bi (S : Nat → Nat → Int) (i : Nat) : Nat → Int × Int × Int → Int × Int × Int
  | 0, s => s
  | j + 1, s => stp S i (i + 1 + j) (bi S i j s)
def bo (S : Nat → Nat → Int) (n : Nat) (m0 : Int) : Nat → Int × Int × Int
  | 0 => (-1, -1, m0)
  | i + 1 => bi S i (n - (i + 1)) (bo S n m0 i)
theorem bi_stop {S : Nat → Nat → Int} {n i : Nat} (hS : ∀ i k, i < k → k < n → 0 ≤ S i k) {j : Nat} {s : Int × Int × Int} (h : (bi S i j s).2.2 ≤ 0) : ∀ t, i + 1 + (j + t) ≤ n → bi S i (j + t) s = bi S i j s
  | 0, _ => rfl
  | t + 1, ht => by
    have ih := bi_stop hS h t (by omega)
    show stp S i (i + 1 + (j + t)) (bi S i (j + t) s) = _
    rw [ih]
    unfold stp
    rw [if_neg (by have := hS i (i + 1 + (j + t)) (by omega) (by omega); omega)]
def bsV (L : List (List Int)) (n : Nat) (v : Nat → Int) : Int × Int := if rdB L n v = true then ((bo (fun i k => sqV L n (swp v i k)) n (sqV L n v) n).1, (bo (fun i k => sqV L n (swp v i k)) n (sqV L n v) n).2.1) else (-1, -1)
set_option maxRecDepth 100000 in
theorem impl_Best (A B : Option Addr) (c d n : Nat) (L : List (List Int)) (v : Nat → Int) (w : World) (hn : L.length ≤ 1048576) (hr : ∀ r ∈ L, r.length ≤ 1048576) (hn2 : n ≤ 1048576) (f0 : Fm w A L) (f1 : Fl w B n 1 v) :
    Calls Try.prog 25 #[.slice A L.length c, .slice B n d] w fun e w' => e = .returned (.tuple #[.int .i64 (bsV L n v).1, .int .i64 (bsV L n v).2]) ∧ Below w.heap.size w w' := by
  have hSq0 := fun w f g => impl_Sq A B c d n L v w hn hr hn2 f g
  have hSw := fun w i k hi hk f => impl_Swap B d n i k v w hn2 hi hk f
  have hSq1 := fun w B' d' i k f g => impl_Sq A B' c d' n L (swp v i k) w hn hr hn2 f g
  rcases Bool.eq_false_or_eq_true (rdB L n v) with ht | ht
  · have hS0 : ∀ i k, i < k → k < n → 0 ≤ sqV L n (swp v i k) := fun i k hi hk => (sq_ex (swp_rd ht (by omega) hk)).2
    have hm0 := (sq_ex ht).2
    have hv : bsV L n v = ((bo (fun i k => sqV L n (swp v i k)) n (sqV L n v) n).1, (bo (fun i k => sqV L n (swp v i k)) n (sqV L n v) n).2.1) := by unfold bsV; rw [if_pos ht]
    obtain ⟨S, hS⟩ : ∃ S : Nat → Nat → Int, S = fun i k => sqV L n (swp v i k) := ⟨_, rfl⟩
    obtain ⟨m0, hm⟩ : ∃ m0, m0 = sqV L n v := ⟨_, rfl⟩
    have hSq : ∀ w B' d' i k, Fm w A L → Fl w B' n 1 (swp v i k) → Calls Try.prog 14 #[.slice A L.length c, .slice B' n d'] w fun e w' => e = .returned (.int .i64 (S i k)) ∧ Below w.heap.size w w' := by rw [hS]; exact hSq1
    replace hS0 : ∀ i k, i < k → k < n → 0 ≤ S i k := by rw [hS]; exact hS0
    rw [← hS, ← hm] at hv
    rw [← hm] at hSq0 hm0
    clear hSq1 hS hm ht
    have HV := Lib.hid hv; clear hv
    have F0 := Lib.hid f0
    have F1 := Lib.hid f1
    obtain ⟨W0, hW0⟩ : ∃ W0, W0 = w := ⟨_, rfl⟩
    go_enter Try.func25, Try.ntmps25
    go_wp2_with fail
    with_reducible refine (hSq0 _ f0 f1).mono ?_
    rintro _ w1 ⟨rfl, hb⟩
    have HB := Lib.hid hb
    clear hSq0 hb f0 f1
    go_wp2_with fail
    go_loopw [6, 7, 8, 17] (fun ta tb tm x wr => ∃ (i : Nat) (a b m : Int), i ≤ n ∧ x = .int .i64 i ∧ ta = .int .i64 a ∧ tb = .int .i64 b ∧ tm = .int .i64 m ∧ 0 ≤ m ∧ Go.RowKit.Hid (bo S n m0 i = (a, b, m)) ∧ Below w.heap.size w wr) (fun _ _ _ x _ => n - (intOf x).toNat)
    case atStart => exact ⟨0, -1, -1, m0, Nat.zero_le _, rfl, rfl, rfl, rfl, hm0, Lib.hid rfl, HB.out⟩
    case round =>
      clear HB
      obtain ⟨i, a, b, m, hi, rfl, rfl, rfl, rfl, hm1, HO, hB⟩ := hrel
      have HB := Lib.hid hB; clear hB
      by_cases hin : i < n
      · obtain ⟨W, hW⟩ : ∃ W, W = wr := ⟨_, rfl⟩
        go_wp2_with fail
        rw [← hW] at HB
        rw [← hW]
        clear hW
        go_loopw [6, 7, 8, 10] (fun ta tb tm x wr => ∃ (j : Nat) (a' b' m' : Int), i + 1 + j ≤ n ∧ x = .int .i64 ((i : Int) + 1 + (j : Int)) ∧ ta = .int .i64 a' ∧ tb = .int .i64 b' ∧ tm = .int .i64 m' ∧ 0 ≤ m' ∧ Go.RowKit.Hid (bi S i j (a, b, m) = (a', b', m')) ∧ Below W.heap.size W wr) (fun _ _ _ x _ => n - (intOf x).toNat)
        case atStart => exact ⟨0, a, b, m, by omega, by simp, rfl, rfl, rfl, hm1, Lib.hid rfl, Below.refl _ _⟩
        case round =>
          obtain ⟨j, a', b', m', hj, rfl, rfl, rfl, rfl, hm2, HI, hB2⟩ := hrel
          have HB2 := Lib.hid hB2; clear hB2
          have done : (i + 1 + j = n ∨ m' ≤ 0) → bo S n m0 (i + 1) = (a', b', m') := fun h => by
            have hlt : i + 1 + j ≤ n := hj
            show bi S i (n - (i + 1)) (bo S n m0 i) = _
            rw [HO.out]
            rcases h with h | h
            · rw [show n - (i + 1) = j by omega]; exact HI.out
            · have e := bi_stop (n := n) hS0 (j := j) (s := (a, b, m)) (i := i) (by rw [HI.out]; exact h) (n - (i + 1) - j) (by omega)
              rw [show j + (n - (i + 1) - j) = n - (i + 1) by omega] at e
              rw [e]; exact HI.out
          have DN := Lib.hid done; clear done
          by_cases hkn : i + 1 + j < n
          · by_cases hmp : 0 < m'
            · have hx : bi S i (j + 1) (a, b, m) = if S i (i + 1 + j) < m' then ((i : Int), ((i + 1 + j : Nat) : Int), S i (i + 1 + j)) else (a', b', m') := by
                show stp S i (i + 1 + j) (bi S i j (a, b, m)) = _
                rw [HI.out]; rfl
              have hs0 := hS0 i (i + 1 + j) (by omega) hkn
              have hw1 := hSw wr i (i + 1 + j) (by omega) hkn (F1.out.below (below_step HB.out HB2.out))
              have hq1 := fun w B' d' => hSq w B' d' i (i + 1 + j)
              have ek : ((i + 1 + j : Nat) : Int) = (i : Int) + 1 + (j : Int) := by push_cast; rfl
              rw [ek] at hw1 hx
              generalize S i (i + 1 + j) = q at hx hs0 hq1
              generalize hz : swp v i (i + 1 + j) = z at hw1 hq1
              clear hz ek
              have HX := Lib.hid hx; clear hx
              have f0 := F0.out.below (below_step HB.out HB2.out)
              go_wp2_with fail
              with_reducible refine hw1.mono ?_
              rintro _ w2 ⟨g, cg, rfl, hg, o1, hb⟩
              replace f0 := f0.below hb
              have HB3 := Lib.hid (below_step HB2.out hb)
              clear hw1 hb
              go_wp2_with fail
              with_reducible refine (hq1 _ _ _ f0 (o1.fl (Nat.le_refl _))).mono ?_
              rintro _ w3 ⟨rfl, hb⟩
              have HB4 := Lib.hid (below_step HB3.out hb)
              clear hb o1 f0 hq1 HB2 HB3
              by_cases hq : q < m'
              · rw [if_pos hq] at HX
                go_wp2_with fail
                go_roundw
                case rel => exact ⟨j + 1, i, _, q, by omega, by go_num, rfl, rfl, rfl, hs0, HX, HB4.out⟩
                case measure => simp [intOf]; omega
              · rw [if_neg hq] at HX
                go_wp2_with fail
                go_roundw
                case rel => exact ⟨j + 1, a', b', m', by omega, by go_num, rfl, rfl, rfl, hm2, HX, HB4.out⟩
                case measure => simp [intOf]; omega
            · have HD := Lib.hid (DN.out (Or.inr (by omega)))
              have hkn2 : (i : Int) + 1 + (j : Int) < (n : Int) := by omega
              go_wp2_with fail
              go_roundw
              case rel => exact ⟨i + 1, a', b', m', by omega, by go_num, rfl, rfl, rfl, hm2, HD, below_step HB.out HB2.out⟩
              case measure => simp [intOf]; omega
          · have HD := Lib.hid (DN.out (Or.inl (by omega)))
            have hkn2 : ¬ (i : Int) + 1 + (j : Int) < (n : Int) := by omega
            go_wp2_with fail
            go_roundw
            case rel => exact ⟨i + 1, a', b', m', by omega, by go_num, rfl, rfl, rfl, hm2, HD, below_step HB.out HB2.out⟩
            case measure => simp [intOf]; omega
      · obtain rfl : i = n := by omega
        go_wp2_with fail
        refine bodyPost_ret (v := .tuple #[.int .i64 a, .int .i64 b]) (by simp [results, Try.results25, go_sem]) rfl ?_
        exact ⟨by rw [HV.out, HO.out], HB.out⟩
  · have hm0 : sqV L n v = -1 := by unfold sqV; rw [ht]; rfl
    have hv : bsV L n v = (-1, -1) := by unfold bsV; rw [ht]; rfl
    rw [hm0] at hSq0
    rw [hv]
    clear hm0 hv hSw hSq1 ht
    go_enter Try.func25, Try.ntmps25
    go_wp2_with fail
    with_reducible refine (hSq0 _ f0 f1).mono ?_
    rintro _ w1 ⟨rfl, hb⟩
    have HB := Lib.hid hb
    clear hSq0 hb f0 f1
    go_wp2_with fail
    go_loopw [6, 7, 8, 17] (fun ta tb tm x wr => ∃ i : Nat, i ≤ n ∧ x = .int .i64 i ∧ ta = .int .i64 (-1) ∧ tb = .int .i64 (-1) ∧ tm = .int .i64 (-1) ∧ wr = w1) (fun _ _ _ x _ => n - (intOf x).toNat)
    case atStart => exact ⟨0, Nat.zero_le _, rfl, rfl, rfl, rfl, rfl⟩
    case round =>
      obtain ⟨i, hi, rfl, rfl, rfl, rfl, rfl⟩ := hrel
      by_cases hin : i < n
      · by_cases hkn : (i : Int) + 1 < (n : Int)
        · go_wp2_with fail
          refine wp_loop_rounds 1 ?_
          rw [rounds_succ]
          go_wp2_with fail
          go_roundw
          case rel => exact ⟨i + 1, by omega, by go_num, rfl, rfl, rfl, trivial⟩
          case measure => simp [intOf]; omega
        · go_wp2_with fail
          refine wp_loop_rounds 1 ?_
          rw [rounds_succ]
          go_wp2_with fail
          go_roundw
          case rel => exact ⟨i + 1, by omega, by go_num, rfl, rfl, rfl, trivial⟩
          case measure => simp [intOf]; omega
      · obtain rfl : i = n := by omega
        go_wp2_with fail
        refine bodyPost_ret (v := .tuple #[.int .i64 (-1), .int .i64 (-1)]) (by simp [results, Try.results25, go_sem]) rfl ?_
        exact ⟨rfl, HB.out⟩
set_option maxRecDepth 100000 in
theorem spec_Best (A B : Option Addr) (c d n : Nat) (L : List (List Int)) (v : Nat → Int) (w : World) (hn : L.length ≤ 1048576) (hr : ∀ r ∈ L, r.length ≤ 1048576) (hn2 : n ≤ 1048576) (f0 : Fm w A L) (f1 : Fl w B n 1 v) :
    Calls Try.prog 24 #[.slice A L.length c, .slice B n d] w fun e w' => e = .returned (.tuple #[.int .i64 (bsV L n v).1, .int .i64 (bsV L n v).2]) ∧ Below w.heap.size w w' := by
  have hSq0 := fun w f g => spec_Sq A B c d n L v w hn hr hn2 f g
  have hSw := fun w i k hi hk f => spec_Swap B d n i k v w hn2 hi hk f
  have hSq1 := fun w B' d' i k f g => spec_Sq A B' c d' n L (swp v i k) w hn hr hn2 f g
  rcases Bool.eq_false_or_eq_true (rdB L n v) with ht | ht
  · have hS0 : ∀ i k, i < k → k < n → 0 ≤ sqV L n (swp v i k) := fun i k hi hk => (sq_ex (swp_rd ht (by omega) hk)).2
    have hm0 := (sq_ex ht).2
    have hv : bsV L n v = ((bo (fun i k => sqV L n (swp v i k)) n (sqV L n v) n).1, (bo (fun i k => sqV L n (swp v i k)) n (sqV L n v) n).2.1) := by unfold bsV; rw [if_pos ht]
    obtain ⟨S, hS⟩ : ∃ S : Nat → Nat → Int, S = fun i k => sqV L n (swp v i k) := ⟨_, rfl⟩
    obtain ⟨m0, hm⟩ : ∃ m0, m0 = sqV L n v := ⟨_, rfl⟩
    have hSq : ∀ w B' d' i k, Fm w A L → Fl w B' n 1 (swp v i k) → Calls Try.prog 11 #[.slice A L.length c, .slice B' n d'] w fun e w' => e = .returned (.int .i64 (S i k)) ∧ Below w.heap.size w w' := by rw [hS]; exact hSq1
    replace hS0 : ∀ i k, i < k → k < n → 0 ≤ S i k := by rw [hS]; exact hS0
    rw [← hS, ← hm] at hv
    rw [← hm] at hSq0 hm0
    clear hSq1 hS hm ht
    have HV := Lib.hid hv; clear hv
    have F0 := Lib.hid f0
    have F1 := Lib.hid f1
    obtain ⟨W0, hW0⟩ : ∃ W0, W0 = w := ⟨_, rfl⟩
    go_enter Try.func24, Try.ntmps24
    go_wp2_with fail
    with_reducible refine (hSq0 _ f0 f1).mono ?_
    rintro _ w1 ⟨rfl, hb⟩
    have HB := Lib.hid hb
    clear hSq0 hb f0 f1
    go_wp2_with fail
    go_loopw [6, 7, 8, 9] (fun tm ta tb x wr => ∃ (i : Nat) (a b m : Int), i ≤ n ∧ x = .int .i64 i ∧ ta = .int .i64 a ∧ tb = .int .i64 b ∧ tm = .int .i64 m ∧ 0 ≤ m ∧ Go.RowKit.Hid (bo S n m0 i = (a, b, m)) ∧ Below w.heap.size w wr) (fun _ _ _ x _ => n - (intOf x).toNat)
    case atStart => exact ⟨0, -1, -1, m0, Nat.zero_le _, rfl, rfl, rfl, rfl, hm0, Lib.hid rfl, HB.out⟩
    case round =>
      clear HB
      obtain ⟨i, a, b, m, hi, rfl, rfl, rfl, rfl, hm1, HO, hB⟩ := hrel
      have HB := Lib.hid hB; clear hB
      by_cases hin : i < n
      · obtain ⟨W, hW⟩ : ∃ W, W = wr := ⟨_, rfl⟩
        go_wp2_with fail
        rw [← hW] at HB
        rw [← hW]
        clear hW
        go_loopw [6, 7, 8, 10] (fun tm ta tb x wr => ∃ (j : Nat) (a' b' m' : Int), i + 1 + j ≤ n ∧ x = .int .i64 ((i : Int) + 1 + (j : Int)) ∧ ta = .int .i64 a' ∧ tb = .int .i64 b' ∧ tm = .int .i64 m' ∧ 0 ≤ m' ∧ Go.RowKit.Hid (bi S i j (a, b, m) = (a', b', m')) ∧ Below W.heap.size W wr) (fun _ _ _ x _ => n - (intOf x).toNat)
        case atStart => exact ⟨0, a, b, m, by omega, by simp, rfl, rfl, rfl, hm1, Lib.hid rfl, Below.refl _ _⟩
        case round =>
          obtain ⟨j, a', b', m', hj, rfl, rfl, rfl, rfl, hm2, HI, hB2⟩ := hrel
          have HB2 := Lib.hid hB2; clear hB2
          have done : i + 1 + j = n → bo S n m0 (i + 1) = (a', b', m') := fun h => by
            have hlt : i + 1 + j ≤ n := hj
            show bi S i (n - (i + 1)) (bo S n m0 i) = _
            rw [HO.out]
            rw [show n - (i + 1) = j by omega]; exact HI.out
          have DN := Lib.hid done; clear done
          by_cases hkn : i + 1 + j < n
          · · have hx : bi S i (j + 1) (a, b, m) = if S i (i + 1 + j) < m' then ((i : Int), ((i + 1 + j : Nat) : Int), S i (i + 1 + j)) else (a', b', m') := by
                show stp S i (i + 1 + j) (bi S i j (a, b, m)) = _
                rw [HI.out]; rfl
              have hs0 := hS0 i (i + 1 + j) (by omega) hkn
              have hw1 := hSw wr i (i + 1 + j) (by omega) hkn (F1.out.below (below_step HB.out HB2.out))
              have hq1 := fun w B' d' => hSq w B' d' i (i + 1 + j)
              have ek : ((i + 1 + j : Nat) : Int) = (i : Int) + 1 + (j : Int) := by push_cast; rfl
              rw [ek] at hw1 hx
              generalize S i (i + 1 + j) = q at hx hs0 hq1
              generalize hz : swp v i (i + 1 + j) = z at hw1 hq1
              clear hz ek
              have HX := Lib.hid hx; clear hx
              have f0 := F0.out.below (below_step HB.out HB2.out)
              go_wp2_with fail
              with_reducible refine hw1.mono ?_
              rintro _ w2 ⟨g, cg, rfl, hg, o1, hb⟩
              replace f0 := f0.below hb
              have HB3 := Lib.hid (below_step HB2.out hb)
              clear hw1 hb
              go_wp2_with fail
              with_reducible refine (hq1 _ _ _ f0 (o1.fl (Nat.le_refl _))).mono ?_
              rintro _ w3 ⟨rfl, hb⟩
              have HB4 := Lib.hid (below_step HB3.out hb)
              clear hb o1 f0 hq1 HB2 HB3
              by_cases hq : q < m'
              · rw [if_pos hq] at HX
                go_wp2_with fail
                go_roundw
                case rel => exact ⟨j + 1, i, _, q, by omega, by go_num, rfl, rfl, rfl, hs0, HX, HB4.out⟩
                case measure => simp [intOf]; omega
              · rw [if_neg hq] at HX
                go_wp2_with fail
                go_roundw
                case rel => exact ⟨j + 1, a', b', m', by omega, by go_num, rfl, rfl, rfl, hm2, HX, HB4.out⟩
                case measure => simp [intOf]; omega
          · have HD := Lib.hid (DN.out (by omega))
            have hkn2 : ¬ (i : Int) + 1 + (j : Int) < (n : Int) := by omega
            go_wp2_with fail
            go_roundw
            case rel => exact ⟨i + 1, a', b', m', by omega, by go_num, rfl, rfl, rfl, hm2, HD, below_step HB.out HB2.out⟩
            case measure => simp [intOf]; omega
      · obtain rfl : i = n := by omega
        go_wp2_with fail
        refine bodyPost_ret (v := .tuple #[.int .i64 a, .int .i64 b]) (by simp [results, Try.results24, go_sem]) rfl ?_
        exact ⟨by rw [HV.out, HO.out], HB.out⟩
  · have hm0 : sqV L n v = -1 := by unfold sqV; rw [ht]; rfl
    have hv : bsV L n v = (-1, -1) := by unfold bsV; rw [ht]; rfl
    rw [hm0] at hSq0
    rw [hv]
    clear hm0 hv hSw hSq1 ht
    go_enter Try.func24, Try.ntmps24
    go_wp2_with fail
    with_reducible refine (hSq0 _ f0 f1).mono ?_
    rintro _ w1 ⟨rfl, hb⟩
    have HB := Lib.hid hb
    clear hSq0 hb f0 f1
    go_wp2_with fail
    refine wp_loop_rounds 1 ?_
    rw [rounds_succ]
    by_cases hin : 0 < n
    · have hin2 : (0 : Int) < (n : Int) := by omega
      go_wp2_with fail
      refine bodyPost_ret (v := .tuple #[.int .i64 (-1), .int .i64 (-1)]) (by simp [results, Try.results24, go_sem]) rfl ?_
      exact ⟨rfl, HB.out⟩
    · obtain rfl : n = 0 := by omega
      go_wp2_with fail
      refine bodyPost_ret (v := .tuple #[.int .i64 (-1), .int .i64 (-1)]) (by simp [results, Try.results24, go_sem]) rfl ?_
      exact ⟨rfl, HB.out⟩
end Go.Proofs.Ytmnmnkenboejpaa
