/- The contracts of FitsExactly, and the walk of its law. -/
import Derived.Test.YtmnmnkenboejpaaSolve
import Derived.Test.YtmnmnkenboejpaaSqs
namespace Go.Proofs.Ytmnmnkenboejpaa
open Go.RowKit
set_option linter.unusedSimpArgs false
set_option linter.unusedVariables false
set_option maxHeartbeats 4000000
theorem dotV_in (x y : Nat → Int) (n : Nat) : wrap64 (dotV x y n) = dotV x y n := by
  cases n with
  | zero => exact wrap64_zero
  | succ n => exact wrap64_wrap64 _
theorem wrap64_sub {a b : Int} (ha : wrap64 a = a) (hb : wrap64 b = b) : wrap64 (a - b) = 0 ↔ b = a := by
  unfold wrap64 at *
  omega
def fitP (L : List (List Int)) (n : Nat) (v : Nat → Int) (k : Nat) : Bool := decide (gl (resV L n v) k = 0)
/-- Do the values fit exactly? -/
def fitB (L : List (List Int)) (n : Nat) (v : Nat → Int) : Bool := soB L n v && allN (fitP L n v) n
theorem fit_eq {L : List (List Int)} {n : Nat} {v : Nat → Int} (h : rdB L n v = true) {k : Nat} (hk : k < n) : fitP L n v k = decide (dotV (gl (L.getD k [])) (gl (topsL L v)) (L.getD 0 []).length = wrap64 (detG L * v k)) := by
  have e : gl (resV L n v) k = wrap64 (wrap64 (detG L * v k) - dotV (gl (L.getD k [])) (gl (topsL L v)) (L.getD 0 []).length) := by
    unfold resV; rw [if_pos h]; unfold resT; rw [gl_map_range _ hk]
  unfold fitP
  rw [e]
  simp only [wrap64_sub (wrap64_wrap64 (detG L * v k)) (dotV_in (gl (L.getD k [])) (gl (topsL L v)) (L.getD 0 []).length)]
set_option maxRecDepth 100000 in
theorem impl_Fits (A B : Option Addr) (c d n : Nat) (L : List (List Int)) (v : Nat → Int) (w : World) (hn : L.length ≤ 1048576) (hr : ∀ r ∈ L, r.length ≤ 1048576) (hn2 : n ≤ 1048576) (f0 : Fm w A L) (f1 : Fl w B n 1 v) :
    Calls Try.prog 28 #[.slice A L.length c, .slice B n d] w fun e w' => e = .returned (.bool (fitB L n v)) ∧ Below w.heap.size w w' := by
  have hSo := fun w f g => impl_Solve A B c d n L v w hn hr hn2 f g
  have hRe := fun w f g => impl_Res A B c d n L v w hn hr hn2 f g
  rcases Bool.eq_false_or_eq_true (soB L n v) with ht | ht
  · have hrd : rdB L n v = true := by unfold soB at ht; simp only [Bool.and_eq_true] at ht; exact ht.1
    have hl := res_len hrd
    have hv : fitB L n v = allN (fun k => decide (gl (resV L n v) k = 0)) n := by unfold fitB; rw [ht]; rfl
    rw [hv]
    rw [ht] at hSo
    clear hv ht hrd hn hr
    generalize resV L n v = l at *
    obtain ⟨b0, hb0⟩ : ∃ b, b = allN (fun k => decide (gl l k = 0)) n := ⟨_, rfl⟩
    rw [← hb0]
    have HB0 := Lib.hid hb0; clear hb0
    have HL := Lib.hid hl; clear hl
    go_enter Try.func28, Try.ntmps28
    go_wp2_with fail
    with_reducible refine (hSo _ f0 f1).mono ?_
    rintro _ w1 ⟨s, rfl, _, hb⟩
    replace f0 := f0.below hb
    replace f1 := f1.below hb
    clear hSo
    go_wp2_with fail
    with_reducible refine (hRe _ f0 f1).mono ?_
    rintro _ w2 ⟨s2, rfl, o1, _, hb2⟩
    replace hb := below_step hb hb2
    obtain ⟨A1, c1, rfl, fl, _⟩ := o1.outc
    rw [HL.out] at fl ⊢
    have HF := Lib.hid fl
    have HB := Lib.hid hb
    clear hRe f0 f1 hb2 hb o1 fl
    go_wp2_with fail
    go_loopw [21] (fun i wr => ∃ k : Nat, k ≤ n ∧ i = .int .i64 k ∧ Go.RowKit.Hid (allN (fun k => decide (gl l k = 0)) k = true) ∧ wr = w2) (fun i _ => n - (intOf i).toNat)
    case atStart => exact ⟨0, Nat.zero_le _, rfl, Lib.hid rfl, rfl⟩
    case round =>
      obtain ⟨k, hk, rfl, HO, rfl⟩ := hrel
      by_cases hkn : k < n
      · obtain ⟨b, off, rfl, hc⟩ := HF.out (by omega)
        have c0 := hc k (by omega)
        clear hc
        by_cases hx : gl l k = 0
        · have HO1 := Lib.hid (show allN (fun k => decide (gl l k = 0)) (k + 1) = true from by simp only [allN, Bool.and_eq_true]; exact ⟨HO.out, decide_eq_true hx⟩)
          rw [hx] at c0
          clear hx
          go_wp2_with fail
          go_roundw
          case rel => exact ⟨k + 1, by omega, by go_num, HO1, trivial⟩
          case measure => simp [intOf]; omega
        · have hb : b0 = false := by
            rw [HB0.out]
            exact allN_no (p := fun k => decide (gl l k = 0)) hkn (decide_eq_false hx)
          subst hb
          generalize gl l k = x at *
          go_wp2_with fail
          go_ret
          exact ⟨rfl, HB.out⟩
      · obtain rfl : k = n := by omega
        have hb : b0 = true := by rw [HB0.out]; exact HO.out
        subst hb
        go_wp2_with fail
        go_ret
        exact ⟨rfl, HB.out⟩
  · have hv : fitB L n v = false := by unfold fitB; rw [ht]; rfl
    rw [hv]
    rw [ht] at hSo
    clear hv ht
    go_enter Try.func28, Try.ntmps28
    go_wp2_with fail
    with_reducible refine (hSo _ f0 f1).mono ?_
    rintro _ w1 ⟨s, rfl, _, hb⟩
    clear hSo
    go_wp2_with fail
    go_ret
    exact ⟨rfl, hb⟩
set_option maxRecDepth 100000 in
theorem spec_Fits (A B : Option Addr) (c d n : Nat) (L : List (List Int)) (v : Nat → Int) (w : World) (hn : L.length ≤ 1048576) (hr : ∀ r ∈ L, r.length ≤ 1048576) (hn2 : n ≤ 1048576) (f0 : Fm w A L) (f1 : Fl w B n 1 v) :
    Calls Try.prog 36 #[.slice A L.length c, .slice B n d] w fun e w' => e = .returned (.bool (fitB L n v)) ∧ Below w.heap.size w w' := by
  have hSv := fun w f g => spec_Solve A B c d n L v w hn hr hn2 f g
  rcases Bool.eq_false_or_eq_true (soB L n v) with ht | ht
  · have hrd : rdB L n v = true := by unfold soB at ht; simp only [Bool.and_eq_true] at ht; exact ht.1
    obtain ⟨hd, hnL⟩ := rdB_at hrd
    have hG := gram_sq hd
    have hGr := fun w f => spec_GramOf A c L w hd f
    have hDt := fun A c w f => spec_det (L.getD 0 []).length A c (gramL L) w hG.len hG.row (by have := hG.m4; omega) f
    have hSo := fun w f g => spec_Tops A B c d n L v w hd hnL f g
    obtain ⟨⟨hL1, hL8⟩, ⟨hm1, hm4⟩, hrl, _⟩ := des_at hd
    have hglen : (gramL L).length = (L.getD 0 []).length := gram_len
    have hdt : detG L = detF (L.getD 0 []).length (gramL L) := rfl
    have hp : ∀ k, k < n → fitP L n v k = decide (dotV (gl (L.getD k [])) (gl (topsL L v)) (L.getD 0 []).length = wrap64 (detG L * v k)) := fun k hk => fit_eq hrd hk
    have hv : fitB L n v = allN (fitP L n v) n := by unfold fitB; rw [ht]; rfl
    rw [hv]
    rw [ht] at hSv
    rw [← hdt] at hDt
    clear hv hdt
    generalize hm : (L.getD 0 []).length = m at *
    generalize detG L = D at *
    generalize gl (topsL L v) = T at *
    generalize fitP L n v = P at *
    have HP := Lib.hid hp; clear hp
    have HGL := Lib.hid hglen; clear hglen
    have HRL := Lib.hid hrl; clear hrl
    have HNL := Lib.hid hnL
    have HF := Lib.hid f0; have HF1 := Lib.hid f1
    rw [← hnL] at hSv hGr hL1 hL8 ⊢
    clear hd hm ht hrd hr hn hnL hG
    obtain ⟨b0, hb0⟩ : ∃ b, b = allN P n := ⟨_, rfl⟩
    rw [← hb0]
    have HB0 := Lib.hid hb0; clear hb0
    go_enter Try.func36, Try.ntmps36
    go_wp2_with fail
    with_reducible refine (hSv _ f0 f1).mono ?_
    rintro _ w1 ⟨s, rfl, hb⟩
    replace f0 := f0.below hb
    replace f1 := f1.below hb
    clear hSv
    go_wp2_with fail
    with_reducible refine (hGr _ f0).mono ?_
    rintro _ w2 ⟨sg, rfl, og, hb2⟩
    obtain ⟨Ag, cg, rfl, fg, _⟩ := og.outc
    rw [HGL.out]
    replace hb := below_step hb hb2
    replace f0 := f0.below hb2
    replace f1 := f1.below hb2
    clear og hb2 hGr
    go_wp2_with fail
    with_reducible refine (hDt _ _ _ fg).mono ?_
    rintro _ w3 ⟨rfl, hb2⟩
    replace hb := below_step hb hb2
    replace f0 := f0.below hb2
    replace f1 := f1.below hb2
    clear hb2 hDt fg
    go_wp2_with fail
    with_reducible refine (hSo _ f0 f1).mono ?_
    rintro _ w4 ⟨A', c', rfl, ft, _, hb2⟩
    replace hb := below_step hb hb2
    have HFT := Lib.hid ft
    have HB := Lib.hid hb
    clear hSo f0 f1 hb2 ft hb
    go_wp2_with fail
    go_loopw [9] (fun i wr => ∃ k : Nat, k ≤ n ∧ i = .int .i64 k ∧ Go.RowKit.Hid (allN P k = true) ∧ Below w4.heap.size w4 wr) (fun i _ => n - (intOf i).toNat)
    case atStart => exact ⟨0, Nat.zero_le _, rfl, Lib.hid rfl, Below.refl _ _⟩
    case round =>
      obtain ⟨k, hk, rfl, HO, hB⟩ := hrel
      by_cases hkn : k < n
      · obtain ⟨r, hrk⟩ : ∃ r, L[k]? = some r := ⟨_, List.getElem?_eq_getElem (by have := HNL.out; omega)⟩
        have hrm : r.length = m := HRL.out r (List.mem_of_getElem? hrk)
        have hPk := HP.out k hkn
        rw [getD_of hrk] at hPk
        obtain ⟨b, off, rfl, hc⟩ := (HF.out.below (below_step HB.out hB)) (by have := HNL.out; omega)
        obtain ⟨Ai, ci, c0, f1⟩ := hc k r hrk
        rw [hrm] at c0 f1
        obtain ⟨bv, ov, rfl, hcv⟩ := (HF1.out.below (below_step HB.out hB)) (by omega)
        have c1 := hcv k (by omega)
        have ft := HFT.out.below hB
        have hPr := fun w f g => spec_product Ai A' m m ci c' (gl r) T w (by omega) (Nat.le_refl _) f g
        generalize dotV (gl r) T m = X at *
        clear hc hcv hrk hrm
        have hj1 : (k : Int) < (n : Int) := by omega
        have hj0 : (0 : Int) ≤ (k : Int) := Int.natCast_nonneg _
        have hf2 := fun e => f1.below (ext_below wr e)
        have hf3 := fun e => ft.below (ext_below wr e)
        have HPk := Lib.hid hPk; clear hPk f1 ft
        go_wp2_with fail
        (have Ec0 := ext_cell c0; have Ec1 := ext_cell c1; refine calm_lit (by kernel_rfl) (by kernel_rfl) ?_; (repeat (first | go_big_quiet_step ((go_at_call 38; exact calm_of (hPr _ (hf2 _) (hf3 _)))) | simp only [TF])); refine wpQuiet_nil ?_; intro w1 hb; clear Ec0 Ec1; replace c0 := below_cell hb c0; replace c1 := below_cell hb c1; replace hB := below_step hB hb; clear hb)
        have hPk := HPk.out
        generalize hY : wrap64 (D * v k) = Y at *
        by_cases hx : X = Y
        · have HO1 := Lib.hid (show allN P (k + 1) = true from by simp only [allN, Bool.and_eq_true]; exact ⟨HO.out, by rw [hPk]; exact decide_eq_true hx⟩)
          have hx2 : X = IntKind.i64.wrap (D * v k) := by rw [hx, ← hY]; first | rfl | simp [IntWalk.i64_left]
          clear hPk
          go_wp2_with fail
          go_roundw
          case rel => exact ⟨k + 1, by omega, by go_num, HO1, hB⟩
          case measure => simp [intOf]; omega
        · have hb : b0 = false := by
            rw [HB0.out]
            exact allN_no (p := P) hkn (by rw [hPk]; exact decide_eq_false hx)
          subst hb
          have hx2 : ¬ X = IntKind.i64.wrap (D * v k) := fun e => hx (by rw [e, ← hY]; first | rfl | simp [IntWalk.i64_left])
          clear hPk
          go_wp2_with fail
          go_ret
          exact ⟨rfl, below_step HB.out hB⟩
      · obtain rfl : k = n := by omega
        have hb : b0 = true := by rw [HB0.out]; exact HO.out
        subst hb
        go_wp2_with fail
        go_ret
        exact ⟨rfl, below_step HB.out hB⟩
  · have hv : fitB L n v = false := by unfold fitB; rw [ht]; rfl
    rw [hv]
    rw [ht] at hSv
    clear hv ht
    go_enter Try.func36, Try.ntmps36
    go_wp2_with fail
    with_reducible refine (hSv _ f0 f1).mono ?_
    rintro _ w1 ⟨s, rfl, hb⟩
    clear hSv
    go_wp2_with fail
    go_ret
    exact ⟨rfl, hb⟩
set_option maxRecDepth 100000 in
theorem walkFits (A : Option Addr) (c : Nat) (L : List (List Int)) (B : Option Addr) (n d : Nat) (v : Nat → Int) (w : World) (hmL : L.length ≤ maxLen) (hrL : ∀ r ∈ L, r.length ≤ maxLen) (m0 : Fm w A L) (hm : n ≤ maxLen) (f1 : Fl w B n 1 v) :
    Calls Try.prog 9 #[.slice A L.length c, .slice B n d] w fun e w' => e = .returned (.bool true) ∧ Below w.heap.size w w' := by
  have hB := Below.refl w.heap.size w
  have hsz0 := fun w m0 => szIntSS_any A c L w hmL hrL m0
  obtain ⟨S, hS⟩ : ∃ S, S = (if L.length ≤ 1048576 then szM L (1048576 - L.length) else -1) := ⟨_, rfl⟩
  have hsz : ∀ w, Fm w A L → Calls Try.prog 10 #[.slice A L.length c, .int .i64 1048576] w fun e w' => e = .returned (.int .i64 S) ∧ w = w' := by rw [hS]; exact hsz0
  clear hsz0
  unfold maxLen at hm
  by_cases hn : n ≤ 1048576
  · by_cases hs : S < 0
    · clear hS
      go_enter Try.func9, Try.ntmps9
      (go_wp2_with fail); (with_reducible refine (hsz _ m0).mono ?_); rintro _ _ ⟨rfl, rfl⟩
      go_wp2_with fail
      go_ret
      exact ⟨rfl, hB⟩
    · have hn1 : L.length ≤ 1048576 := by
        by_cases h : L.length ≤ 1048576
        · exact h
        · rw [if_neg h] at hS; omega
      have hr1 : ∀ r ∈ L, r.length ≤ 1048576 := fun r hr => by
        rw [if_pos hn1] at hS
        have := szM_ok L (1048576 - (L.length : Int)) (by omega) (by omega) r hr
        omega
      clear hS
      go_enter Try.func9, Try.ntmps9
      (go_wp2_with fail); (with_reducible refine (hsz _ m0).mono ?_); rintro _ _ ⟨rfl, rfl⟩
      (go_wp2_with fail); (with_reducible refine (toIntSS_any A c L _ hn1 hr1 m0).mono ?_); rintro _ w1 ⟨g1, rfl, hg1, p1, hb⟩; replace m0 := Fm.below m0 hb; replace f1 := Fl.below f1 hb; replace hB := below_step hB hb; clear hb
      (go_wp2_with fail); (with_reducible refine (toIntS_any B n d v _ hn f1).mono ?_); rintro _ w1 ⟨g2, rfl, hg2, o2, hb⟩; replace m0 := Fm.below m0 hb; replace f1 := Fl.below f1 hb; replace p1 := PM.below p1 hb; replace hB := below_step hB hb; clear hb
      (go_wp2_with fail); (with_reducible refine (spec_Fits _ _ _ _ n L v _ hn1 hr1 hn (p1.fm (Nat.le_refl _)) (o2.fl (Nat.le_refl _))).mono ?_); rintro _ w1 ⟨rfl, hb⟩; replace m0 := Fm.below m0 hb; replace f1 := Fl.below f1 hb; replace hB := below_step hB hb; clear hb
      clear p1 o2
      (go_wp2_with fail); (with_reducible refine (toIntSS_any A c L _ hn1 hr1 m0).mono ?_); rintro _ w1 ⟨g3, rfl, hg3, p3, hb⟩; replace m0 := Fm.below m0 hb; replace f1 := Fl.below f1 hb; replace hB := below_step hB hb; clear hb
      (go_wp2_with fail); (with_reducible refine (toIntS_any B n d v _ hn f1).mono ?_); rintro _ w1 ⟨g4, rfl, hg4, o4, hb⟩; replace m0 := Fm.below m0 hb; replace f1 := Fl.below f1 hb; replace p3 := PM.below p3 hb; replace hB := below_step hB hb; clear hb
      (go_wp2_with fail); (with_reducible refine (impl_Fits _ _ _ _ n L v _ hn1 hr1 hn (p3.fm (Nat.le_refl _)) (o4.fl (Nat.le_refl _))).mono ?_); rintro _ w1 ⟨rfl, hb⟩; replace m0 := Fm.below m0 hb; replace f1 := Fl.below f1 hb; replace p3 := PM.below p3 hb; replace o4 := Own.below o4 hb; replace hB := below_step hB hb; clear hb
      (go_wp2_with fail); (with_reducible refine (toIntSS_any A c L _ hn1 hr1 m0).mono ?_); rintro _ w1 ⟨g5, rfl, hg5, p5, hb⟩; replace m0 := Fm.below m0 hb; replace f1 := Fl.below f1 hb; replace p3 := PM.below p3 hb; replace o4 := Own.below o4 hb; replace hB := below_step hB hb; clear hb
      (go_wp2_with fail); (with_reducible refine (eqIntSS_true _ _ _ _ L _ hn1 hr1 (p3.fm (Nat.le_refl _)) (p5.fm (Nat.le_refl _))).mono ?_); rintro _ w1 ⟨rfl, hb⟩; replace m0 := Fm.below m0 hb; replace f1 := Fl.below f1 hb; replace o4 := Own.below o4 hb; replace hB := below_step hB hb; clear hb
      (go_wp2_with fail); (with_reducible refine (toIntS_any B n d v _ hn f1).mono ?_); rintro _ w1 ⟨g6, rfl, hg6, o6, hb⟩; replace m0 := Fm.below m0 hb; replace f1 := Fl.below f1 hb; replace o4 := Own.below o4 hb; replace hB := below_step hB hb; clear hb
      (go_wp2_with fail); (with_reducible refine (eqIntS_true _ _ n _ _ v _ hn (o4.fl (Nat.le_refl _)) (o6.fl (Nat.le_refl _))).mono ?_); rintro _ w1 ⟨rfl, hb⟩; replace hB := below_step hB hb; clear hb
      go_wp2_with fail
      go_ret
      exact ⟨rfl, hB⟩
  · go_enter Try.func9, Try.ntmps9
    go_wp2_with fail
    go_ret
    exact ⟨rfl, hB⟩

end Go.Proofs.Ytmnmnkenboejpaa
