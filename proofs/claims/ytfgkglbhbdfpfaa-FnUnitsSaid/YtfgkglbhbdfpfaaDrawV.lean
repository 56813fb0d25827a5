/- The draw of ratios: the walk. -/
import Derived.Test.YtfgkglbhbdfpfaaDrawU
import Derived.Deep.RegionWith
namespace Go.Proofs.Ytfgkglbhbdfpfaa
open Go.RowKit
set_option linter.unusedSimpArgs false
set_option linter.unusedVariables false
set_option maxHeartbeats 4000000
set_option maxRecDepth 100000 in
theorem spec_RList (w : World) (D g : Nat) (hc : Cur w D g) (hDw : D ≤ w.heap.size) : Calls Try.prog 37 #[.pointer (some ⟨g, 0, none⟩)] w fun e w' => ∃ (s : Value) (n : Nat) (l : List Int) (wr : Nat), e = .returned s ∧
    (OwnQ w' (w.heap.size + 1) s n l ∧ l.length = n * 4 ∧ n ≤ 8 ∧ okU wr n l) ∧ Cur w' D g ∧ w.grownBy w' (some g) := by
  have hgl := hc.lt
  have hgD := hc.ge
  have b1 := below_alloc (Below.refl w.heap.size w) (.cells #[.int .i64 1, .int .i64 2, .int .i64 3, .int .i64 4, .int .i64 6, .int .i64 12, .int .i64 5, .int .i64 10, .int .i64 16, .int .i64 7] 3)
  have o0 : Own ((w.alloc (.cells #[.int .i64 1, .int .i64 2, .int .i64 3, .int .i64 4, .int .i64 6, .int .i64 12, .int .i64 5, .int .i64 10, .int .i64 16, .int .i64 7] 3)).alloc (.cells #[] 46)) w.heap.size 3 10 (fun j => szL.getD j 0) := by
    refine Own.below (w := w.alloc (.cells #[.int .i64 1, .int .i64 2, .int .i64 3, .int .i64 4, .int .i64 6, .int .i64 12, .int .i64 5, .int .i64 10, .int .i64 16, .int .i64 7] 3)) ⟨_, heap_alloc_new w _, fun j hj => ?_⟩ (below_alloc (Below.refl _ _) _)
    rcases (show j = 0 ∨ j = 1 ∨ j = 2 ∨ j = 3 ∨ j = 4 ∨ j = 5 ∨ j = 6 ∨ j = 7 ∨ j = 8 ∨ j = 9 by omega) with rfl | rfl | rfl | rfl | rfl | rfl | rfl | rfl | rfl | rfl <;> rfl
  have u0 : OwnQ ((w.alloc (.cells #[.int .i64 1, .int .i64 2, .int .i64 3, .int .i64 4, .int .i64 6, .int .i64 12, .int .i64 5, .int .i64 10, .int .i64 16, .int .i64 7] 3)).alloc (.cells #[] 46)) (w.heap.size + 1) (.slice (some ⟨w.heap.size + 1, 0, none⟩) 0 0) 0 [] := by
    have := OwnQ.empty (w := w.alloc (.cells #[.int .i64 1, .int .i64 2, .int .i64 3, .int .i64 4, .int .i64 6, .int .i64 12, .int .i64 5, .int .i64 10, .int .i64 16, .int .i64 7] 3)) (B := w.heap.size + 1) (by simp)
    simpa using this
  have hO : w.grownBy ((w.alloc (.cells #[.int .i64 1, .int .i64 2, .int .i64 3, .int .i64 4, .int .i64 6, .int .i64 12, .int .i64 5, .int .i64 10, .int .i64 16, .int .i64 7] 3)).alloc (.cells #[] 46)) (some g) := only_of_below (below_alloc b1 _)
  replace hc := hc.below (below_alloc b1 (.cells #[] 46))
  clear b1
  go_enter Try.func37, Try.ntmps37
  ((go_wp2_with fail); (with_reducible refine (spec_Below _ D g ?hcur _).mono ?_); (case hcur => (repeat (first | (with_reducible assumption) | (with_reducible refine Cur.drew ?_) | (with_reducible refine Cur.drewN ?_ _) | (with_reducible refine Cur.set ?_ (by first | (simp; done) | (simp; omega) | omega) (by first | (simp; done) | (simp; omega) | omega) _) | (with_reducible refine Cur.below ?_ (below_alloc (Below.refl _ _) _)) | (with_reducible refine Cur.below ?_ (by with_reducible assumption))))); rintro _ w1 ⟨x, rfl, ⟨hx0, hx1, _⟩, hcn, hg⟩; replace hO : w.grownBy w1 (some g) := only_trans (by (repeat (first | (with_reducible assumption) | (with_reducible exact only_refl _ _) | (with_reducible refine only_drew ?_) | (with_reducible refine only_drewN ?_ _) | (with_reducible refine only_alloc ?_ _) | (with_reducible refine only_setNew ?_ (by first | (simp; done) | (simp; omega) | omega) _) | (with_reducible refine only_set ?_ _ _) | (with_reducible refine only_step ?_ (by with_reducible assumption))))) hg; replace hc := hcn; clear hcn; (first | replace o0 := only_own hg o0 (by first | (simp; done) | (simp; omega) | omega) | replace o0 := only_own hg (Own.below o0 (below_alloc (Below.refl _ _) _)) (by first | (simp; done) | (simp; omega) | omega)); replace u0 := OwnQ.only u0 hg (fun e => by have := (OwnQ.base u0 e).1; omega); clear hg)
  have hx1 := hx1 (by decide)
  ((go_wp2_with fail); (with_reducible refine (spec_Below _ D g ?hcur _).mono ?_); (case hcur => (repeat (first | (with_reducible assumption) | (with_reducible refine Cur.drew ?_) | (with_reducible refine Cur.drewN ?_ _) | (with_reducible refine Cur.set ?_ (by first | (simp; done) | (simp; omega) | omega) (by first | (simp; done) | (simp; omega) | omega) _) | (with_reducible refine Cur.below ?_ (below_alloc (Below.refl _ _) _)) | (with_reducible refine Cur.below ?_ (by with_reducible assumption))))); rintro _ w1 ⟨y, rfl, ⟨hy0, hy1, _⟩, hcn, hg⟩; replace hO : w.grownBy w1 (some g) := only_trans (by (repeat (first | (with_reducible assumption) | (with_reducible exact only_refl _ _) | (with_reducible refine only_drew ?_) | (with_reducible refine only_drewN ?_ _) | (with_reducible refine only_alloc ?_ _) | (with_reducible refine only_setNew ?_ (by first | (simp; done) | (simp; omega) | omega) _) | (with_reducible refine only_set ?_ _ _) | (with_reducible refine only_step ?_ (by with_reducible assumption))))) hg; replace hc := hcn; clear hcn; (first | replace o0 := only_own hg o0 (by first | (simp; done) | (simp; omega) | omega) | replace o0 := only_own hg (Own.below o0 (below_alloc (Below.refl _ _) _)) (by first | (simp; done) | (simp; omega) | omega)); replace u0 := OwnQ.only u0 hg (fun e => by have := (OwnQ.base u0 e).1; omega); clear hg)
  have hy1 := hy1 (by decide)
  obtain ⟨N, rfl⟩ := Int.eq_ofNat_of_zero_le hx0
  obtain ⟨W, rfl⟩ := Int.eq_ofNat_of_zero_le hy0
  have hN : N ≤ 8 := by omega
  clear hx0 hx1 hy0 hy1
  go_wp2_with fail
  go_loopw [4, 7] (fun s i wr => ∃ (j : Nat) (l : List Int), j ≤ N ∧ i = .int .i64 j ∧ OwnQ wr (w.heap.size + 1) s j l ∧ (l.length = j * 4 ∧ okU W j l) ∧ Own wr w.heap.size 3 10 (fun j => szL.getD j 0) ∧ Cur wr D g ∧ w.grownBy wr (some g)) (fun _ i _ => N - (intOf i).toNat)
  case atStart => exact ⟨0, [], Nat.zero_le _, rfl, u0, ⟨rfl, fun i hi => by omega⟩, o0, hc, hO⟩
  case round =>
    clear u0 o0 hc hO
    obtain ⟨j, l, hj, rfl, u0, ⟨hl, hok⟩, o0, hc, hO⟩ := hrel
    have HL := Lib.hid hl; clear hl
    have HOK := Lib.hid hok; clear hok
    by_cases hjN : j < N
    · have hlen : j ≤ 1048576 := by omega
      ((go_wp2_with fail); (with_reducible refine (spec_Below _ D g ?hcur _).mono ?_); (case hcur => (repeat (first | (with_reducible assumption) | (with_reducible refine Cur.drew ?_) | (with_reducible refine Cur.drewN ?_ _) | (with_reducible refine Cur.set ?_ (by first | (simp; done) | (simp; omega) | omega) (by first | (simp; done) | (simp; omega) | omega) _) | (with_reducible refine Cur.below ?_ (below_alloc (Below.refl _ _) _)) | (with_reducible refine Cur.below ?_ (by with_reducible assumption))))); rintro _ w1 ⟨x, rfl, ⟨hx0, hx1, _⟩, hcn, hg⟩; replace hO : w.grownBy w1 (some g) := only_trans (by (repeat (first | (with_reducible assumption) | (with_reducible exact only_refl _ _) | (with_reducible refine only_drew ?_) | (with_reducible refine only_drewN ?_ _) | (with_reducible refine only_alloc ?_ _) | (with_reducible refine only_setNew ?_ (by first | (simp; done) | (simp; omega) | omega) _) | (with_reducible refine only_set ?_ _ _) | (with_reducible refine only_step ?_ (by with_reducible assumption))))) hg; replace hc := hcn; clear hcn; (first | replace o0 := only_own hg o0 (by first | (simp; done) | (simp; omega) | omega) | replace o0 := only_own hg (Own.below o0 (below_alloc (Below.refl _ _) _)) (by first | (simp; done) | (simp; omega) | omega)); replace u0 := OwnQ.only u0 hg (fun e => by have := (OwnQ.base u0 e).1; omega); clear hg)
      have hx1 := hx1 (by decide)
      ((go_wp2_with fail); (with_reducible refine (spec_Below _ D g ?hcur _).mono ?_); (case hcur => (repeat (first | (with_reducible assumption) | (with_reducible refine Cur.drew ?_) | (with_reducible refine Cur.drewN ?_ _) | (with_reducible refine Cur.set ?_ (by first | (simp; done) | (simp; omega) | omega) (by first | (simp; done) | (simp; omega) | omega) _) | (with_reducible refine Cur.below ?_ (below_alloc (Below.refl _ _) _)) | (with_reducible refine Cur.below ?_ (by with_reducible assumption))))); rintro _ w1 ⟨y, rfl, ⟨hy0, hy1, _⟩, hcn, hg⟩; replace hO : w.grownBy w1 (some g) := only_trans (by (repeat (first | (with_reducible assumption) | (with_reducible exact only_refl _ _) | (with_reducible refine only_drew ?_) | (with_reducible refine only_drewN ?_ _) | (with_reducible refine only_alloc ?_ _) | (with_reducible refine only_setNew ?_ (by first | (simp; done) | (simp; omega) | omega) _) | (with_reducible refine only_set ?_ _ _) | (with_reducible refine only_step ?_ (by with_reducible assumption))))) hg; replace hc := hcn; clear hcn; (first | replace o0 := only_own hg o0 (by first | (simp; done) | (simp; omega) | omega) | replace o0 := only_own hg (Own.below o0 (below_alloc (Below.refl _ _) _)) (by first | (simp; done) | (simp; omega) | omega)); replace u0 := OwnQ.only u0 hg (fun e => by have := (OwnQ.base u0 e).1; omega); clear hg)
      have hy1 := hy1 (by decide)
      obtain ⟨i, rfl⟩ := Int.eq_ofNat_of_zero_le hx0
      obtain ⟨y, rfl⟩ := Int.eq_ofNat_of_zero_le hy0
      obtain ⟨q, hq, hq6, hqi⟩ : ∃ q : Nat, ((i : Int) + 1 + (y : Int)) % 7 = (q : Int) ∧ q ≤ 6 ∧ q ≠ i := ⟨(i + 1 + y) % 7, by omega, by omega, by omega⟩
      have hi6 : i ≤ 6 := by omega
      obtain ⟨X, Y, hmk, hfr, hpo, heq⟩ := make_ok (t := szF i) (u := szF q) (by have := szF_bd i; omega) (szF_bd q)
      obtain ⟨X2, Y2, hmk2, hfr2, hpo2, heq2⟩ := make_ok (t := szF i + 1) (u := szF q) (by have := szF_bd i; omega) (szF_bd q)
      have hM := fun w => spec_Make (szF i) (szF q) w
      have hM2 := fun w => spec_Make (szF i + 1) (szF q) w
      rw [hmk] at hM
      rw [hmk2] at hM2
      have HE := Lib.hid (show frB X Y = true ∧ 0 < X ∧ X * szF q = Y * szF i from ⟨hfr, hpo, heq⟩)
      have HE2 := Lib.hid (show frB X2 Y2 = true ∧ 0 < X2 ∧ X2 * szF q = Y2 * (szF i + 1) from ⟨hfr2, hpo2, heq2⟩)
      have hs1 := szF_bd i
      have c0 := o0.cell (show i < 10 by omega)
      have c1 := o0.cell (show q < 10 by omega)
      rw [← szF_at hi6] at c0
      rw [← szF_at hq6] at c1
      generalize hsi : szF i = si at *
      generalize hsq : szF q = sq at *
      have HSI := Lib.hid hsi; have HSQ := Lib.hid hsq
      have hs3 := hO.size
      have HC := Lib.hid hc; have HO := Lib.hid hO; have U0 := Lib.hid u0; have O0 := Lib.hid o0
      clear hmk hmk2 hfr hfr2 hpo hpo2 heq heq2 hx0 hx1 hy0 hy1 hsi hsq hc hO u0 o0
      obtain ⟨V, rfl⟩ : ∃ V, V = w1 := ⟨_, rfl⟩
      have hB : Below V.heap.size V V := Below.refl _ _
      have hi0 : (0 : Int) ≤ (i : Int) := by omega
      have hi1 : (i : Int) < 10 := by omega
      have hq0 : (0 : Int) ≤ (q : Int) := by omega
      have hq1 : (q : Int) < 10 := by omega
      go_wp2_with fail
      apply region_made
      case hm => kernel_rfl
      case hok => kernel_rfl
      case hsz => rfl
      case hal => kernel_rfl
      case H =>
        intro u hu
        have Ec0 := ext_cell (below_cell hu c0)
        have Ec1 := ext_cell (below_cell hu c1)
        dsimp only [List.map, tame]
        (repeat (first | go_big_quiet_step (((go_at_call 43; with_reducible exact calm_of (hM _)))) | simp only [TF]))
        exact wpQuiet_nil rfl
      case hst => simp only [storesOk, true_and, and_true]; exact ⟨_, rfl, sizeFraction, by simp [Value.oneCell']⟩
      intro G w1 hb hf hd
      simp only [madeFacts, true_and, and_true] at hf
      obtain ⟨hg10, hh10⟩ := hf
      clear hd
      dsimp only [alSlots, List.filterMap, putAll]
      have z6 : w1.frozen? ⟨G 10, 0, none⟩ = false := made_free hh10 0
      have c6 : w1.cell? ⟨G 10, 0, none⟩ = some (.int .i64 X) := made_cell hh10 rfl
      have z7 : w1.frozen? ⟨G 10, 1, none⟩ = false := made_free hh10 1
      have c7 : w1.cell? ⟨G 10, 1, none⟩ = some (.int .i64 Y) := made_cell hh10 rfl
      clear hh10
      generalize G 10 = g10 at *
      simp only [Act.put, List.setIfInBounds_toArray, List.set_cons_succ, List.set_cons_zero]
      (replace c0 := below_cell hb c0; replace c1 := below_cell hb c1; replace hB := below_step hB hb; clear hb)
      have hs4 := hB.size
      have hgd := HC.out.ge
      have hVg := HC.out.lt
      by_cases hjW : j = W
      · have hjw : (j : Int) = (W : Int) := by rw [hjW]
        have HJW := Lib.hid hjW
        clear hjW
        go_wp2_with fail
        have hb : Below w1.heap.size w1 w1.drew := (Below.refl _ _).drew
        replace z6 := below_frozen hb (lt_of_cell c6) z6; replace z7 := below_frozen hb (lt_of_cell c7) z7; replace c0 := below_cell hb c0; replace c1 := below_cell hb c1; replace c6 := below_cell hb c6; replace c7 := below_cell hb c7; replace hB := below_step hB hb
        clear hb
        have e1 : IntKind.i64.wrap (si + 1) = si + 1 := IntWalk.i64_in _ (by omega)
        go_region_with (
          (go_at_call 43; with_reducible refine (hM2 _).mono ?_; rintro _ wm ⟨rfl, hb⟩; replace z6 := below_frozen hb (lt_of_cell c6) z6; replace z7 := below_frozen hb (lt_of_cell c7) z7; replace c0 := below_cell hb c0; replace c1 := below_cell hb c1; replace c6 := below_cell hb c6; replace c7 := below_cell hb c7; replace hB := below_step hB hb; clear hb))
        all_goals
          have hgV := only_setNew (only_setNew (only_of_below (g := g) hB) (p := ⟨g10, 0, none⟩) (by simp only; omega) (.int .i64 X2)) (p := ⟨g10, 1, none⟩) (by simp only; omega) (.int .i64 Y2)
          have hbe := fun b hb => (U0.out.base (g := b) hb)
          have u1 := U0.out.only hgV (fun e => by have := hbe _ e; omega)
          have hbs := fun b hb => (u1.base (g := b) hb).1
          have HBS := Lib.hid hbs
          have U1 := Lib.hid u1
          have hc1 := ((HC.out.below hB).set (p := ⟨g10, 0, none⟩) (by simp only; omega) (by simp only; omega) (.int .i64 X2)).set (p := ⟨g10, 1, none⟩) (by simp only; omega) (by simp only; omega) (.int .i64 Y2)
          have HC1 := Lib.hid hc1
          have hO1 := only_trans HO.out hgV
          have HO1 := Lib.hid hO1
          have O1 := Lib.hid (O0.out.only hgV (by omega))
          have hs5 : w.heap.size + 1 ≤ ((wm.setCell ⟨g10, 0, none⟩ (.int .i64 X2)).setCell ⟨g10, 1, none⟩ (.int .i64 Y2)).heap.size := by have := hgV.size; have := O0.out.lt; omega
          clear u1 hbs hbe hO1 hgV hc1 hM hM2 HC HO U0 O0
          go_wp2_with (at_builtin; refine push_rt rfl (.tmp 59) (.tmp 64) rfl (w.heap.size + 1) _ j l i q X2 Y2 rfl (by rw [World.size_setCell, World.size_setCell]; rfl) U1.out hlen hs5 ?_; intro s' w4 hown hgrow; have HG := Lib.hid hgrow; clear hgrow; have HW := Lib.hid hown; clear hown)
          go_roundw
          case rel =>
            refine ⟨j + 1, l ++ [(i : Int), (q : Int), X2, Y2], by omega, by go_num, HW.out, ⟨by simp [HL.out]; omega, okU_push HOK.out HL.out ?_⟩, ?_, HC1.out.push HG.out (fun b hb => ?_), only_push HO1.out HG.out (fun b hb => ?_)⟩
            · exact ⟨by omega, by omega, by omega, HE2.out.1, HE2.out.2.1, by rw [if_pos HJW.out, HSQ.out, HSI.out]; exact HE2.out.2.2⟩
            · exact O1.out.of_block (HG.out.block _ O1.out.lt (fun e => by have := HBS.out _ e.symm; omega))
            · have := HBS.out b hb; omega
            · have := HBS.out b hb; omega
          case measure => simp [intOf]; omega
      · have hjw : ¬ (j : Int) = (W : Int) := by omega
        have u1 := U0.out.below hB
        have hbs := fun b hb => (u1.base (g := b) hb).1
        have HBS := Lib.hid hbs
        have U1 := Lib.hid u1
        have HC1 := Lib.hid (HC.out.below hB)
        have hO1 := only_step HO.out hB
        have HO1 := Lib.hid hO1
        have O1 := Lib.hid (O0.out.below hB)
        have hs5 : w.heap.size + 1 ≤ w1.heap.size := by have := hs4; have := O0.out.lt; omega
        have HJW := Lib.hid hjW
        clear hjW u1 hbs hO1 z6 z7 hM hM2 HC HO U0 O0
        go_wp2_with (at_builtin; refine push_rt rfl (.tmp 59) (.tmp 64) rfl (w.heap.size + 1) _ j l i q X Y rfl rfl U1.out hlen hs5 ?_; intro s' w4 hown hgrow; have HG := Lib.hid hgrow; clear hgrow; have HW := Lib.hid hown; clear hown)
        go_roundw
        case rel =>
          refine ⟨j + 1, l ++ [(i : Int), (q : Int), X, Y], by omega, by go_num, HW.out, ⟨by simp [HL.out]; omega, okU_push HOK.out HL.out ?_⟩, ?_, HC1.out.push HG.out (fun b hb => ?_), only_push HO1.out HG.out (fun b hb => ?_)⟩
          · exact ⟨by omega, by omega, by omega, HE.out.1, HE.out.2.1, by rw [if_neg HJW.out, HSQ.out, HSI.out]; exact HE.out.2.2⟩
          · exact O1.out.of_block (HG.out.block _ O1.out.lt (fun e => by have := HBS.out _ e.symm; omega))
          · have := HBS.out b hb; omega
          · have := HBS.out b hb; omega
        case measure => simp [intOf]; omega
    · have HC := Lib.hid hc; clear hc
      have HO := Lib.hid hO; clear hO
      have U0 := Lib.hid u0; clear u0
      go_wp2_with fail
      go_ret
      have hjn : j = N := by omega
      first | exact ⟨_, j, l, W, rfl, ⟨U0.out, HL.out, by omega, HOK.out⟩, HC.out, HO.out⟩ | exact ⟨_, rfl, ⟨j, l, U0.out, HL.out, by omega, W, HOK.out⟩, HC.out, HO.out⟩
end Go.Proofs.Ytfgkglbhbdfpfaa
