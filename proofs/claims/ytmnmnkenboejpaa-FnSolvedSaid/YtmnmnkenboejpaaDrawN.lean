/- The draw of a design: one to six rows of one to four numbers. -/
import Derived.Test.YtmnmnkenboejpaaDrawM
namespace Go.Proofs.Ytmnmnkenboejpaa
open Go.RowKit
set_option linter.unusedSimpArgs false
set_option linter.unusedVariables false
set_option maxHeartbeats 4000000
theorem Own.row {w : World} {b N : Nat} {v : Nat → Int} (h : Own w b 3 (N * 1) v) : Fl w (some ⟨b, 0, none⟩) N 1 (gl ((List.range N).map v)) :=
  (h.fl (Nat.le_refl _)).congr (fun j hj => (gl_map_range v (by omega)).symm)
theorem spec_Load' (w : World) (D g N : Nat) (z : Int) (hz : z = (N : Int)) (hc : Cur w D g) (hDw : D ≤ w.heap.size) (hN : N ≤ 8) : Calls Try.prog 77 #[.pointer (some ⟨g, 0, none⟩), .int .i64 z] w fun e w' => ∃ (s : Value) (l : List Int), e = .returned s ∧
    (OwnS w' w.heap.size s l ∧ l.length = N) ∧ Cur w' D g ∧ w.grownBy w' (some g) := by subst hz; exact spec_Load w D g N hc hDw hN
set_option maxRecDepth 100000 in
theorem spec_Design (w : World) (D g : Nat) (hc : Cur w D g) (hDw : D ≤ w.heap.size) : Calls Try.prog 64 #[.pointer (some ⟨g, 0, none⟩)] w fun e w' => ∃ (s : Value) (L : List (List Int)), e = .returned s ∧
    (OwnX w' w.heap.size s L ∧ (1 ≤ L.length ∧ L.length ≤ 6) ∧ ∃ N, (1 ≤ N ∧ N ≤ 4) ∧ ∀ r ∈ L, r.length = N) ∧ Cur w' D g ∧ w.grownBy w' (some g) := by
  have hgl := hc.lt
  have hgD := hc.ge
  have m0 : OwnX (w.alloc (.cells #[] 23)) w.heap.size (.slice (some ⟨w.heap.size, 0, none⟩) 0 0) [] := OwnX.empty (Nat.le_refl _)
  have hO : w.grownBy (w.alloc (.cells #[] 23)) (some g) := only_of_below (below_alloc (Below.refl w.heap.size w) _)
  go_enter Try.func64, Try.ntmps64
  ((go_wp2_with fail); (with_reducible refine (spec_Below _ D g ?hcur _).mono ?_); (case hcur => (repeat (first | (with_reducible assumption) | (with_reducible refine Cur.drew ?_) | (with_reducible refine Cur.drewN ?_ _) | (with_reducible refine Cur.set ?_ (by first | (simp; done) | (simp; omega) | omega) (by first | (simp; done) | (simp; omega) | omega) _) | (with_reducible refine Cur.below ?_ (below_alloc (Below.refl _ _) _)) | (with_reducible refine Cur.below ?_ (by with_reducible assumption))))); rintro _ w1 ⟨x, rfl, ⟨hx0, hx1, _⟩, hcn, hg⟩; replace hO : w.grownBy w1 (some g) := only_trans (by (repeat (first | (with_reducible assumption) | (with_reducible exact only_refl _ _) | (with_reducible refine only_drew ?_) | (with_reducible refine only_drewN ?_ _) | (with_reducible refine only_alloc ?_ _) | (with_reducible refine only_setNew ?_ (by first | (simp; done) | (simp; omega) | omega) _) | (with_reducible refine only_set ?_ _ _) | (with_reducible refine only_step ?_ (by with_reducible assumption))))) hg; replace hc := hcn; clear hcn; replace m0 := OwnX.only m0 hg (by omega); clear hg)
  have hx1 := hx1 (by decide)
  obtain ⟨N, hN⟩ : ∃ N : Nat, 1 + x = (N : Int) := ⟨(1 + x).toNat, by omega⟩
  have hN1 : 1 ≤ N ∧ N ≤ 4 := by omega
  ((go_wp2_with fail); (with_reducible refine (spec_Below _ D g ?hcur _).mono ?_); (case hcur => (repeat (first | (with_reducible assumption) | (with_reducible refine Cur.drew ?_) | (with_reducible refine Cur.drewN ?_ _) | (with_reducible refine Cur.set ?_ (by first | (simp; done) | (simp; omega) | omega) (by first | (simp; done) | (simp; omega) | omega) _) | (with_reducible refine Cur.below ?_ (below_alloc (Below.refl _ _) _)) | (with_reducible refine Cur.below ?_ (by with_reducible assumption))))); rintro _ w1 ⟨y, rfl, ⟨hy0, hy1, _⟩, hcn, hg⟩; replace hO : w.grownBy w1 (some g) := only_trans (by (repeat (first | (with_reducible assumption) | (with_reducible exact only_refl _ _) | (with_reducible refine only_drew ?_) | (with_reducible refine only_drewN ?_ _) | (with_reducible refine only_alloc ?_ _) | (with_reducible refine only_setNew ?_ (by first | (simp; done) | (simp; omega) | omega) _) | (with_reducible refine only_set ?_ _ _) | (with_reducible refine only_step ?_ (by with_reducible assumption))))) hg; replace hc := hcn; clear hcn; replace m0 := OwnX.only m0 hg (by omega); clear hg)
  have hy1 := hy1 (by decide)
  obtain ⟨M, hM⟩ : ∃ M : Nat, 1 + y = (M : Int) := ⟨(1 + y).toNat, by omega⟩
  have hM1 : 1 ≤ M ∧ M ≤ 6 := by omega
  have hmk := fun W => run_make_rowN (P := Try.prog) 23 3 _ _ _ Try.underlying23 infoInt .i64 .i64 N (by omega) (by omega) W
  go_wp2_with fail
  clear hN hM
  go_loopw [3, 6] (fun s i wr => ∃ (j : Nat) (L : List (List Int)), j ≤ M ∧ i = .int .i64 j ∧ OwnX wr w.heap.size s L ∧ (L.length = j ∧ ∀ r ∈ L, r.length = N) ∧ Cur wr D g ∧ w.grownBy wr (some g)) (fun _ i _ => M - (intOf i).toNat)
  case atStart => exact ⟨0, [], Nat.zero_le _, rfl, m0, ⟨rfl, fun r h => by cases h⟩, hc, hO⟩
  case round =>
    clear m0 hc hO hx0 hx1 hy0 hy1
    obtain ⟨j, L, hj, rfl, m0, ⟨hl, hrl⟩, hc, hO⟩ := hrel
    have HL := Lib.hid hl; clear hl
    have HR := Lib.hid hrl; clear hrl
    by_cases hjM : j < M
    · have hlen : L.length ≤ 1048576 := by rw [HL.out]; omega
      have hs3 := hO.size
      have hob := fun q h => (m0.base (g := q) h).2
      have HOB := Lib.hid hob; clear hob
      go_wp2_with fail
      with_reducible refine (spec_Load' _ D g N _ rfl hc (by omega) (by omega)).mono ?_
      rintro _ w2 ⟨sr, lr, rfl, ⟨p1, hlr⟩, hcn, hg⟩
      have hm2 := OwnX.only m0 hg (by omega)
      have hO2 : w.grownBy w2 (some g) := only_trans hO hg
      have hs4 := hg.size
      clear m0 hc hO hg
      go_wp2_with fail
      with_reducible refine (spec_Once _ D g hcn _).mono ?_
      rintro _ w3 ⟨o, rfl, hc3, hg⟩
      have p2 := p1.only hg (by omega)
      have hm3 := OwnX.only hm2 hg (by omega)
      have hO3 : w.grownBy w3 (some g) := only_trans hO2 hg
      have hs5 := hg.size
      clear hg hcn hm2 hO2 p1
      by_cases hon : o = true ∧ 1 < N
      · obtain ⟨rfl, hN2⟩ := hon
        clear p2
        have hN3 : (1 : Int) < (N : Int) := by omega
        have hba := below_alloc (Below.refl w3.heap.size w3) (.cells (madeCells #[.int .i64 0] N) 3)
        have o1 : Own (w3.alloc (.cells (madeCells #[.int .i64 0] N) 3)) w3.heap.size 3 N (fun _ => 0) := own_madeN (z := #[.int .i64 0]) (by decide) (by intro i hi; match i, hi with | 0, _ => rfl)
        have hc3b := hc3.below hba
        have hgw : w3.grownBy (w3.alloc (.cells (madeCells #[.int .i64 0] N) 3)) (some g) := only_of_below hba
        have hB3 := hO3.size
        clear hc3 hba
        go_wp2_with fail
        with_reducible refine (spec_Below _ D g hc3b _).mono ?_
        rintro _ w4 ⟨z, rfl, ⟨hz0, hz1, _⟩, hc4, hg⟩
        have hz1 := hz1 (by omega)
        obtain ⟨i, rfl⟩ := Int.eq_ofNat_of_zero_le hz0
        have hiN : i < N := by omega
        have o2 := o1.only hg (by omega)
        have hgw2 := only_trans hgw hg
        have hs6 := hg.size
        simp only [World.size_alloc] at hs6
        clear hgw hg o1 hc3b hz0 hz1
        obtain ⟨q, hq, hqN, hqi⟩ : ∃ q : Nat, ((i : Int) + 1) % (N : Int) = (q : Int) ∧ q < N ∧ ¬ i = q := by
          rcases Nat.lt_or_ge (i + 1) N with h | h
          · exact ⟨i + 1, by rw [Int.emod_eq_of_lt (by omega) (by omega)]; push_cast; rfl, h, by omega⟩
          · have e : (i : Int) + 1 = (N : Int) := by omega
            exact ⟨0, by rw [e, Int.emod_self]; rfl, by omega, by omega⟩
        have c1 := o2.cell hiN
        have c2 := o2.cell hqN
        have z1 := o2.frozen i
        have z2 := o2.frozen q
        generalize hb : w3.heap.size = b at *
        have o3 := ((o2.set i 1).set q (-1)).less (N' := N * 1) (by omega)
        have hgw3 := only_setNew (only_setNew hgw2 (p := ⟨b, i, none⟩) (by simp only; omega) (.int .i64 1)) (p := ⟨b, q, none⟩) (by simp only; omega) (.int .i64 (-1))
        have hc5 := (hc4.set (p := ⟨b, i, none⟩) (by simp only; omega) (by simp only; omega) (.int .i64 1)).set (p := ⟨b, q, none⟩) (by simp only; omega) (by simp only; omega) (.int .i64 (-1))
        have hm4 := OwnX.only hm3 hgw3 (by omega)
        have hO4 := only_trans hO3 hgw3
        have hb4 : w.heap.size ≤ ((w4.setCell ⟨b, i, none⟩ (.int .i64 1)).setCell ⟨b, q, none⟩ (.int .i64 (-1))).heap.size := hO4.size
        have hbs := fun q h => (hm4.base (g := q) h).1
        have HBS := Lib.hid hbs; clear hbs
        have hob2 : ∀ q, Value.ownBlock _ = some q → q < b := fun q h => by have := (hm3.base (g := q) h).2; omega
        have lb : b < ((w4.setCell ⟨b, i, none⟩ (.int .i64 1)).setCell ⟨b, q, none⟩ (.int .i64 (-1))).heap.size := by simp; omega
        have hAr : ∀ b' off, (some ⟨b, 0, none⟩ : Option Addr) = some ⟨b', off, none⟩ → w.heap.size ≤ b' ∧ Value.ownBlock _ ≠ some b' ∧ b' < ((w4.setCell ⟨b, i, none⟩ (.int .i64 1)).setCell ⟨b, q, none⟩ (.int .i64 (-1))).heap.size := fun b' off e => by
          injection e with e; injection e with e; subst e
          exact ⟨by omega, fun e2 => by have := hob2 _ e2; omega, lb⟩
        have HARR := Lib.hid hAr; clear hAr hob2 HOB
        have fr := o3.row
        obtain ⟨lr2, hlr2⟩ : ∃ l, l = (List.range N).map (fun j => if j = q then (-1 : Int) else if j = i then 1 else 0) := ⟨_, rfl⟩
        have HLR : Go.RowKit.Hid (lr2.length = N) := Lib.hid (by rw [hlr2]; simp)
        rw [← hlr2] at fr
        have FR : Go.RowKit.Hid (Fl ((w4.setCell ⟨b, i, none⟩ (.int .i64 1)).setCell ⟨b, q, none⟩ (.int .i64 (-1))) (some ⟨b, 0, none⟩) lr2.length 1 (gl lr2)) := Lib.hid (by rw [HLR.out]; exact fr)
        have M0 := Lib.hid hm4; clear hm4 hm3
        have HC := Lib.hid hc5; clear hc5 hc4
        have HO := Lib.hid hO4; clear hO4 hO3 hgw2 hgw3
        clear o2 o3 fr hlr2 hlr
        have hi0 : (0 : Int) ≤ (i : Int) := by omega
        have hi1 : (i : Int) < (N : Int) := by omega
        have hq0 : (0 : Int) ≤ (q : Int) := by omega
        have hq1 : (q : Int) < (N : Int) := by omega
        go_wp2_with (at_builtin; refine push_rowx rfl (.tmp 44) (.tmp 46) rfl w.heap.size _ L lr2 (some ⟨b, 0, none⟩) N N HLR.out rfl (by rw [World.size_setCell, World.size_setCell]; rfl) M0.out hlen hb4 FR.out (by rw [HLR.out]; exact Nat.le_refl _) HARR.out ?_; intro s' w5 hown hgrow; have HG := Lib.hid hgrow; clear hgrow; have HW := Lib.hid hown; clear hown)
        go_roundw
        case rel =>
          refine ⟨j + 1, L ++ [lr2], by omega, by go_num, HW.out, ⟨by simp [HL.out], fun r hr => ?_⟩, HC.out.push HG.out (fun q h => ?_), only_push HO.out HG.out HBS.out⟩
          · rcases List.mem_append.1 hr with h | h
            · exact HR.out r h
            · simp at h; subst h; exact HLR.out
          · have := HBS.out q h; omega
        case measure => simp [intOf]; omega
      · obtain ⟨Ar, cr, rfl, fr, hAr, hcr, _⟩ := p2.outc
        have hB3 := hO3.size
        have hbs := fun q h => (hm3.base (g := q) h).1
        have HBS := Lib.hid hbs; clear hbs
        have hArr : ∀ b off, Ar = some ⟨b, off, none⟩ → w.heap.size ≤ b ∧ Value.ownBlock _ ≠ some b ∧ b < w3.heap.size := fun b off e => ⟨by have := (hAr b off e).1; omega, fun e2 => by have := HOB.out b e2; have := (hAr b off e).1; omega, (hAr b off e).2⟩
        have HARR := Lib.hid hArr; clear hArr hAr HOB
        have FR := Lib.hid fr; clear fr
        have M0 := Lib.hid hm3; clear hm3 p2
        have HC := Lib.hid hc3; clear hc3
        have HO := Lib.hid hO3; clear hO3
        have hn2 : lr.length = N := hlr
        have HLR := Lib.hid hlr
        rw [hlr]
        clear hlr hn2
        have hoo : o = false ∨ o = true ∧ ¬ (1 : Int) < (N : Int) := by
          cases o
          · exact Or.inl rfl
          · exact Or.inr ⟨rfl, fun h => hon ⟨rfl, by omega⟩⟩
        clear hon
        rcases hoo with rfl | ⟨rfl, hN3⟩
        all_goals
          go_wp2_with (at_builtin; refine push_rowx rfl (.tmp 44) (.tmp 46) rfl w.heap.size _ L lr Ar cr N HLR.out rfl rfl M0.out hlen hB3 FR.out hcr HARR.out ?_; intro s' w4 hown hgrow; have HG := Lib.hid hgrow; clear hgrow; have HW := Lib.hid hown; clear hown)
          go_roundw
          case rel =>
            refine ⟨j + 1, L ++ [lr], by omega, by go_num, HW.out, ⟨by simp [HL.out], fun r hr => ?_⟩, HC.out.push HG.out (fun q h => ?_), only_push HO.out HG.out HBS.out⟩
            · rcases List.mem_append.1 hr with h | h
              · exact HR.out r h
              · simp at h; subst h; exact HLR.out
            · have := HBS.out q h; omega
          case measure => simp [intOf]; omega
    · have HC := Lib.hid hc; clear hc
      have HO := Lib.hid hO; clear hO
      have M0 := Lib.hid m0; clear m0
      go_wp2_with fail
      go_ret
      exact ⟨_, L, rfl, ⟨M0.out, by rw [HL.out]; omega, N, hN1, HR.out⟩, HC.out, HO.out⟩
end Go.Proofs.Ytmnmnkenboejpaa
