/- The contracts of the reference's DesignOk, GramOf, l22Without. -/
import Derived.Test.YtmnmnkenboejpaaGram
import Derived.StillTailTactics
namespace Go.Proofs.Ytmnmnkenboejpaa
open Go.RowKit
set_option linter.unusedSimpArgs false
set_option linter.unusedVariables false
set_option maxHeartbeats 4000000
theorem spec_DesignOk (A : Option Addr) (c : Nat) (L : List (List Int)) (w : World) (hn : L.length ≤ 1048576) (hr : ∀ r ∈ L, r.length ≤ 1048576) (f0 : Fm w A L) : Calls Try.prog 61 #[.slice A L.length c] w fun e w' => e = .returned (.bool (desB L)) ∧ Below w.heap.size w w' := by
  obtain ⟨n, hn2⟩ : ∃ n, n = L.length := ⟨_, rfl⟩
  have HN := Lib.hid hn2
  simp only [← hn2] at hn ⊢
  clear hn2
  have HF := Lib.hid f0; clear f0
  go_enter Try.func61, Try.ntmps61
  go_wp2_with fail
  go_loopw [3] (fun x wr => ∃ k : Nat, k ≤ n ∧ x = .int .i64 k ∧ Go.RowKit.Hid (allN (rowB L) k = true) ∧ Below w.heap.size w wr) (fun x _ => n - (intOf x).toNat)
  case atStart => exact ⟨0, Nat.zero_le _, rfl, Lib.hid rfl, Below.refl _ _⟩
  case round =>
    obtain ⟨k, hk, rfl, HS, hB⟩ := hrel
    have hnl := HN.out
    by_cases hkn : k < n
    · obtain ⟨r, hrk⟩ : ∃ r, L[k]? = some r := ⟨_, List.getElem?_eq_getElem (by omega)⟩
      obtain ⟨r0, hr0⟩ : ∃ r, L[0]? = some r := ⟨_, List.getElem?_eq_getElem (by omega)⟩
      have hrl := hr r (List.mem_of_getElem? hrk)
      have hr0l := hr r0 (List.mem_of_getElem? hr0)
      obtain ⟨b, off, rfl, hc⟩ := (HF.out.below hB) (by omega)
      obtain ⟨Ak, ck, c1, f1⟩ := hc k r hrk
      obtain ⟨Ai, ci, c0, _⟩ := hc 0 r0 hr0
      rw [Nat.add_zero] at c0
      have hf1 := fun e => f1.below (ext_below wr e)
      have hsg := fun w f => spec_Signs Ak r.length ck (gl r) w hrl f
      have hrow : rowB L k = (decide (r.length = r0.length) && sgB r.length (gl r)) := by simp only [rowB, getD_of hrk, getD_of hr0]
      have HROW := Lib.hid hrow; clear hrow
      clear hc hrk hr0 hnl
      have hk0 : (0 : Int) ≤ (k : Int) := Int.natCast_nonneg _
      have hk1 : (k : Int) < (n : Int) := by omega
      have hn0 : (0 : Int) < (n : Int) := by omega
      by_cases h3 : r.length = r0.length
      · have h3b : ((r.length : Int) != (r0.length : Int)) = false := by simp [h3]
        cases h4 : sgB r.length (gl r)
        · rw [h4] at hsg
          have hno := desB_no (L := L) (k := k) (by have := HN.out; omega) (by rw [HROW.out, h4, Bool.and_false])
          have HNO := Lib.hid hno; clear hno h3
          go_wp2_with fail
          (have Ec0 := ext_cell c0; have Ec1 := ext_cell c1; refine calm_lit (by kernel_rfl) (by kernel_rfl) ?_; (repeat (first | go_big_quiet_step ((go_at_call 76; exact calm_same (hsg _ (hf1 _)))) | simp only [TF])); refine wpQuiet_nil ?_; intro w1 hb; clear Ec0 Ec1; replace c0 := below_cell hb c0; replace c1 := below_cell hb c1; replace hB := below_step hB hb; clear hb)
          go_wp2_with fail
          go_ret
          exact ⟨ret_bool (by rw [HNO.out]), hB⟩
        · rw [h4] at hsg
          have hyes : rowB L k = true := by rw [HROW.out, h4]; simp [h3]
          have HY := Lib.hid hyes; clear hyes h3
          go_wp2_with fail
          (have Ec0 := ext_cell c0; have Ec1 := ext_cell c1; refine calm_lit (by kernel_rfl) (by kernel_rfl) ?_; (repeat (first | go_big_quiet_step ((go_at_call 76; exact calm_same (hsg _ (hf1 _)))) | simp only [TF])); refine wpQuiet_nil ?_; intro w1 hb; clear Ec0 Ec1; replace c0 := below_cell hb c0; replace c1 := below_cell hb c1; replace hB := below_step hB hb; clear hb)
          go_wp2_with fail
          go_roundw
          case rel => exact ⟨k + 1, by omega, by go_num, Lib.hid (by simp only [allN, Bool.and_eq_true]; exact ⟨HS.out, HY.out⟩), hB⟩
          case measure => simp [intOf]; omega
      · have h3b : ((r.length : Int) != (r0.length : Int)) = true := by simp; omega
        have hno := desB_no (L := L) (k := k) (by have := HN.out; omega) (by rw [HROW.out]; simp [h3])
        have HNO := Lib.hid hno; clear hno h3
        go_wp2_with fail
        (have Ec0 := ext_cell c0; have Ec1 := ext_cell c1; refine calm_lit (by kernel_rfl) (by kernel_rfl) ?_; (repeat (first | go_big_quiet_step (fail) | simp only [TF])); refine wpQuiet_nil ?_; intro w1 hb; clear Ec0 Ec1; replace c0 := below_cell hb c0; replace c1 := below_cell hb c1; replace hB := below_step hB hb; clear hb)
        go_wp2_with fail
        go_ret
        exact ⟨ret_bool (by rw [HNO.out]), hB⟩
    · obtain rfl : k = n := by omega
      have hd : desB L = (inB (k : Int) 1 8 && inB ((L.getD 0 []).length : Int) 1 4) := by
        unfold desB; rw [← hnl, HS.out, Bool.and_true]
      have HD := Lib.hid hd; clear hd
      cases h1 : inB (k : Int) 1 8
      · clear hnl
        go_wp2_with (go_at_call 59; (with_reducible refine (l01In_any _ _ _ _).mono ?_); rintro _ _ ⟨rfl, rfl⟩)
        go_ret
        exact ⟨ret_bool (by rw [HD.out, h1]; rfl), hB⟩
      · have hn1 := inB_iff.1 h1
        obtain ⟨r0, hr0⟩ : ∃ r, L[0]? = some r := ⟨_, List.getElem?_eq_getElem (by omega)⟩
        have hr0l := hr r0 (List.mem_of_getElem? hr0)
        obtain ⟨b, off, rfl, hc⟩ := (HF.out.below hB) (by omega)
        obtain ⟨Ai, ci, c0, _⟩ := hc 0 r0 hr0
        rw [Nat.add_zero] at c0
        have hg0 := getD_of hr0
        have HG0 := Lib.hid hg0; clear hg0
        have hn0 : (0 : Int) < (k : Int) := by omega
        clear hc hr0 hnl
        go_wp2_with (go_at_call 59; (with_reducible refine (l01In_any _ _ _ _).mono ?_); rintro _ _ ⟨rfl, rfl⟩)
        go_ret
        exact ⟨ret_bool (by rw [HD.out, h1, HG0.out]; simp), hB⟩
/-- A row of Gram's matrix under way: k terms of the number j. -/
def gramW (L : List (List Int)) (i j k : Nat) : Nat → Int := fun q => if q < j then gramV L i q else if q = j then dotV (gl (colL L i)) (gl (colL L j)) k else 0
theorem colL_at {L : List (List Int)} {k i : Nat} {r : List Int} (h : L[k]? = some r) : gl (colL L i) k = gl r i := by
  simp [gl, colL, h]
theorem gramW_step {L : List (List Int)} {i j k : Nat} {r : List Int} (h : L[k]? = some r) (q : Nat) : gramW L i j (k + 1) q = if q = j then wrap64 (dotV (gl (colL L i)) (gl (colL L j)) k + wrap64 (gl r i * gl r j)) else gramW L i j k q := by
  unfold gramW
  by_cases e : q = j
  · subst e
    rw [if_pos rfl, if_neg (by omega), if_pos rfl, dotV, colL_at h, colL_at h]
  · rw [if_neg e, if_neg e]
    split <;> rfl
theorem gramW_next {L : List (List Int)} {i j q : Nat} : gramW L i j L.length q = gramW L i (j + 1) 0 q := by
  unfold gramW
  by_cases e : q = j
  · subst e
    rw [if_neg (by omega), if_pos rfl, if_pos (by omega)]; rfl
  · by_cases e2 : q < j
    · rw [if_pos e2, if_pos (by omega)]
    · rw [if_neg e2, if_neg e, if_neg (by omega)]
      by_cases e3 : q = j + 1
      · rw [if_pos e3]; rfl
      · rw [if_neg e3]
set_option maxRecDepth 100000 in
theorem spec_GramOf (A : Option Addr) (c : Nat) (L : List (List Int)) (w : World) (hd : desB L = true) (f0 : Fm w A L) :
    Calls Try.prog 42 #[.slice A L.length c] w fun e w' => ∃ s, e = .returned s ∧ OwnM w' w.heap.size s (gramL L) ∧ Below w.heap.size w w' := by
  obtain ⟨⟨hL1, hL8⟩, ⟨hm1, hm4⟩, hrl, _⟩ := des_at hd
  have hr2 : ∀ r ∈ L, r.length ≤ 1048576 := fun r hr => by have := hrl r hr; omega
  have hDes := fun w f => spec_DesignOk A c L w (by omega) hr2 f
  rw [hd] at hDes
  obtain ⟨m, hm⟩ : ∃ m, m = (L.getD 0 []).length := ⟨_, rfl⟩
  rw [← hm] at hm1 hm4 hrl
  have HM := Lib.hid hm; clear hm
  have HRL := Lib.hid hrl; clear hrl
  have HF := Lib.hid f0
  obtain ⟨n, hn2⟩ : ∃ n, n = L.length := ⟨_, rfl⟩
  have HN := Lib.hid hn2
  simp only [← hn2] at hL1 hL8 hDes ⊢
  clear hn2 hd
  obtain ⟨b, off, rfl, hc⟩ := f0 (by have := HN.out; omega)
  obtain ⟨r0, hr0⟩ : ∃ r, L[0]? = some r := ⟨_, List.getElem?_eq_getElem (by have := HN.out; omega)⟩
  obtain ⟨Ai, ci, c0, _⟩ := hc 0 r0 hr0
  have hr0m : r0.length = m := HRL.out r0 (List.mem_of_getElem? hr0)
  rw [Nat.add_zero, hr0m] at c0
  clear hc hr0 hr0m f0
  have hgl : gramL L = (List.range m).map (gramR L) := by unfold gramL; rw [← HM.out]
  have hgr : ∀ i, gramR L i = (List.range m).map (gramV L i) := fun i => by unfold gramR; rw [← HM.out]
  have HGL := Lib.hid hgl; clear hgl
  have HGR := Lib.hid hgr; clear hgr
  have hn0 : (0 : Int) < (n : Int) := by omega
  have hmk := fun W => run_make_rowN (P := Try.prog) 23 3 _ _ _ Try.underlying23 infoInt .i64 .i64 m (by omega) (by omega) W
  go_enter Try.func42, Try.ntmps42
  go_wp2_with fail
  have k0 : OwnM (w.alloc (.cells #[] 23)) w.heap.size _ [] := OwnM.empty (Nat.le_refl _)
  have hB := below_alloc (Below.refl w.heap.size w) (.cells #[] 23)
  replace c0 := below_cell hB c0
  have hF1 := HF.out.below hB
  have HK := Lib.hid k0; clear k0
  with_reducible refine (hDes _ hF1).mono ?_
  rintro _ w1 ⟨rfl, hb⟩
  clear hF1
  replace hB := below_step hB hb
  replace c0 := below_cell hb c0
  have k0 := HK.out.below hb
  clear HK hb hDes
  have HK := Lib.hid k0; clear k0
  go_wp2_with fail
  go_loopw [3, 5] (fun s i wr => ∃ j : Nat, j ≤ m ∧ i = .int .i64 j ∧ OwnM wr w.heap.size s ((gramL L).take j) ∧ Below w.heap.size w wr) (fun _ i _ => m - (intOf i).toNat)
  case atStart => exact ⟨0, Nat.zero_le _, rfl, HK.out, hB⟩
  case round =>
    clear hB HK
    obtain ⟨j, hj, rfl, k0, hB⟩ := hrel
    by_cases hjm : j < m
    · have htk : (gramL L).take (j + 1) = (gramL L).take j ++ [gramR L j] := by rw [HGL.out]; exact take_map_range _ _ _ hjm
      have HTK := Lib.hid htk; clear htk
      have HK0 := Lib.hid k0; clear k0
      have p0 : Own (wr.alloc (.cells (madeCells #[.int .i64 0] (m * 1)) 3)) wr.heap.size 3 (m * 1) (gramW L j 0 0) := (own_madeN (z := #[.int .i64 0]) (by decide) (by intro i hi; match i, hi with | 0, _ => rfl)).congr (fun q _ => by unfold gramW; rw [if_neg (by omega)]; split <;> rfl)
      have hB1 := below_alloc (Below.refl wr.heap.size wr) (.cells (madeCells #[.int .i64 0] (m * 1)) 3)
      have HP0 := Lib.hid p0; clear p0
      have HB1 := Lib.hid hB1; clear hB1
      obtain ⟨W, hW⟩ : ∃ W, W = wr := ⟨_, rfl⟩
      have HB := Lib.hid hB; clear hB
      go_wp2_with fail
      rw [← hW] at HP0 HB1 HB HK0
      rw [← hW]
      clear hW
      go_loopw [7] (fun x w' => ∃ k : Nat, k ≤ m ∧ x = .int .i64 k ∧ Own w' W.heap.size 3 (m * 1) (gramW L j k 0) ∧ Below W.heap.size W w') (fun x _ => m - (intOf x).toNat)
      case atStart => exact ⟨0, Nat.zero_le _, rfl, by first | exact HP0.out | simpa using HP0.out, by first | exact HB1.out | simpa using HB1.out⟩
      case round =>
        clear HP0 HB1
        obtain ⟨k, hk, rfl, p0, hB⟩ := hrel
        by_cases hkm : k < m
        · go_wp2_with fail
          go_loopw [8] (fun x w' => ∃ q : Nat, q ≤ n ∧ x = .int .i64 q ∧ Own w' W.heap.size 3 (m * 1) (gramW L j k q) ∧ Below W.heap.size W w') (fun x _ => n - (intOf x).toNat)
          case atStart => exact ⟨0, Nat.zero_le _, rfl, p0, hB⟩
          case round =>
            clear p0 hB
            rename World => wr
            obtain ⟨q, hq, rfl, p0, hB⟩ := hrel
            by_cases hqn : q < n
            · obtain ⟨r, hrq⟩ : ∃ r, L[q]? = some r := ⟨_, List.getElem?_eq_getElem (by have := HN.out; omega)⟩
              have hrm : r.length = m := HRL.out r (List.mem_of_getElem? hrq)
              obtain ⟨b2, off2, e2, hc⟩ := HF.out.below (below_step HB.out hB) (by have := HN.out; omega)
              injection e2 with e2; injection e2 with e2 e3
              subst e2 e3
              obtain ⟨Ar, cr, c1, f1⟩ := hc q r hrq
              rw [hrm] at c1 f1
              obtain ⟨br, or, rfl, hcr⟩ := f1 (by omega)
              have c2 := hcr j (by omega)
              have c3 := hcr k (by omega)
              have c4 := p0.cell (j := k) (by omega)
              have z4 := p0.frozen k
              have hstep := gramW_step (i := j) (j := k) hrq
              have hkk : gramW L j k q k = dotV (gl (colL L j)) (gl (colL L k)) q := by unfold gramW; rw [if_neg (by omega), if_pos rfl]
              obtain ⟨D, hD⟩ : ∃ D, D = dotV (gl (colL L j)) (gl (colL L k)) q := ⟨_, rfl⟩
              rw [hkk, ← hD] at c4
              rw [← hD] at hstep
              have HS := Lib.hid hstep; clear hstep
              have HP := Lib.hid p0; clear p0
              clear hkk hD hrq hrm hc hcr f1
              have hj0 : (0 : Int) ≤ (j : Int) := Int.natCast_nonneg _
              have hj1 : (j : Int) < (m : Int) := by omega
              have hk0 : (0 : Int) ≤ (k : Int) := Int.natCast_nonneg _
              have hk1 : (k : Int) < (m : Int) := by omega
              have hq0 : (0 : Int) ≤ (q : Int) := Int.natCast_nonneg _
              have hq1 : (q : Int) < (n : Int) := by omega
              go_wp2_with fail
              go_still_tail 23, (by kernel_rfl)
              change wpList _ _ _ _ _ wr.drew
              go_wp2_with fail
              go_roundw
              case rel => exact ⟨q + 1, by omega, by go_num, (Own.set (w := wr.drew) (HP.out.of_block rfl) k _).congr (fun x hx => by rw [HS.out]), by (repeat (first | exact Below.refl _ _ | assumption | (refine Below.drew ?_) | (refine below_alloc ?_ _) | (refine Below.setCell ?_ (by first | (simp; done) | (simp; omega) | omega | (have hq := hB.size; (try simp at hq ⊢); omega)) _) | (refine Below.alloc ?_ (by first | (simp; done) | (simp; omega) | omega | (have hq := hB.size; (try simp at hq ⊢); omega)) _) | (refine below_step ?_ (by assumption))))⟩
              case measure => simp [intOf]; omega
            · obtain rfl : q = n := by omega
              go_wp2_with fail
              go_roundw
              case rel => exact ⟨k + 1, by omega, by go_num, p0.congr (fun q _ => by rw [HN.out]; exact gramW_next), hB⟩
              case measure => simp [intOf]; omega
        · obtain rfl : k = m := by omega
          have f1 : Fl wr (some ⟨W.heap.size, 0, none⟩) (gramR L j).length 1 (gl (gramR L j)) := by
            have hlen : (gramR L j).length = k := by rw [HGR.out]; simp
            rw [hlen]
            refine (p0.fl (Nat.le_refl _)).congr (fun q hq => ?_)
            rw [HGR.out]
            unfold gramW gl
            rw [if_pos (by omega)]
            simp [show q < k by omega]
          have m0 : OwnM wr w.heap.size _ ((gramL L).take j) := HK0.out.below hB
          have hgl2 : ((gramL L).take j).length ≤ 1048576 := by rw [HGL.out]; simp; omega
          have hlW := p0.lt
          have hAr : ∀ b2 off2, some (⟨W.heap.size, 0, none⟩ : Addr) = some ⟨b2, off2, none⟩ → Value.ownBlock _ ≠ some b2 ∧ b2 < wr.heap.size := fun b2 off2 e => by injection e with e; injection e with e e3; subst e; exact ⟨fun e2 => by have := (HK0.out.base e2).2; omega, hlW⟩
          have HAR := Lib.hid hAr; clear hAr
          have hbw : Below w.heap.size w wr := below_step HB.out hB
          have hsz := hbw.size
          have HBW := Lib.hid hbw; clear hbw
          have hlt := fun q h => (m0.base (g := q) h).1
          have HLT := Lib.hid hlt; clear hlt
          have HM0 := Lib.hid m0; clear m0
          have HF1 := Lib.hid f1; clear f1
          have hrlen : (gramR L j).length = k := by rw [HGR.out]; simp
          have HCR := Lib.hid (Nat.le_of_eq hrlen)
          have HRLEN := Lib.hid hrlen; clear hrlen
          clear p0 hB HK0 HB hlW
          go_wp2_with (at_builtin; refine push_row rfl (.tmp 59) (.tmp 61) rfl w.heap.size _ ((gramL L).take j) (gramR L j) (some ⟨W.heap.size, 0, none⟩) k k HRLEN.out rfl rfl HM0.out hgl2 hsz HF1.out HCR.out HAR.out ?_; intro s' w4 hown hgrow; have HG := Lib.hid hgrow; clear hgrow; have HW := Lib.hid hown; clear hown)
          go_roundw
          case rel => exact ⟨j + 1, by omega, by go_num, by rw [HTK.out]; exact HW.out, HBW.out.grown HG.out hsz HLT.out⟩
          case measure => simp [intOf]; omega
    · obtain rfl : j = m := by omega
      have htk : (gramL L).take j = gramL L := List.take_of_length_le (by rw [HGL.out]; simp)
      rw [htk] at k0
      have HK := Lib.hid k0; clear k0
      go_wp2_with fail
      go_ret
      exact ⟨_, rfl, HK.out, hB⟩
end Go.Proofs.Ytmnmnkenboejpaa
