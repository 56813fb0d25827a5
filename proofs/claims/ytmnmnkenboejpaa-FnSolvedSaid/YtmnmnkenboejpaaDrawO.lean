/- The draw of a design that determines its objects, most times. -/
import Derived.Test.YtmnmnkenboejpaaDrawN
namespace Go.Proofs.Ytmnmnkenboejpaa
open Go.RowKit
set_option linter.unusedSimpArgs false
set_option linter.unusedVariables false
set_option maxHeartbeats 4000000
set_option maxRecDepth 100000 in
theorem spec_Design2 (w : World) (D g : Nat) (hc : Cur w D g) (hDw : D ≤ w.heap.size) : Calls Try.prog 47 #[.pointer (some ⟨g, 0, none⟩)] w fun e w' => ∃ (s : Value) (L : List (List Int)), e = .returned s ∧
    (OwnX w' w.heap.size s L ∧ (1 ≤ L.length ∧ L.length ≤ 8) ∧ ∃ N, (1 ≤ N ∧ N ≤ 4) ∧ ∀ r ∈ L, r.length = N) ∧ Cur w' D g ∧ w.grownBy w' (some g) := by
  have hgl := hc.lt
  have hgD := hc.ge
  have hDe := spec_Design w D g hc hDw
  clear hc
  go_enter Try.func47, Try.ntmps47
  go_wp2_with fail
  with_reducible refine hDe.mono ?_
  rintro _ w1 ⟨s, L0, rfl, ⟨m0, hl0, N, hN1, hrl⟩, hc, hO⟩
  have hs1 := hO.size
  clear hDe
  obtain ⟨A, c, rfl, fm⟩ := m0.fmg hgl
  obtain ⟨r0, hr0⟩ : ∃ r, L0[0]? = some r := ⟨_, List.getElem?_eq_getElem (by omega)⟩
  have hr0l := hrl r0 (List.mem_of_getElem? hr0)
  obtain ⟨b0, off0, rfl, _, hcl⟩ := fm (by omega)
  obtain ⟨Ai, ci, c0, _⟩ := hcl 0 r0 hr0
  rw [hr0l, Nat.add_zero] at c0
  have hp0 : (0 : Int) < (L0.length : Int) := by omega
  have M0 := Lib.hid m0; have HR0 := Lib.hid hrl; have HC0 := Lib.hid hc; have HO0 := Lib.hid hO
  have HL0 := Lib.hid hl0
  obtain ⟨l0, hll⟩ : ∃ l, l = L0.length := ⟨_, rfl⟩
  rw [← hll] at hp0 ⊢
  have HLL := Lib.hid hll
  clear m0 hrl hc hO hr0 hr0l hcl fm hl0 hll
  have hmk := fun W => run_make_rowN (P := Try.prog) 23 3 _ _ _ Try.underlying23 infoInt .i64 .i64 N (by omega) (by omega) W
  go_wp2_with fail
  go_loopw [3, 5] (fun s i wr => ∃ (k : Nat) (L : List (List Int)), k ≤ N ∧ i = .int .i64 k ∧ OwnX wr w.heap.size s L ∧ ((1 ≤ L.length ∧ L.length ≤ 8) ∧ ∀ r ∈ L, r.length = N) ∧ Cur wr D g ∧ w.grownBy wr (some g)) (fun _ i _ => N - (intOf i).toNat)
  case atStart => exact ⟨0, L0, Nat.zero_le _, rfl, by rw [HLL.out]; exact M0.out, ⟨by have := HL0.out; omega, HR0.out⟩, HC0.out, HO0.out⟩
  case round =>
    clear M0 HR0 HC0 HO0 HL0 hp0 HLL c0 L0
    obtain ⟨k, L, hk, rfl, m0, ⟨hl, hrl⟩, hc, hO⟩ := hrel
    have HR := Lib.hid hrl; clear hrl
    obtain ⟨A, c, rfl, _⟩ := m0.fmg hgl
    by_cases hkN : k < N
    · by_cases hl8 : L.length < 8
      · have hlen : L.length ≤ 1048576 := by omega
        have hl8' : (L.length : Int) < 8 := by omega
        have hob := fun q h => (m0.base (g := q) h).2
        have hs3 := hO.size
        have hcs : ∀ j, j < N → (madeCells #[.int .i64 0] N)[j]? = some (.int .i64 0) := fun j hj => by
          simp only [madeCells, Array.getElem?_map, Array.getElem?_range, hj, if_true, Option.map_some]
          rw [show j % #[Value.int .i64 0].size = 0 from Nat.mod_one j]
          rfl
        have hsz : (madeCells #[Value.int .i64 0] N).size = N := by simp [madeCells]
        have hba := below_alloc (Below.refl wr.heap.size wr) (.cells ((madeCells #[.int .i64 0] N).setIfInBounds k (.int .i64 1)) 3)
        have o2 : Own (wr.alloc (.cells ((madeCells #[.int .i64 0] N).setIfInBounds k (.int .i64 1)) 3)) wr.heap.size 3 (N * 1) (fun j => if j = k then 1 else 0) := ⟨_, heap_alloc_new wr _, fun j hj => by
          by_cases e : j = k
          · subst e; simp [hsz, hkN]
          · rw [Array.getElem?_setIfInBounds_ne (fun h => e h.symm), hcs j (by omega)]; simp only [if_neg e]⟩
        have hc4 := hc.below hba
        have hlg := hc.lt
        have c1 : (wr.alloc (.cells (madeCells #[.int .i64 0] N) 3)).cell? ⟨wr.heap.size, k, none⟩ = some (.int .i64 0) := by simp [go_sem, hcs k hkN]
        have hm2 := m0.below hba
        have hO2 := only_step hO hba
        have HOB := Lib.hid hob; clear hob
        have hk0 : (0 : Int) ≤ (k : Int) := by omega
        have hk1 : (k : Int) < (N : Int) := by omega
        obtain ⟨A2, c2, e2, fmg, _⟩ := hm2.m.out
        injection e2 with e2 e3 e4
        subst e2 e4
        have hId := spec_IsDet A c L _ hlen (fun r hr => by rw [HR.out r hr]; omega) fmg
        have M2 := Lib.hid hm2; have HC4 := Lib.hid hc4; have HO2 := Lib.hid hO2; have O2 := Lib.hid o2
        clear m0 hc hO hba hc4 o2 hm2 hO2 fmg e3 hcs
        go_wp2_with fail
        with_reducible refine hId.mono ?_
        rintro _ w4 ⟨rfl, hbw⟩
        have hm3 := M2.out.below hbw
        have hc3 := HC4.out.below hbw
        have hO3 := only_step HO2.out hbw
        have o3 := O2.out.below hbw
        clear hId M2 HC4 HO2 O2 hbw
        rcases Bool.eq_false_or_eq_true (detB L) with hd | hd
        · rw [hd]
          clear hd
          go_wp2_with fail
          with_reducible refine (spec_Once _ D g hc3 _).mono ?_
          rintro _ w5 ⟨o, rfl, hc4, hg⟩
          have hm4 := OwnX.only hm3 hg (by omega)
          have hO4 := only_trans hO3 hg
          have o4 := o3.only hg (by omega)
          clear hm3 hc3 hO3 o3 hg
          cases o
          · have M0 := Lib.hid hm4; clear hm4
            have HC := Lib.hid hc4; clear hc4
            have HO := Lib.hid hO4; clear hO4
            clear o4
            go_wp2_with fail
            go_roundw
            case rel => exact ⟨k + 1, L, by omega, by go_num, M0.out, ⟨hl, HR.out⟩, HC.out, HO.out⟩
            case measure => simp [intOf]; omega
          · skip
            have hbs := fun q h => (hm4.base (g := q) h).1
            have HBS := Lib.hid hbs; clear hbs
            have hb4 := hO4.size
            have M0 := Lib.hid hm4; clear hm4
            have HC := Lib.hid hc4; clear hc4
            have HO := Lib.hid hO4; clear hO4
            have hob : ∀ q, (Value.slice A L.length c).ownBlock = some q → q < wr.heap.size := fun q h => HOB.out q h
            have hAr : ∀ b' off, (some ⟨wr.heap.size, 0, none⟩ : Option Addr) = some ⟨b', off, none⟩ → w.heap.size ≤ b' ∧ (Value.slice A L.length c).ownBlock ≠ some b' ∧ b' < w5.heap.size := fun b' off e => by
              injection e with e; injection e with e; subst e
              exact ⟨by omega, fun e2 => by have := hob _ e2; omega, o4.lt⟩
            have HARR := Lib.hid hAr; clear hAr hob HOB
            have fr := o4.row
            obtain ⟨lr2, hlr2⟩ : ∃ l, l = (List.range N).map (fun j => if j = k then (1 : Int) else 0) := ⟨_, rfl⟩
            have HLR : Go.RowKit.Hid (lr2.length = N) := Lib.hid (by rw [hlr2]; simp)
            rw [← hlr2] at fr
            have FR : Go.RowKit.Hid (Fl w5 (some ⟨wr.heap.size, 0, none⟩) lr2.length 1 (gl lr2)) := Lib.hid (by rw [HLR.out]; exact fr)
            clear o4 fr hlr2
            go_wp2_with (at_builtin; refine push_rowx rfl (.tmp 35) (.tmp 37) rfl w.heap.size _ L lr2 (some ⟨wr.heap.size, 0, none⟩) N N HLR.out rfl rfl M0.out hlen hb4 FR.out (by rw [HLR.out]; exact Nat.le_refl _) HARR.out ?_; intro s' w7 hown hgrow; have HG := Lib.hid hgrow; clear hgrow; have HW := Lib.hid hown; clear hown)
            go_roundw
            case rel =>
              refine ⟨k + 1, L ++ [lr2], by omega, by go_num, HW.out, ⟨by simp; omega, fun r hr => ?_⟩, HC.out.push HG.out (fun q h => ?_), only_push HO.out HG.out HBS.out⟩
              · rcases List.mem_append.1 hr with h | h
                · exact HR.out r h
                · simp at h; subst h; exact HLR.out
              · have := HBS.out q h; omega
            case measure => simp [intOf]; omega
        · rw [hd]
          clear hd
          have hm4 := hm3; have hc4 := hc3; have hO4 := hO3; have o4 := o3
          clear hm3 hc3 hO3 o3
          · skip
            have hbs := fun q h => (hm4.base (g := q) h).1
            have HBS := Lib.hid hbs; clear hbs
            have hb4 := hO4.size
            have M0 := Lib.hid hm4; clear hm4
            have HC := Lib.hid hc4; clear hc4
            have HO := Lib.hid hO4; clear hO4
            have hob : ∀ q, (Value.slice A L.length c).ownBlock = some q → q < wr.heap.size := fun q h => HOB.out q h
            have hAr : ∀ b' off, (some ⟨wr.heap.size, 0, none⟩ : Option Addr) = some ⟨b', off, none⟩ → w.heap.size ≤ b' ∧ (Value.slice A L.length c).ownBlock ≠ some b' ∧ b' < w4.heap.size := fun b' off e => by
              injection e with e; injection e with e; subst e
              exact ⟨by omega, fun e2 => by have := hob _ e2; omega, o4.lt⟩
            have HARR := Lib.hid hAr; clear hAr hob HOB
            have fr := o4.row
            obtain ⟨lr2, hlr2⟩ : ∃ l, l = (List.range N).map (fun j => if j = k then (1 : Int) else 0) := ⟨_, rfl⟩
            have HLR : Go.RowKit.Hid (lr2.length = N) := Lib.hid (by rw [hlr2]; simp)
            rw [← hlr2] at fr
            have FR : Go.RowKit.Hid (Fl w4 (some ⟨wr.heap.size, 0, none⟩) lr2.length 1 (gl lr2)) := Lib.hid (by rw [HLR.out]; exact fr)
            clear o4 fr hlr2
            go_wp2_with (at_builtin; refine push_rowx rfl (.tmp 35) (.tmp 37) rfl w.heap.size _ L lr2 (some ⟨wr.heap.size, 0, none⟩) N N HLR.out rfl rfl M0.out hlen hb4 FR.out (by rw [HLR.out]; exact Nat.le_refl _) HARR.out ?_; intro s' w7 hown hgrow; have HG := Lib.hid hgrow; clear hgrow; have HW := Lib.hid hown; clear hown)
            go_roundw
            case rel =>
              refine ⟨k + 1, L ++ [lr2], by omega, by go_num, HW.out, ⟨by simp; omega, fun r hr => ?_⟩, HC.out.push HG.out (fun q h => ?_), only_push HO.out HG.out HBS.out⟩
              · rcases List.mem_append.1 hr with h | h
                · exact HR.out r h
                · simp at h; subst h; exact HLR.out
              · have := HBS.out q h; omega
            case measure => simp [intOf]; omega
      · have hl8' : ¬ (L.length : Int) < 8 := by omega
        have HC := Lib.hid hc; clear hc
        have HO := Lib.hid hO; clear hO
        have M0 := Lib.hid m0; clear m0
        go_wp2_with fail
        go_ret
        first | exact ⟨_, L, rfl, ⟨M0.out, hl, N, hN1, HR.out⟩, HC.out, HO.out⟩ | exact ⟨_, rfl, ⟨L, M0.out, hl, N, hN1, HR.out⟩, HC.out, HO.out⟩
    · have HC := Lib.hid hc; clear hc
      have HO := Lib.hid hO; clear hO
      have M0 := Lib.hid m0; clear m0
      go_wp2_with fail
      go_ret
      first | exact ⟨_, L, rfl, ⟨M0.out, hl, N, hN1, HR.out⟩, HC.out, HO.out⟩ | exact ⟨_, rfl, ⟨L, M0.out, hl, N, hN1, HR.out⟩, HC.out, HO.out⟩
end Go.Proofs.Ytmnmnkenboejpaa
