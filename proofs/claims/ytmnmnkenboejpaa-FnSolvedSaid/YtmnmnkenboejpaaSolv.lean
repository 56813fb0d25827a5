/- The contracts of solved and l24Tops. -/
import Derived.Test.YtmnmnkenboejpaaRdy
namespace Go.Proofs.Ytmnmnkenboejpaa
open Go.RowKit
set_option linter.unusedSimpArgs false
set_option linter.unusedVariables false
set_option maxHeartbeats 4000000
def rightL (L : List (List Int)) (v : Nat → Int) : List Int := (List.range (L.getD 0 []).length).map fun k => dotV (gl (colL L k)) v L.length
def topsL (L : List (List Int)) (v : Nat → Int) : List Int := (List.range (L.getD 0 []).length).map fun i => dotV (gl (adjR (L.getD 0 []).length (gramL L) i)) (gl (rightL L v)) (L.getD 0 []).length
set_option maxRecDepth 100000 in
theorem impl_solved (A B : Option Addr) (c d n : Nat) (L : List (List Int)) (v : Nat → Int) (w : World) (hd : desB L = true) (hnL : n = L.length) (f0 : Fm w A L) (f1 : Fl w B n 1 v) :
    Calls Try.prog 44 #[.slice A n c, .slice B n d] w fun e w' => ∃ A' c', e = .returned (.tuple #[.slice A' (L.getD 0 []).length c', .int .i64 (detG L)]) ∧ Fl w' A' (L.getD 0 []).length 1 (gl (topsL L v)) ∧ Below w.heap.size w w' := by
  obtain ⟨⟨hL1, hL8⟩, ⟨hm1, hm4⟩, hrl, _⟩ := des_at hd
  have hG := gram_sq hd
  have hGr := fun w f => impl_GramOf A c L w hd f
  rw [← hnL] at hGr
  have hAd := fun A c w f => impl_AdjugateOf (L.getD 0 []).length A c (gramL L) w hG f
  have hDt := fun A c w f => impl_det (L.getD 0 []).length A c (gramL L) w hG.len hG.row (by omega) f
  have hglen : (gramL L).length = (L.getD 0 []).length := gram_len
  obtain ⟨m, hm⟩ : ∃ m, m = (L.getD 0 []).length := ⟨_, rfl⟩
  have hr2 : ∀ r ∈ L, r.length ≤ 1048576 := fun r hr => by have := hrl r hr; omega
  have hdt : detG L = detF m (gramL L) := by unfold detG; rw [← hm]
  have hrt : rightL L v = (List.range m).map fun k => dotV (gl (colL L k)) v n := by unfold rightL; rw [← hm, ← hnL]
  have htp : topsL L v = (List.range m).map fun i => dotV (gl (adjR m (gramL L) i)) (gl (rightL L v)) m := by unfold topsL; rw [← hm]
  rw [← hm] at hAd hDt hm1 hm4 hrl hglen ⊢
  rw [← hdt] at hDt
  obtain ⟨D, hD⟩ : ∃ D, D = detG L := ⟨_, rfl⟩
  rw [← hD] at hDt ⊢
  have hCol := fun i w (hi : i < m) f => impl_column A c L i w (by omega) (fun r hr => ⟨by have := hrl r hr; omega, hr2 r hr⟩) f
  rw [← hnL] at hCol
  have HF := Lib.hid f0
  have HF1 := Lib.hid f1
  have HRT := Lib.hid hrt; clear hrt
  have HTP := Lib.hid htp; clear htp
  have HGL := Lib.hid hglen; clear hglen
  have HNL := Lib.hid hnL
  obtain ⟨b, off, e0, hc⟩ := f0 (by omega)
  obtain ⟨r0, hr0⟩ : ∃ r, L[0]? = some r := ⟨_, List.getElem?_eq_getElem (by omega)⟩
  obtain ⟨Ai, ci, c0, _⟩ := hc 0 r0 hr0
  have hr0m : r0.length = m := hrl r0 (List.mem_of_getElem? hr0)
  rw [Nat.add_zero, hr0m] at c0
  rw [← hnL] at hL1 hL8
  have hn0 : (0 : Int) < (n : Int) := by omega
  have hn0' : 0 < n := by omega
  clear hc hr0 hr0m hrl hr2 hm hnL hdt hD hd hG f1
  subst e0
  go_enter Try.func44, Try.ntmps44
  go_wp2_with fail
  with_reducible refine (hGr _ f0).mono ?_
  rintro _ W ⟨sg, rfl, og, hB⟩
  replace c0 := below_cell hB c0
  clear hGr f0
  obtain ⟨Ag, cg, rfl, fg, _⟩ := og.outc
  rw [HGL.out]
  have HG := Lib.hid fg; clear fg og
  have HB := Lib.hid hB; clear hB
  go_wp2_with fail
  go_loopw [7, 18] (fun s i wr => ∃ j : Nat, j ≤ m ∧ i = .int .i64 j ∧ OwnS wr W.heap.size s ((rightL L v).take j) ∧ Below W.heap.size W wr) (fun _ i _ => m - (intOf i).toNat)
  case atStart => exact ⟨0, Nat.zero_le _, rfl, OwnS.nil _ _, Below.refl _ _⟩
  case round =>
    obtain ⟨k, hk, rfl, p0, hB2⟩ := hrel
    by_cases hkm : k < m
    · have htk : (rightL L v).take (k + 1) = (rightL L v).take k ++ [dotV (gl (colL L k)) v n] := by rw [HRT.out]; exact take_map_range _ _ _ hkm
      have HTK2 := Lib.hid htk; clear htk
      have hf0 := HF.out.below (below_step HB.out hB2)
      have hf1 := HF1.out.below (below_step HB.out hB2)
      go_wp2_with fail
      with_reducible refine (hCol k _ hkm hf0).mono ?_
      rintro _ w1 ⟨s1, rfl, o1, hb1⟩
      replace p0 := p0.below hb1
      replace hB2 := below_step hB2 hb1
      replace hf1 := hf1.below hb1
      obtain ⟨A1, d1, rfl, f1, _⟩ := o1.out
      have hl1 : (colL L k).length = n := by rw [HNL.out]; simp [colL]
      rw [hl1] at f1
      have hP := fun w f g => impl_product A1 B n n d1 d (gl (colL L k)) v w (by omega) (Nat.le_refl _) f g
      rw [hl1]
      obtain ⟨x, hx⟩ : ∃ x, x = dotV (gl (colL L k)) v n := ⟨_, rfl⟩
      rw [← hx] at hP HTK2
      clear hb1 o1 hl1 hf0 hx
      go_wp2_with fail
      with_reducible refine (hP _ f1 hf1).mono ?_
      rintro _ w3 ⟨rfl, hb3⟩
      replace p0 := p0.below hb3
      replace hB2 := below_step hB2 hb3
      clear hb3 f1 hP hf1
      have htl : ((rightL L v).take k).length ≤ 1048576 := by rw [HRT.out]; simp; omega
      have hB0 := hB2.size
      have hlt := fun q h => (p0.base (g := q) h).1
      have HLT := Lib.hid hlt; clear hlt
      go_wp2_with (at_builtin; refine push_one rfl (.tmp 21) (.tmp 27) rfl W.heap.size _ _ x rfl rfl p0 htl hB0 ?_; intro s' w4 hown hgrow; have HG := Lib.hid hgrow; clear hgrow; have HW := Lib.hid hown; clear hown)
      go_roundw
      case rel => exact ⟨k + 1, by omega, by go_num, by rw [HTK2.out]; exact HW.out, hB2.grown HG.out hB0 HLT.out⟩
      case measure => simp [intOf]; omega
    · obtain rfl : k = m := by omega
      have htk : (rightL L v).take k = rightL L v := List.take_of_length_le (by rw [HRT.out]; simp)
      rw [htk] at p0
      clear htk
      obtain ⟨Ar, cr, rfl, fr, _⟩ := p0.outc
      have hrlen : (rightL L v).length = k := by rw [HRT.out]; simp
      rw [hrlen] at fr
      have hgg := HG.out.below hB2
      have HB2 := Lib.hid (below_step HB.out hB2)
      rw [hrlen]
      have hB3 := hB2.size
      clear p0 hB2 hrlen HB c0
      go_wp2_with fail
      with_reducible refine (hAd _ _ _ hgg).mono ?_
      rintro _ W2 ⟨sa, rfl, oa, hb⟩
      replace fr := fr.below hb
      replace hgg := hgg.below hb
      have HB3 := Lib.hid (below_step HB2.out hb)
      obtain ⟨Aa, ca, rfl, fa, _⟩ := oa.outc
      have halen : (adjL k (gramL L)).length = k := by simp [adjL]
      rw [halen]
      have HA := Lib.hid fa
      have HR := Lib.hid fr
      have HG2 := Lib.hid hgg
      clear hAd hb oa halen HB2 hB3 fa fr hgg
      go_wp2_with fail
      go_loopw [9, 33] (fun s i wr => ∃ j : Nat, j ≤ k ∧ i = .int .i64 j ∧ OwnS wr W2.heap.size s ((topsL L v).take j) ∧ Below W2.heap.size W2 wr) (fun _ i _ => k - (intOf i).toNat)
      case atStart => exact ⟨0, Nat.zero_le _, rfl, OwnS.nil _ _, Below.refl _ _⟩
      case round =>
        obtain ⟨j, hj, rfl, p0, hB2⟩ := hrel
        by_cases hjm : j < k
        · have htk : (topsL L v).take (j + 1) = (topsL L v).take j ++ [dotV (gl (adjR k (gramL L) j)) (gl (rightL L v)) k] := by rw [HTP.out]; exact take_map_range _ _ _ hjm
          have HTK2 := Lib.hid htk; clear htk
          have hf0 := HA.out.below hB2
          have hf1 := HR.out.below hB2
          obtain ⟨ba, oa, rfl, hca⟩ := hf0 (by simp [adjL]; omega)
          obtain ⟨Aj, cj, ca1, fj, _⟩ := hca j (adjR k (gramL L) j) (by simp [adjL, hjm])
          have hrl : (adjR k (gramL L) j).length = k := by simp [adjR]
          rw [hrl] at ca1 fj
          have hj1 : (j : Int) < (k : Int) := by omega
          have hj0 : (0 : Int) ≤ (j : Int) := Int.natCast_nonneg _
          have hP := fun w f g => impl_product Aj Ar k k cj cr (gl (adjR k (gramL L) j)) (gl (rightL L v)) w (by omega) (Nat.le_refl _) f g
          obtain ⟨x, hx⟩ : ∃ x, x = dotV (gl (adjR k (gramL L) j)) (gl (rightL L v)) k := ⟨_, rfl⟩
          rw [← hx] at hP HTK2
          clear hca hrl hx hf0
          go_wp2_with fail
          with_reducible refine (hP _ fj hf1).mono ?_
          rintro _ w3 ⟨rfl, hb3⟩
          replace p0 := p0.below hb3
          replace hB2 := below_step hB2 hb3
          clear hb3 fj hP hf1
          have htl : ((topsL L v).take j).length ≤ 1048576 := by rw [HTP.out]; simp; omega
          have hB0 := hB2.size
          have hlt := fun q h => (p0.base (g := q) h).1
          have HLT := Lib.hid hlt; clear hlt
          go_wp2_with (at_builtin; refine push_one rfl (.tmp 37) (.tmp 41) rfl W2.heap.size _ _ x rfl rfl p0 htl hB0 ?_; intro s' w4 hown hgrow; have HG := Lib.hid hgrow; clear hgrow; have HW := Lib.hid hown; clear hown)
          go_roundw
          case rel => exact ⟨j + 1, by omega, by go_num, by rw [HTK2.out]; exact HW.out, hB2.grown HG.out hB0 HLT.out⟩
          case measure => simp [intOf]; omega
        · obtain rfl : j = k := by omega
          have htk : (topsL L v).take j = topsL L v := List.take_of_length_le (by rw [HTP.out]; simp)
          rw [htk] at p0
          clear htk
          obtain ⟨At, ct, rfl, ft, _⟩ := p0.outc
          have htlen : (topsL L v).length = j := by rw [HTP.out]; simp
          rw [htlen] at ft
          have hgg := HG2.out.below hB2
          have HB2 := Lib.hid (below_step HB3.out hB2)
          rw [htlen]
          clear p0 hB2 htlen
          go_wp2_with fail
          with_reducible refine (hDt _ _ _ hgg).mono ?_
          rintro _ w3 ⟨rfl, hb3⟩
          replace ft := ft.below hb3
          have HB5 := Lib.hid (below_step HB2.out hb3)
          clear HB2 hb3 hgg
          go_wp2_with fail
          refine bodyPost_ret (v := .tuple #[.slice At j ct, .int .i64 D]) (by simp [results, Try.results44, go_sem]) rfl ?_
          exact ⟨At, ct, rfl, ft, HB5.out⟩
end Go.Proofs.Ytmnmnkenboejpaa
