/- The contracts of SolveDesign. -/
import Derived.Test.YtmnmnkenboejpaaFrO
import Derived.Test.YtmnmnkenboejpaaResi
namespace Go.Proofs.Ytmnmnkenboejpaa
open Go.RowKit
set_option linter.unusedSimpArgs false
set_option linter.unusedVariables false
set_option maxHeartbeats 4000000
/-- Does SolveDesign answer? -/
def soB (L : List (List Int)) (n : Nat) (v : Nat → Int) : Bool := rdB L n v && frO (gl (topsL L v)) (detG L) (L.getD 0 []).length
set_option maxRecDepth 100000 in
theorem impl_Solve (A B : Option Addr) (c d n : Nat) (L : List (List Int)) (v : Nat → Int) (w : World) (hn : L.length ≤ 1048576) (hr : ∀ r ∈ L, r.length ≤ 1048576) (hn2 : n ≤ 1048576) (f0 : Fm w A L) (f1 : Fl w B n 1 v) :
    Calls Try.prog 32 #[.slice A L.length c, .slice B n d] w fun e w' => ∃ s, e = .returned (.tuple #[s, .bool (soB L n v)]) ∧ (soB L n v = true → OwnF w' w.heap.size s (L.getD 0 []).length (frL (gl (topsL L v)) (detG L) (L.getD 0 []).length)) ∧ Below w.heap.size w w' := by
  have hRd := fun w f g => impl_ReadingsOk A B c d n L v w hn hr hn2 f g
  rcases Bool.eq_false_or_eq_true (rdB L n v) with ht | ht
  · rw [ht] at hRd
    obtain ⟨hd, hnL⟩ := rdB_at ht
    have hSo := fun w f g => impl_solved A B c d n L v w hd hnL f g
    have hm4 := (des_at hd).2.1.2
    have hv : soB L n v = frO (gl (topsL L v)) (detG L) (L.getD 0 []).length := by unfold soB; rw [ht]; rfl
    rw [hv]
    clear hv
    generalize hm : (L.getD 0 []).length = m at *
    generalize detG L = D at *
    generalize gl (topsL L v) = T at *
    rw [← hnL] at hRd ⊢
    clear hd hm ht hr hn hnL
    obtain ⟨b0, hb0⟩ : ∃ b, b = frO T D m := ⟨_, rfl⟩
    rw [← hb0]
    have HB0 := Lib.hid hb0; clear hb0
    go_enter Try.func32, Try.ntmps32
    go_wp2_with fail
    with_reducible refine (hRd _ f0 f1).mono ?_
    rintro _ w1 ⟨rfl, hb⟩
    replace f0 := f0.below hb
    replace f1 := f1.below hb
    go_wp2_with fail
    with_reducible refine (hSo _ f0 f1).mono ?_
    rintro _ w2 ⟨A', c', rfl, ft, hb2⟩
    replace hb := below_step hb hb2
    have HFT := Lib.hid ft
    have HB := Lib.hid hb
    clear hRd hSo f0 f1 hb2 ft hb
    go_wp2_with fail
    go_loopw [8, 25] (fun s i wr => ∃ k : Nat, k ≤ m ∧ i = .int .i64 k ∧ OwnF wr w2.heap.size s k (frL T D k) ∧ Go.RowKit.Hid (frO T D k = true) ∧ Below w2.heap.size w2 wr) (fun _ i _ => m - (intOf i).toNat)
    case atStart => exact ⟨0, Nat.zero_le _, rfl, OwnF.nil _ _, Lib.hid rfl, Below.refl _ _⟩
    case round =>
      obtain ⟨k, hk, rfl, p0, HO, hB2⟩ := hrel
      by_cases hkm : k < m
      · obtain ⟨bt, ot, rfl, hct⟩ := (HFT.out.below hB2) (by omega)
        have c0 := hct k (by omega)
        have hMk := fun w => impl_Make (T k) D w
        simp only [mkV_eq] at hMk
        have hnx : frL T D (k + 1) = frL T D k ++ [mkT (T k) D, mkB (T k) D] := rfl
        have HNX := Lib.hid hnx; clear hnx
        rcases Bool.eq_false_or_eq_true (mkO (T k) D) with ho | ho
        · have HO1 := Lib.hid (show frO T D (k + 1) = true from by unfold frO; simp only [allN, Bool.and_eq_true]; exact ⟨HO.out, ho⟩)
          rw [ho] at hMk
          generalize mkT (T k) D = X at *
          generalize mkB (T k) D = Y at *
          clear ho hct
          have htl : k ≤ 1048576 := by omega
          have hB0 := hB2.size
          have hlt := fun q h => (p0.base (g := q) h).1
          have HLT := Lib.hid hlt; clear hlt
          have P0 := Lib.hid p0; clear p0
          have HB2 := Lib.hid hB2; clear hB2
          go_wp2_with fail
          with_reducible refine (hMk _).mono ?_
          rintro _ w3 ⟨rfl, hb3⟩
          have p1 := P0.out.below hb3
          have hba := below_alloc (Below.refl w3.heap.size w3) (.cells #[.int .i64 X, .int .i64 Y] 45)
          have p2 := p1.below hba
          have hB3 := below_step (below_step HB2.out hb3) hba
          have hB4 := hB3.size
          have P2 := Lib.hid p2
          have HB3 := Lib.hid hB3
          clear hMk p1 p2 hba hB3 hb3 HB2 P0
          go_wp2_with (at_builtin; refine push_fr rfl (.tmp 37) (.tmp 39) rfl w2.heap.size _ k (frL T D k) X Y rfl (by rw [World.size_alloc]; rfl) P2.out htl hB4 ?_; intro s' w4 hown hgrow _; have HG := Lib.hid hgrow; clear hgrow; have HW := Lib.hid hown; clear hown)
          go_roundw
          case rel => exact ⟨k + 1, by omega, by go_num, by rw [HNX.out]; exact HW.out, HO1, HB3.out.grown HG.out hB4 HLT.out⟩
          case measure => simp [intOf]; omega
        · have hb : b0 = false := by
            rw [HB0.out]
            exact allN_no (p := fun k => mkO (T k) D) hkm ho
          subst hb
          rw [ho] at hMk
          generalize mkT (T k) D = X at *
          generalize mkB (T k) D = Y at *
          have HB2 := Lib.hid (below_step HB.out hB2)
          clear ho hct HNX p0 hB2
          go_wp2_with fail
          with_reducible refine (hMk _).mono ?_
          rintro _ w3 ⟨rfl, hb3⟩
          go_wp2_with fail
          refine bodyPost_ret (v := .tuple #[.slice none 0 0, .bool false]) (by simp [results, Try.results32, go_sem]) rfl ?_
          refine ⟨_, rfl, (fun h => by cases h), ?_⟩
          have hB3 := below_step HB2.out hb3
          (repeat (first | exact Below.refl _ _ | assumption | (refine Below.drew ?_) | (refine below_alloc ?_ _) | (refine Below.setCell ?_ (by first | (simp; done) | (simp; omega) | omega | (have hq := hB.size; (try simp at hq ⊢); omega)) _) | (refine Below.alloc ?_ (by first | (simp; done) | (simp; omega) | omega | (have hq := hB.size; (try simp at hq ⊢); omega)) _) | (refine below_step ?_ (by assumption))))
      · obtain rfl : k = m := by omega
        have hb : b0 = true := by rw [HB0.out]; exact HO.out
        subst hb
        have HK := Lib.hid (p0.lift HB.out.size)
        have HB2 := Lib.hid (below_step HB.out hB2)
        clear p0 hB2 HO
        go_wp2_with fail
        refine bodyPost_ret (by first | (simp [results, Try.results32, go_sem]; done) | (simp [results, Try.results32, go_sem]; rfl)) rfl ?_
        first | exact ⟨_, rfl, (fun _ => HK.out), HB2.out⟩ | exact ⟨_, rfl, HK.out, HB2.out⟩
  · have hv : soB L n v = false := by unfold soB; rw [ht]; rfl
    rw [ht] at hRd
    rw [hv]
    clear hv ht
    go_enter Try.func32, Try.ntmps32
    go_wp2_with fail
    with_reducible refine (hRd _ f0 f1).mono ?_
    rintro _ w1 ⟨rfl, hb⟩
    go_wp2_with fail
    refine bodyPost_ret (v := .tuple #[.slice none 0 0, .bool false]) (by simp [results, Try.results32, go_sem]) rfl ?_
    exact ⟨_, rfl, (fun h => by cases h), hb⟩
set_option maxRecDepth 100000 in
theorem spec_Solve (A B : Option Addr) (c d n : Nat) (L : List (List Int)) (v : Nat → Int) (w : World) (hn : L.length ≤ 1048576) (hr : ∀ r ∈ L, r.length ≤ 1048576) (hn2 : n ≤ 1048576) (f0 : Fm w A L) (f1 : Fl w B n 1 v) :
    Calls Try.prog 58 #[.slice A L.length c, .slice B n d] w fun e w' => ∃ s, e = .returned (.tuple #[s, .bool (soB L n v)]) ∧ Below w.heap.size w w' := by
  have hRd := fun w f g => spec_ReadingsOk A B c d n L v w hn hr hn2 f g
  have k0 : OwnF (w.alloc (.cells #[] 45)) w.heap.size (.slice (some ⟨w.heap.size, 0, none⟩) 0 0) 0 [] := OwnF.empty (Nat.le_refl _)
  have hba := below_alloc (Below.refl w.heap.size w) (.cells #[] 45)
  have HK0 := Lib.hid k0; clear k0
  have HBA := Lib.hid hba; clear hba
  replace f0 := f0.below HBA.out
  replace f1 := f1.below HBA.out
  rcases Bool.eq_false_or_eq_true (rdB L n v) with ht | ht
  · rw [ht] at hRd
    obtain ⟨hd, hnL⟩ := rdB_at ht
    have hG := gram_sq hd
    have hGr := fun w f => spec_GramOf A c L w hd f
    have hDt := fun A c w f => spec_det (L.getD 0 []).length A c (gramL L) w hG.len hG.row (by have := hG.m4; omega) f
    have hSo := fun w f g => spec_Tops A B c d n L v w hd hnL f g
    have hm4 := (des_at hd).2.1.2
    have hglen : (gramL L).length = (L.getD 0 []).length := gram_len
    have hdt : detG L = detF (L.getD 0 []).length (gramL L) := rfl
    have hv : soB L n v = frO (gl (topsL L v)) (detG L) (L.getD 0 []).length := by unfold soB; rw [ht]; rfl
    rw [hv]
    clear hv
    rw [← hdt] at hDt
    clear hdt
    generalize hm : (L.getD 0 []).length = m at *
    generalize detG L = D at *
    generalize gl (topsL L v) = T at *
    have HGL := Lib.hid hglen; clear hglen
    rw [← hnL] at hRd hGr ⊢
    clear hd hm ht hr hn hnL hG
    obtain ⟨b0, hb0⟩ : ∃ b, b = frO T D m := ⟨_, rfl⟩
    rw [← hb0]
    have HB0 := Lib.hid hb0; clear hb0
    go_enter Try.func58, Try.ntmps58
    go_wp2_with fail
    with_reducible refine (hRd _ f0 f1).mono ?_
    rintro _ w1 ⟨rfl, hb⟩
    replace f0 := f0.below hb
    replace f1 := f1.below hb
    have HK1 := Lib.hid (HK0.out.below hb)
    replace hb := below_step HBA.out hb
    clear HK0 HBA hRd
    go_wp2_with fail
    with_reducible refine (hGr _ f0).mono ?_
    rintro _ w2 ⟨sg, rfl, og, hb2⟩
    obtain ⟨Ag, cg, rfl, fg, _⟩ := og.outc
    rw [HGL.out]
    have HK2 := Lib.hid (HK1.out.below hb2)
    replace hb := below_step hb hb2
    replace f0 := f0.below hb2
    replace f1 := f1.below hb2
    clear og hb2 HK1 hGr
    go_wp2_with fail
    with_reducible refine (hDt _ _ _ fg).mono ?_
    rintro _ w3 ⟨rfl, hb2⟩
    have HK3 := Lib.hid (HK2.out.below hb2)
    replace hb := below_step hb hb2
    replace f0 := f0.below hb2
    replace f1 := f1.below hb2
    clear hb2 HK2 hDt fg
    go_wp2_with fail
    with_reducible refine (hSo _ f0 f1).mono ?_
    rintro _ w4 ⟨A', c', rfl, ft, hA', hb2⟩
    have hno : ∀ b off, A' = some ⟨b, off, none⟩ → (Value.slice (some ⟨w.heap.size, 0, none⟩) 0 0).ownBlock ≠ some b := fun b off e e2 => by have := hA' b off e; have := (HK3.out.base e2).2; omega
    have HNO := Lib.hid hno; clear hno hA'
    have HK4 := Lib.hid (HK3.out.below hb2)
    replace hb := below_step hb hb2
    have HFT := Lib.hid ft
    have HB := Lib.hid hb
    clear hSo f0 f1 hb2 ft hb HK3
    go_wp2_with fail
    go_loopw [6, 9] (fun s i wr => ∃ k : Nat, k ≤ m ∧ i = .int .i64 k ∧ OwnF wr w.heap.size s k (frL T D k) ∧ Go.RowKit.Hid (frO T D k = true) ∧ Below w.heap.size w wr ∧ Fl wr A' m 1 T ∧ ∀ b off, A' = some ⟨b, off, none⟩ → s.ownBlock ≠ some b) (fun _ i _ => m - (intOf i).toNat)
    case atStart => exact ⟨0, Nat.zero_le _, rfl, HK4.out, Lib.hid rfl, HB.out, HFT.out, HNO.out⟩
    case round =>
      clear HFT HB HK4 HNO
      obtain ⟨k, hk, rfl, p0, HO, hB2, ft, hno⟩ := hrel
      by_cases hkm : k < m
      · have FT := Lib.hid ft
        obtain ⟨bt, ot, rfl, hct⟩ := ft (by omega)
        have hne := hno bt ot rfl
        have c0 := hct k (by omega)
        have hlb : bt < wr.heap.size := by have := lt_of_cell (hct 0 (by omega)); simpa using this
        have hMk := fun w => spec_Make (T k) D w
        simp only [mkV_eq] at hMk
        have hnx : frL T D (k + 1) = frL T D k ++ [mkT (T k) D, mkB (T k) D] := rfl
        have HNX := Lib.hid hnx; clear hnx
        clear hno
        rcases Bool.eq_false_or_eq_true (mkO (T k) D) with ho | ho
        · have HO1 := Lib.hid (show frO T D (k + 1) = true from by unfold frO; simp only [allN, Bool.and_eq_true]; exact ⟨HO.out, ho⟩)
          rw [ho] at hMk
          generalize mkT (T k) D = X at *
          generalize mkB (T k) D = Y at *
          clear ho hct
          have htl : k ≤ 1048576 := by omega
          have hlt := fun q h => (p0.base (g := q) h).1
          have HLT := Lib.hid hlt; clear hlt
          have P0 := Lib.hid p0; clear p0
          have HB2 := Lib.hid hB2; clear hB2
          have HNE := Lib.hid hne; clear hne
          go_wp2_with fail
          with_reducible refine (hMk _).mono ?_
          rintro _ w5 ⟨rfl, hb3⟩
          have p1 := P0.out.below hb3
          have hba := below_alloc (Below.refl w5.heap.size w5) (.cells #[.int .i64 X, .int .i64 Y] 45)
          have p2 := p1.below hba
          have hB3 := below_step (below_step HB2.out hb3) hba
          have hB4 := hB3.size
          have P2 := Lib.hid p2
          have HB3 := Lib.hid hB3
          have F2 := Lib.hid ((FT.out.below hb3).below hba)
          have hlb2 : bt < (w5.alloc (.cells #[.int .i64 X, .int .i64 Y] 45)).heap.size := by have := hb3.size; simp; omega
          clear hMk p1 p2 hba hB3 hb3 HB2 P0
          go_wp2_with (at_builtin; refine push_fr rfl (.tmp 42) (.tmp 44) rfl w.heap.size _ k (frL T D k) X Y rfl (by rw [World.size_alloc]; rfl) P2.out htl hB4 ?_; intro s' w4 hown hgrow hat; have HG := Lib.hid hgrow; clear hgrow; have HW := Lib.hid hown; clear hown; have HAT := Lib.hid hat; clear hat)
          go_roundw
          case rel =>
            refine ⟨k + 1, by omega, by go_num, by rw [HNX.out]; exact HW.out, HO1, HB3.out.grown HG.out hB4 HLT.out, fun hm => ?_, fun b off e => ?_⟩
            · obtain ⟨b, off, e, hcc⟩ := F2.out hm
              refine ⟨b, off, e, fun q hq => HG.out.cell (hcc q hq) (fun e2 => HNE.out ?_)⟩
              injection e with e
              injection e with e
              rw [e]; exact e2.symm
            · injection e with e
              injection e with e
              rw [← e]
              exact HAT.out bt hlb2 HNE.out
          case measure => simp [intOf]; omega
        · have hb : b0 = false := by
            rw [HB0.out]
            exact allN_no (p := fun k => mkO (T k) D) hkm ho
          subst hb
          rw [ho] at hMk
          generalize mkT (T k) D = X at *
          generalize mkB (T k) D = Y at *
          have HB2 := Lib.hid hB2
          clear ho hct HNX p0 hB2
          go_wp2_with fail
          with_reducible refine (hMk _).mono ?_
          rintro _ w5 ⟨rfl, hb3⟩
          have hB3 := below_step HB2.out hb3
          have HB3 := Lib.hid hB3
          clear hB3
          go_wp2_with fail
          refine bodyPost_ret (by first | (simp [results, Try.results58, go_sem]; done) | (simp [results, Try.results58, go_sem]; rfl)) rfl ?_
          refine ⟨_, rfl, ?_⟩
          have hB3 := HB3.out
          (repeat (first | exact Below.refl _ _ | assumption | (refine Below.drew ?_) | (refine below_alloc ?_ _) | (refine Below.setCell ?_ (by first | (simp; done) | (simp; omega) | omega | (have hq := hB.size; (try simp at hq ⊢); omega)) _) | (refine Below.alloc ?_ (by first | (simp; done) | (simp; omega) | omega | (have hq := hB.size; (try simp at hq ⊢); omega)) _) | (refine below_step ?_ (by assumption))))
      · obtain rfl : k = m := by omega
        have hb : b0 = true := by rw [HB0.out]; exact HO.out
        subst hb
        have HB2 := Lib.hid hB2
        clear p0 hB2 HO
        go_wp2_with fail
        refine bodyPost_ret (by first | (simp [results, Try.results58, go_sem]; done) | (simp [results, Try.results58, go_sem]; rfl)) rfl ?_
        exact ⟨_, rfl, HB2.out⟩
  · have hv : soB L n v = false := by unfold soB; rw [ht]; rfl
    rw [ht] at hRd
    rw [hv]
    clear hv ht
    go_enter Try.func58, Try.ntmps58
    go_wp2_with fail
    with_reducible refine (hRd _ f0 f1).mono ?_
    rintro _ w1 ⟨rfl, hb⟩
    have hB := below_step HBA.out hb
    clear HBA hb
    go_wp2_with fail
    refine bodyPost_ret (by first | (simp [results, Try.results58, go_sem]; done) | (simp [results, Try.results58, go_sem]; rfl)) rfl ?_
    exact ⟨_, rfl, hB⟩
end Go.Proofs.Ytmnmnkenboejpaa
