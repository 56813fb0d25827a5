/- The readings that a determined design has of values, and their draw. -/
import Derived.Test.YtmnmnkenboejpaaDrawO
import Derived.Test.YtmnmnkenboejpaaBnd
namespace Go.Proofs.Ytmnmnkenboejpaa
open Go.RowKit
set_option linter.unusedSimpArgs false
set_option linter.unusedVariables false
set_option maxHeartbeats 4000000
set_option maxRecDepth 100000 in
theorem spec_Values (A B : Option Addr) (c d m : Nat) (L : List (List Int)) (x : Nat → Int) (w : World) (hd : desB L = true) (hm : (L.getD 0 []).length = m) (hx : ∀ k, k < m → (x k).natAbs ≤ 1000) (f0 : Fm w A L) (f1 : Fl w B m 1 x) :
    Calls Try.prog 78 #[.slice A L.length c, .slice B m d] w fun e w' => e = .returned (.bool true) ∧ Below w.heap.size w w' := by
  obtain ⟨⟨hL1, hL8⟩, ⟨hm1, hm4⟩, hrl, _⟩ := des_at hd
  rw [hm] at hm1 hm4 hrl
  have hDe := fun w f => spec_DesignOk A c L w (by omega) (fun r hr => by rw [hrl r hr]; omega) f
  rw [hd] at hDe
  obtain ⟨r0, hr0⟩ : ∃ r, L[0]? = some r := ⟨_, List.getElem?_eq_getElem (by omega)⟩
  have hr0l := hrl r0 (List.mem_of_getElem? hr0)
  have HF := Lib.hid f0; have HF1 := Lib.hid f1; have HX := Lib.hid hx; have HR0 := Lib.hid hr0
  obtain ⟨l0, hll⟩ : ∃ l, l = L.length := ⟨_, rfl⟩
  rw [← hll] at hL1 hL8 hDe ⊢
  have HLL := Lib.hid hll
  clear f0 f1 hx hr0 hd hm hrl hll
  go_enter Try.func78, Try.ntmps78
  go_wp2_with fail
  go_loopw [5] (fun i wr => ∃ k : Nat, k ≤ m ∧ i = .int .i64 k ∧ wr = w) (fun i _ => m - (intOf i).toNat)
  case atStart => exact ⟨0, Nat.zero_le _, rfl, rfl⟩
  case round =>
    obtain ⟨k, hk, rfl, rfl⟩ := hrel
    by_cases hkm : k < m
    · obtain ⟨b, off, rfl, hc⟩ := HF1.out (by omega)
      have c0 := hc k (by omega)
      have hin : inB (x k) (-1000) 1000 = true := inB_iff.2 (by have := HX.out k hkm; omega)
      clear hc
      go_wp2_with (go_at_call 59; (with_reducible refine (l01In_any _ _ _ _).mono ?_); rintro _ _ ⟨rfl, rfl⟩)
      go_roundw
      case rel => exact ⟨k + 1, by omega, by go_num, trivial⟩
      case measure => simp [intOf]; omega
    · obtain rfl : k = m := by omega
      go_wp2_with fail
      with_reducible refine (hDe _ HF.out).mono ?_
      rintro _ w1 ⟨rfl, hb⟩
      obtain ⟨b, off, rfl, hc⟩ := HF.out (by have := HLL.out; omega)
      obtain ⟨Ai, ci, c0, _⟩ := hc 0 r0 HR0.out
      rw [hr0l, Nat.add_zero] at c0
      replace c0 := below_cell hb c0
      have HB := Lib.hid hb
      clear hc hb hDe
      have hp0 : (0 : Int) < (l0 : Int) := by omega
      go_wp2_with fail
      go_ret
      exact ⟨rfl, HB.out⟩
/-- The readings of the values x. -/
def rdL (L : List (List Int)) (x : Nat → Int) : List Int := (List.range L.length).map fun j => dotV (gl (L.getD j [])) x (L.getD 0 []).length
set_option maxRecDepth 100000 in
theorem spec_Read (A B : Option Addr) (c d m : Nat) (L : List (List Int)) (x : Nat → Int) (w : World) (hd : desB L = true) (hm : (L.getD 0 []).length = m) (hx : ∀ k, k < m → (x k).natAbs ≤ 1000) (f0 : Fm w A L) (f1 : Fl w B m 1 x) :
    Calls Try.prog 66 #[.slice A L.length c, .slice B m d] w fun e w' => ∃ s, e = .returned s ∧ OwnS w' w.heap.size s (rdL L x) ∧ Below w.heap.size w w' := by
  have hV := fun w f g => spec_Values A B c d m L x w hd hm hx f g
  obtain ⟨⟨hL1, hL8⟩, ⟨hm1, hm4⟩, hrl, _⟩ := des_at hd
  rw [hm] at hm1 hm4 hrl
  have hres : rdL L x = (List.range L.length).map fun j => dotV (gl (L.getD j [])) x m := by unfold rdL; rw [hm]
  have k0 : OwnS (w.alloc (.cells #[] 3)) w.heap.size (.slice (some ⟨w.heap.size, 0, none⟩) 0 0) [] := OwnS.empty (Nat.le_refl _)
  have hba := below_alloc (Below.refl w.heap.size w) (.cells #[] 3)
  have HK0 := Lib.hid k0; clear k0
  have HBA := Lib.hid hba; clear hba
  have HF := Lib.hid f0; have HF1 := Lib.hid f1; have HRL := Lib.hid hrl
  obtain ⟨n, hnL⟩ : ∃ l, l = L.length := ⟨_, rfl⟩
  rw [← hnL] at hL1 hL8 hV hres ⊢
  have HNL := Lib.hid hnL
  have HRES := Lib.hid hres
  clear f0 f1 hx hd hm hrl hnL hres
  go_enter Try.func66, Try.ntmps66
  go_wp2_with fail
  go_loopw [5, 6] (fun s i wr => ∃ j : Nat, j ≤ n ∧ i = .int .i64 j ∧ OwnS wr w.heap.size s ((rdL L x).take j) ∧ Below w.heap.size w wr) (fun _ i _ => n - (intOf i).toNat)
  case atStart => exact ⟨0, Nat.zero_le _, rfl, HK0.out, HBA.out⟩
  case round =>
    clear HK0 HBA
    obtain ⟨j, hj, rfl, p0, hB⟩ := hrel
    by_cases hjn : j < n
    · obtain ⟨r, hrk⟩ : ∃ r, L[j]? = some r := ⟨_, List.getElem?_eq_getElem (by have := HNL.out; omega)⟩
      have hrm : r.length = m := HRL.out r (List.mem_of_getElem? hrk)
      have htk : (rdL L x).take (j + 1) = (rdL L x).take j ++ [dotV (gl r) x m] := by
        rw [HRES.out, ← getD_of hrk]; exact take_map_range _ _ _ hjn
      have HTK := Lib.hid htk; clear htk
      have P0 := Lib.hid p0; clear p0
      have HB := Lib.hid hB; clear hB
      have hf0 := HF.out.below HB.out
      have hf1 := HF1.out.below HB.out
      have HRK := Lib.hid hrk; clear hrk
      go_wp2_with fail
      with_reducible refine (hV _ hf0 hf1).mono ?_
      rintro _ W ⟨rfl, hb⟩
      have HB2 := Lib.hid (below_step HB.out hb)
      have P1 := Lib.hid (P0.out.below hb)
      clear hf0 hf1 hb P0 HB
      go_wp2_with fail
      go_loopw [7, 8] (fun s i wr => ∃ k : Nat, k ≤ m ∧ i = .int .i64 k ∧ s = .int .i64 (dotV (gl r) x k) ∧ Below W.heap.size W wr) (fun _ i _ => m - (intOf i).toNat)
      case atStart => exact ⟨0, Nat.zero_le _, rfl, rfl, Below.refl _ _⟩
      case round =>
        obtain ⟨k, hk, rfl, rfl, hB⟩ := hrel
        by_cases hkm : k < m
        · obtain ⟨b, off, rfl, hc⟩ := (HF.out.below (below_step HB2.out hB)) (by have := HNL.out; omega)
          obtain ⟨Ai, ci, c0, f1⟩ := hc j r HRK.out
          rw [hrm] at c0 f1
          obtain ⟨br, or, rfl, hcr⟩ := f1 (by omega)
          obtain ⟨bv, ov, rfl, hcv⟩ := (HF1.out.below (below_step HB2.out hB)) (by omega)
          have c1 := hcr k (by omega)
          have c2 := hcv k (by omega)
          clear hc hcr hcv f1
          have hj0 : (0 : Int) ≤ (j : Int) := Int.natCast_nonneg _
          have hj1 : (j : Int) < (n : Int) := by omega
          have hk0 : (0 : Int) ≤ (k : Int) := Int.natCast_nonneg _
          have hk1 : (k : Int) < (m : Int) := by omega
          obtain ⟨y, hy⟩ : ∃ y, y = dotV (gl r) x k := ⟨_, rfl⟩
          have hs1 : dotV (gl r) x (k + 1) = wrap64 (y + wrap64 (gl r k * x k)) := by rw [hy]; rfl
          rw [← hy]
          have HS := Lib.hid hs1; clear hs1 hy
          go_wp2_with fail
          (have Ec0 := ext_cell c0; have Ec1 := ext_cell c1; have Ec2 := ext_cell c2; refine calm_lit (by kernel_rfl) (by kernel_rfl) ?_; (repeat (first | go_big_quiet_step (fail) | simp only [TF])); refine wpQuiet_nil ?_; intro w1 hb; clear Ec0 Ec1 Ec2; replace c0 := below_cell hb c0; replace c1 := below_cell hb c1; replace c2 := below_cell hb c2; replace hB := below_step hB hb; clear hb)
          go_wp2_with fail
          go_roundw
          case rel => exact ⟨k + 1, by omega, by go_num, by rw [HS.out], by (repeat (first | exact Below.refl _ _ | assumption | (refine Below.drew ?_) | (refine below_alloc ?_ _) | (refine Below.setCell ?_ (by first | (simp; done) | (simp; omega) | omega | (have hq := hB.size; (try simp at hq ⊢); omega)) _) | (refine Below.alloc ?_ (by first | (simp; done) | (simp; omega) | omega | (have hq := hB.size; (try simp at hq ⊢); omega)) _) | (refine below_step ?_ (by assumption))))⟩
          case measure => simp [intOf]; omega
        · obtain rfl : k = m := by omega
          obtain ⟨y, hy⟩ : ∃ y, y = dotV (gl r) x k := ⟨_, rfl⟩
          rw [← hy] at HTK ⊢
          clear hy
          have p0 := P1.out.below hB
          have hB4 := below_step HB2.out hB
          have htl : ((rdL L x).take j).length ≤ 1048576 := by rw [HRES.out]; simp; omega
          have hB0 := hB4.size
          have hlt := fun q h => (p0.base (g := q) h).1
          have HLT := Lib.hid hlt; clear hlt
          have HB4 := Lib.hid hB4; clear hB4 hB
          have P0 := Lib.hid p0; clear p0
          go_wp2_with (at_builtin; refine push_one rfl (.tmp 41) (.tmp 43) rfl w.heap.size _ _ y rfl rfl P0.out htl hB0 ?_; intro s' w4 hown hgrow; have HG := Lib.hid hgrow; clear hgrow; have HW := Lib.hid hown; clear hown)
          go_roundw
          case rel => exact ⟨j + 1, by omega, by go_num, by rw [HTK.out]; exact HW.out, HB4.out.grown HG.out hB0 HLT.out⟩
          case measure => simp [intOf]; omega
    · obtain rfl : j = n := by omega
      have htk : (rdL L x).take j = rdL L x := List.take_of_length_le (by rw [HRES.out]; simp)
      rw [htk] at p0
      have HK := Lib.hid p0; clear p0
      have HB := Lib.hid hB; clear hB
      go_wp2_with fail
      go_ret
      exact ⟨_, rfl, HK.out, HB.out⟩
set_option maxRecDepth 100000 in
theorem spec_VList (w : World) (D g N : Nat) (A : Option Addr) (c : Nat) (L : List (List Int)) (hc : Cur w D g) (hDw : D ≤ w.heap.size) (hL : 1 ≤ L.length) (hm : (L.getD 0 []).length = N) (hN : N ≤ 4) (hf : Fmg w g A L) :
    Calls Try.prog 67 #[.pointer (some ⟨g, 0, none⟩), .slice A L.length c] w fun e w' => ∃ (s : Value) (l : List Int), e = .returned s ∧ (OwnS w' w.heap.size s l ∧ l.length = N ∧ ∀ x ∈ l, x.natAbs ≤ 20) ∧ Cur w' D g ∧ w.grownBy w' (some g) := by
  have hgl := hc.lt
  obtain ⟨r0, hr0⟩ : ∃ r, L[0]? = some r := ⟨_, List.getElem?_eq_getElem (by omega)⟩
  have hr0l : r0.length = N := by rw [← hm, List.getD_eq_getElem?_getD, hr0]; rfl
  have p0 : OwnS (w.alloc (.cells #[] 3)) w.heap.size (.slice (some ⟨w.heap.size, 0, none⟩) 0 0) [] := OwnS.empty (Nat.le_refl _)
  have hba := below_alloc (Below.refl w.heap.size w) (.cells #[] 3)
  have hc1 := hc.below hba
  have hO : w.grownBy (w.alloc (.cells #[] 3)) (some g) := only_of_below hba
  have P0 := Lib.hid p0; have HC1 := Lib.hid hc1; have HO := Lib.hid hO; have HF := Lib.hid hf; have HR0 := Lib.hid hr0
  obtain ⟨n, hnL⟩ : ∃ l, l = L.length := ⟨_, rfl⟩
  rw [← hnL] at hL ⊢
  have HNL := Lib.hid hnL
  clear hc p0 hc1 hO hf hba hr0 hm hnL
  have hp0 : (0 : Int) < (n : Int) := by omega
  go_enter Try.func67, Try.ntmps67
  go_wp2_with fail
  go_loopw [5, 6] (fun s i wr => ∃ (j : Nat) (l : List Int), j ≤ N ∧ i = .int .i64 j ∧ OwnS wr w.heap.size s l ∧ (l.length = j ∧ ∀ x ∈ l, x.natAbs ≤ 20) ∧ Cur wr D g ∧ w.grownBy wr (some g)) (fun _ i _ => N - (intOf i).toNat)
  case atStart => exact ⟨0, [], Nat.zero_le _, rfl, P0.out, ⟨rfl, fun x h => by cases h⟩, HC1.out, HO.out⟩
  case round =>
    clear P0 HC1 HO
    obtain ⟨j, l, hj, rfl, p0, ⟨hl, hx⟩, hc, hO⟩ := hrel
    have hf := HF.out.only hO
    have HL := Lib.hid hl; clear hl
    have HX := Lib.hid hx; clear hx
    obtain ⟨b, off, rfl, hbg, hcc⟩ := hf (by have := HNL.out; omega)
    obtain ⟨Ai, ci, c0, _⟩ := hcc 0 r0 HR0.out
    rw [hr0l, Nat.add_zero] at c0
    clear hcc
    by_cases hjN : j < N
    · have hlen : l.length ≤ 1048576 := by rw [HL.out]; omega
      have hjN2 : (j : Int) < (N : Int) := by omega
      have HC0 := Lib.hid hc; have HO0 := Lib.hid hO; have P0 := Lib.hid p0
      clear hc hO p0
      go_wp2_with fail
      with_reducible refine (spec_Below _ D g HC0.out _).mono ?_
      rintro _ w1 ⟨x, rfl, ⟨hx0, hx1, _⟩, hc, hg⟩
      have hx1 := hx1 (by decide)
      have hO := only_trans HO0.out hg
      have p0 := P0.out.only hg hgl
      have hs2 := hO.size
      have hb0 := fun q h => (p0.base (g := q) h).1
      have HB0 := Lib.hid hb0; clear hb0
      have HC := Lib.hid hc; have HO := Lib.hid hO
      clear hc hO hg c0 HC0 HO0 P0
      have P0 := Lib.hid p0; clear p0
      go_wp2_with (at_builtin; refine push_one rfl (.tmp 21) (.tmp 25) rfl w.heap.size _ l (x - 20) rfl rfl P0.out hlen hs2 ?_; intro s' w2 hown' hgrow; have HG := Lib.hid hgrow; clear hgrow)
      go_roundw
      case rel =>
        refine ⟨j + 1, l ++ [x - 20], by omega, by go_num, hown', ⟨by simp [HL.out], fun y hy => ?_⟩, HC.out.push HG.out (fun q h => ?_), only_push HO.out HG.out HB0.out⟩
        · rcases List.mem_append.1 hy with h | h
          · exact HX.out y h
          · simp at h; subst h; omega
        · have := HB0.out q h; omega
      case measure => simp [intOf]; omega
    · have hjN2 : ¬ (j : Int) < (N : Int) := by omega
      have HC := Lib.hid hc; clear hc
      have HO := Lib.hid hO; clear hO
      have P0 := Lib.hid p0; clear p0
      go_wp2_with fail
      go_ret
      have hlN : l.length = N := by rw [HL.out]; omega
      first | exact ⟨_, l, rfl, ⟨P0.out, hlN, HX.out⟩, HC.out, HO.out⟩ | exact ⟨_, rfl, ⟨l, P0.out, hlN, HX.out⟩, HC.out, HO.out⟩
/-- Readings that fit, or small ones. -/
def RdOk (L : List (List Int)) (l : List Int) : Prop := l.length = L.length ∧ ((∀ x ∈ l, x.natAbs ≤ 10) ∨ ∃ x : Nat → Int, (∀ i, i < (L.getD 0 []).length → (x i).natAbs ≤ 20) ∧ l = rdL L x)
set_option maxRecDepth 100000 in
theorem spec_RdDraw (w : World) (D g : Nat) (A : Option Addr) (c : Nat) (L : List (List Int)) (hc : Cur w D g) (hDw : D ≤ w.heap.size) (hd : desB L = true) (hf : Fmg w g A L) :
    Calls Try.prog 49 #[.pointer (some ⟨g, 0, none⟩), .slice A L.length c] w fun e w' => ∃ (s : Value) (l : List Int), e = .returned s ∧ (OwnS w' w.heap.size s l ∧ RdOk L l) ∧ Cur w' D g ∧ w.grownBy w' (some g) := by
  have hgl := hc.lt
  obtain ⟨⟨hL1, hL8⟩, ⟨hm1, hm4⟩, _⟩ := des_at hd
  obtain ⟨m, hm⟩ : ∃ m, (L.getD 0 []).length = m := ⟨_, rfl⟩
  have hLi := fun w hc h1 hf => spec_VList w D g m A c L hc h1 hL1 hm (by omega) hf
  have hRe := fun B d x w h f0 f1 => spec_Read A B c d m L x w hd hm h f0 f1
  have HM := Lib.hid hm
  clear hm hm1 hm4
  have HF := Lib.hid hf
  have HD := Lib.hid hd
  obtain ⟨n, hnL⟩ : ∃ l, l = L.length := ⟨_, rfl⟩
  rw [← hnL] at hL1 hL8 hLi hRe ⊢
  have HNL := Lib.hid hnL
  clear hf hnL hd
  have HC := Lib.hid hc; clear hc
  go_enter Try.func49, Try.ntmps49
  go_wp2_with fail
  with_reducible refine (spec_Once _ D g HC.out _).mono ?_
  rintro _ w1 ⟨o, rfl, hc1, hg1⟩
  have HG1 := Lib.hid hg1
  have hs1 := hg1.size
  have hf1 := HF.out.only hg1
  clear HC hg1
  cases o
  · have p0 : OwnS (w1.alloc (.cells #[] 3)) w.heap.size (.slice (some ⟨w1.heap.size, 0, none⟩) 0 0) [] := OwnS.empty hs1
    have hba := below_alloc (Below.refl w1.heap.size w1) (.cells #[] 3)
    have P0 := Lib.hid p0; have HC1 := Lib.hid (hc1.below hba); have HO := Lib.hid (only_step HG1.out hba)
    clear p0 hc1 hba hLi hRe hf1
    go_wp2_with fail
    go_loopw [5, 6] (fun s i wr => ∃ (j : Nat) (l : List Int), j ≤ n ∧ i = .int .i64 j ∧ OwnS wr w.heap.size s l ∧ (l.length = j ∧ ∀ x ∈ l, x.natAbs ≤ 10) ∧ Cur wr D g ∧ w.grownBy wr (some g)) (fun _ i _ => n - (intOf i).toNat)
    case atStart => exact ⟨0, [], Nat.zero_le _, rfl, P0.out, ⟨rfl, fun x h => by cases h⟩, HC1.out, HO.out⟩
    case round =>
      clear P0 HC1 HO
      obtain ⟨j, l, hj, rfl, p0, ⟨hl, hx⟩, hc, hO⟩ := hrel
      have HL := Lib.hid hl; clear hl
      have HX := Lib.hid hx; clear hx
      by_cases hjN : j < n
      · have hlen : l.length ≤ 1048576 := by rw [HL.out]; omega
        have HC0 := Lib.hid hc; have HO0 := Lib.hid hO; have P0 := Lib.hid p0
        clear hc hO p0
        go_wp2_with fail
        with_reducible refine (spec_Below _ D g HC0.out _).mono ?_
        rintro _ w2 ⟨x, rfl, ⟨hx0, hx1, _⟩, hc, hg⟩
        have hx1 := hx1 (by decide)
        have hO := only_trans HO0.out hg
        have p0 := P0.out.only hg hgl
        have hs2 := hO.size
        have hb0 := fun q h => (p0.base (g := q) h).1
        have HB0 := Lib.hid hb0; clear hb0
        have HC := Lib.hid hc; have HO := Lib.hid hO
        clear hc hO hg HC0 HO0 P0
        have P0 := Lib.hid p0; clear p0
        go_wp2_with (at_builtin; refine push_one rfl (.tmp 21) (.tmp 25) rfl w.heap.size _ l (x - 10) rfl rfl P0.out hlen hs2 ?_; intro s' w3 hown' hgrow; have HG := Lib.hid hgrow; clear hgrow)
        go_roundw
        case rel =>
          refine ⟨j + 1, l ++ [x - 10], by omega, by go_num, hown', ⟨by simp [HL.out], fun y hy => ?_⟩, HC.out.push HG.out (fun q h => ?_), only_push HO.out HG.out HB0.out⟩
          · rcases List.mem_append.1 hy with h | h
            · exact HX.out y h
            · simp at h; subst h; omega
          · have := HB0.out q h; omega
        case measure => simp [intOf]; omega
      · have hlN : l.length = n := by rw [HL.out]; omega
        have HC := Lib.hid hc; clear hc
        have HO := Lib.hid hO; clear hO
        have P0 := Lib.hid p0; clear p0
        have hok : RdOk L l := ⟨by rw [hlN, HNL.out], Or.inl HX.out⟩
        have HOK := Lib.hid hok; clear hok hlN
        go_wp2_with fail
        go_ret
        first | exact ⟨_, l, rfl, ⟨P0.out, HOK.out⟩, HC.out, HO.out⟩ | exact ⟨_, rfl, ⟨l, P0.out, HOK.out⟩, HC.out, HO.out⟩
  · go_wp2_with fail
    with_reducible refine (hLi _ hc1 (by omega) hf1).mono ?_
    rintro _ w2 ⟨s, l, rfl, ⟨p1, hl, hx⟩, hc2, hg2⟩
    have hO2 := only_trans HG1.out hg2
    have hf2 := (hf1.only hg2).fm
    obtain ⟨B, d, rfl, fl, _⟩ := p1.out
    rw [hl] at fl ⊢
    have hxb : ∀ i, i < m → (gl l i).natAbs ≤ 20 := fun i hi => gl_mem hx i
    have hs2 := hg2.size
    clear hLi hc1 hf1 p1
    have HX := Lib.hid hxb
    clear hx hl
    go_wp2_with fail
    with_reducible refine (hRe B d (gl l) _ (fun k hk => by have := hxb k hk; omega) hf2 fl).mono ?_
    rintro _ w3 ⟨s3, rfl, p3, hb⟩
    have P3 := Lib.hid (p3.lift (B' := w.heap.size) (by omega))
    have HC := Lib.hid (hc2.below hb)
    have HO := Lib.hid (only_step hO2 hb)
    have hok : RdOk L (rdL L (gl l)) := ⟨by simp [rdL], Or.inr ⟨gl l, by rw [HM.out]; exact HX.out, rfl⟩⟩
    have HOK := Lib.hid hok
    clear hok hxb p3 hc2 hO2 hb hRe hf2 fl hg2
    go_wp2_with fail
    go_ret
    first | exact ⟨_, _, rfl, ⟨P3.out, HOK.out⟩, HC.out, HO.out⟩ | exact ⟨_, rfl, ⟨_, P3.out, HOK.out⟩, HC.out, HO.out⟩
end Go.Proofs.Ytmnmnkenboejpaa
