/- The contracts of SquareOk, DeterminantOf, MinorOf, AdjugateOf, l24Adjugate, IsDetermined. -/
import Derived.Test.YtmnmnkenboejpaaDet
namespace Go.Proofs.Ytmnmnkenboejpaa
open Go.RowKit
set_option linter.unusedSimpArgs false
set_option linter.unusedVariables false
set_option maxHeartbeats 4000000
/-- A small square matrix. -/
structure Sq (m : Nat) (G : List (List Int)) : Prop where
  m1 : 1 ≤ m
  m4 : m ≤ 4
  len : G.length = m
  row : ∀ r ∈ G, r.length = m
  ent : ∀ r ∈ G, ∀ j, j < m → -8 ≤ gl r j ∧ gl r j ≤ 8
theorem dotV_bd {x y : Nat → Int} {n : Nat} (hx : ∀ k, k < n → -1 ≤ x k ∧ x k ≤ 1) (hy : ∀ k, k < n → -1 ≤ y k ∧ y k ≤ 1) (hn : n ≤ 8) : -(n : Int) ≤ dotV x y n ∧ dotV x y n ≤ n := by
  induction n with
  | zero => simp [dotV]
  | succ n ih =>
    have h1 := ih (fun k hk => hx k (by omega)) (fun k hk => hy k (by omega)) (by omega)
    have h2 := hx n (by omega)
    have h3 := hy n (by omega)
    have h4 : -1 ≤ x n * y n ∧ x n * y n ≤ 1 := by
      rcases (show x n = -1 ∨ x n = 0 ∨ x n = 1 by omega) with e | e | e <;> rw [e] <;> omega
    simp only [dotV]
    rw [IntWalk.wrap64_in (x n * y n) (by omega), IntWalk.wrap64_in _ (by omega)]
    push_cast
    omega
theorem gl_map_range {m j : Nat} (f : Nat → Int) (hj : j < m) : gl ((List.range m).map f) j = f j := by simp [gl, hj]
theorem gram_sq {L : List (List Int)} (h : desB L = true) : Sq (L.getD 0 []).length (gramL L) := by
  obtain ⟨⟨hL1, hL8⟩, ⟨hm1, hm4⟩, hrl, hs⟩ := des_at h
  have hcol : ∀ i, i < (L.getD 0 []).length → ∀ k, k < L.length → -1 ≤ gl (colL L i) k ∧ gl (colL L i) k ≤ 1 := fun i hi k hk => by
    rw [colL_at (List.getElem?_eq_getElem hk)]
    exact hs _ (List.getElem_mem hk) i (by rw [hrl _ (List.getElem_mem hk)]; exact hi)
  refine ⟨hm1, hm4, by simp [gramL], fun r hr => ?_, fun r hr j hj => ?_⟩
  · obtain ⟨i, _, rfl⟩ := List.mem_map.1 hr; simp [gramR]
  · obtain ⟨i, hi, rfl⟩ := List.mem_map.1 hr
    have hi := List.mem_range.1 hi
    have e : gl (gramR L i) j = gramV L i j := gl_map_range _ hj
    rw [e]
    have := dotV_bd (hcol i hi) (hcol j hj) hL8
    unfold gramV
    omega
set_option maxRecDepth 100000 in
theorem impl_SquareOk (m : Nat) (A : Option Addr) (c : Nat) (G : List (List Int)) (w : World) (hG : Sq m G) (f0 : Fm w A G) : Calls Try.prog 72 #[.slice A m c] w fun e w' => e = .returned (.bool true) ∧ Below w.heap.size w w' := by
  obtain ⟨h1, h4, hlen, hrow, hent⟩ := hG
  have HF := Lib.hid f0; clear f0
  have HL := Lib.hid hlen; clear hlen
  have HR := Lib.hid hrow; clear hrow
  have HE := Lib.hid hent; clear hent
  have hin : inB (m : Int) 1 4 = true := inB_iff.2 (by omega)
  have hmm : ((m : Int) != (m : Int)) = false := by simp
  go_enter Try.func72, Try.ntmps72
  go_wp2_with (go_at_call 51; (with_reducible refine (in_any _ _ _ _).mono ?_); rintro _ _ ⟨rfl, rfl⟩)
  go_loopw [13] (fun x wr => ∃ k : Nat, k ≤ m ∧ x = .int .i64 k ∧ Below w.heap.size w wr) (fun x _ => m - (intOf x).toNat)
  case atStart => exact ⟨0, Nat.zero_le _, rfl, Below.refl _ _⟩
  case round =>
    obtain ⟨k, hk, rfl, hB⟩ := hrel
    by_cases hkm : k < m
    · obtain ⟨r, hrk⟩ : ∃ r, G[k]? = some r := ⟨_, List.getElem?_eq_getElem (by have := HL.out; omega)⟩
      have hrl := HR.out r (List.mem_of_getElem? hrk)
      have hre := HE.out r (List.mem_of_getElem? hrk)
      obtain ⟨b, off, rfl, hc⟩ := (HF.out.below hB) (by have := HL.out; omega)
      obtain ⟨Ai, ci, c0, f1⟩ := hc k r hrk
      rw [hrl] at c0 f1
      have HRE := Lib.hid hre; clear hre
      have HF1 := Lib.hid f1; clear f1
      clear hc hrk hrl
      have hk1 : (k : Int) < (m : Int) := by omega
      have hk0 : (0 : Int) ≤ (k : Int) := Int.natCast_nonneg _
      obtain ⟨W, hW⟩ : ∃ W, W = wr := ⟨_, rfl⟩
      have HB := Lib.hid hB; clear hB
      go_wp2_with fail
      rw [← hW] at HB HF1
      rw [← hW]
      clear hW
      go_loopw [24] (fun x wr => ∃ q : Nat, q ≤ m ∧ x = .int .i64 q ∧ Below W.heap.size W wr) (fun x _ => m - (intOf x).toNat)
      case atStart => exact ⟨0, Nat.zero_le _, rfl, Below.refl _ _⟩
      case round =>
        obtain ⟨q, hq, rfl, hB2⟩ := hrel
        by_cases hqm : q < m
        · obtain ⟨br, or, rfl, hcr⟩ := (HF1.out.below hB2) (by omega)
          have c1 := hcr q (by omega)
          have he := HRE.out q hqm
          have hin : inB (gl r q) (-8) 8 = true := inB_iff.2 he
          clear hcr he
          have hq1 : (q : Int) < (m : Int) := by omega
          have hq0 : (0 : Int) ≤ (q : Int) := Int.natCast_nonneg _
          go_wp2_with (go_at_call 51; (with_reducible refine (in_any _ _ _ _).mono ?_); rintro _ _ ⟨rfl, rfl⟩)
          go_roundw
          case rel => exact ⟨q + 1, by omega, by go_num, hB2⟩
          case measure => simp [intOf]; omega
        · obtain rfl : q = m := by omega
          go_wp2_with fail
          go_roundw
          case rel => exact ⟨k + 1, by omega, by go_num, below_step HB.out hB2⟩
          case measure => simp [intOf]; omega
    · obtain rfl : k = m := by omega
      go_wp2_with fail
      go_ret
      exact ⟨rfl, hB⟩
theorem impl_DeterminantOf (m : Nat) (A : Option Addr) (c : Nat) (G : List (List Int)) (w : World) (hG : Sq m G) (f0 : Fmc w A G) : Calls Try.prog 71 #[.slice A m c] w fun e w' => e = .returned (.int .i64 (detF m G)) ∧ Below w.heap.size w w' := by
  have hs := fun w f => impl_SquareOk m A c G w hG f
  have hd := fun w f => impl_det m A c G w hG.len hG.row (by have := hG.m4; omega) f
  go_enter Try.func71, Try.ntmps71
  go_wp2_with fail
  with_reducible refine (hs _ f0.fm).mono ?_
  rintro _ w1 ⟨rfl, hb⟩
  replace f0 := f0.below hb
  go_wp2_with fail
  with_reducible refine (hd _ f0).mono ?_
  rintro _ w2 ⟨rfl, hb2⟩
  go_wp2_with fail
  go_ret
  exact ⟨rfl, below_step hb hb2⟩
/-- A minor. -/
def minV (m : Nat) (G : List (List Int)) (i k : Nat) : Int := detF (m - 1) (wo G i k)
set_option maxRecDepth 100000 in
theorem impl_MinorOf (m : Nat) (A : Option Addr) (c : Nat) (G : List (List Int)) (i k : Nat) (w : World) (hG : Sq m G) (hi : i < m) (hk : k < m) (f0 : Fmc w A G) : Calls Try.prog 73 #[.slice A m c, .int .i64 i, .int .i64 k] w fun e w' => e = .returned (.int .i64 (minV m G i k)) ∧ Below w.heap.size w w' := by
  have hs := fun w f => impl_SquareOk m A c G w hG f
  have hw := fun w f => impl_without A c G i k w (by have := hG.m4; have := hG.len; omega) (fun r h => by have := hG.row r h; have := hG.m4; omega) f
  rw [hG.len] at hw
  obtain ⟨m', hm'⟩ : ∃ m', m = m' + 1 := ⟨m - 1, by omega⟩
  have hsq : (wo G i k).length = m - 1 ∧ ∀ r ∈ wo G i k, r.length = m - 1 := by
    subst hm'
    exact wo_sq hG.len hG.row hi hk
  have hd := fun A c w f => impl_det (m - 1) A c (wo G i k) w hsq.1 hsq.2 (by have := hG.m4; omega) f
  have hi1 : inB (i : Int) 0 ((m : Int) - 1) = true := inB_iff.2 (by omega)
  have hk1 : inB (k : Int) 0 ((m : Int) - 1) = true := inB_iff.2 (by omega)
  have hw1 : IntKind.i64.wrap ((m : Int) - 1) = (m : Int) - 1 := IntWalk.i64_in _ (by have := hG.m4; omega)
  have hm4 := hG.m4
  have HS := Lib.hid hsq; clear hsq
  clear hm'
  go_enter Try.func73, Try.ntmps73
  go_wp2_with fail
  with_reducible refine (hs _ f0.fm).mono ?_
  rintro _ w1 ⟨rfl, hb⟩
  replace f0 := f0.below hb
  go_wp2_with (go_at_call 51; (with_reducible refine (in_any _ _ _ _).mono ?_); rintro _ _ ⟨rfl, rfl⟩)
  with_reducible refine (hw _ f0).mono ?_
  rintro _ w2 ⟨s, rfl, o1, hb2⟩
  replace hb := below_step hb hb2
  obtain ⟨A1, c1, rfl, f1, _⟩ := o1.outc
  rw [HS.out.1]
  go_wp2_with fail
  with_reducible refine (hd _ _ _ f1).mono ?_
  rintro _ w3 ⟨rfl, hb3⟩
  go_wp2_with fail
  go_ret
  exact ⟨rfl, below_step hb hb3⟩
def adjV (m : Nat) (G : List (List Int)) (i k : Nat) : Int := if (i + k) % 2 = 1 then wrap64 (-(minV m G k i)) else minV m G k i
def adjR (m : Nat) (G : List (List Int)) (i : Nat) : List Int := (List.range m).map (adjV m G i)
def adjL (m : Nat) (G : List (List Int)) : List (List Int) := (List.range m).map (adjR m G)
set_option maxRecDepth 100000 in
theorem impl_AdjugateOf (m : Nat) (A : Option Addr) (c : Nat) (G : List (List Int)) (w : World) (hG : Sq m G) (f0 : Fmc w A G) :
    Calls Try.prog 56 #[.slice A m c] w fun e w' => ∃ s, e = .returned s ∧ OwnM w' w.heap.size s (adjL m G) ∧ Below w.heap.size w w' := by
  have hs := fun w f => impl_SquareOk m A c G w hG f
  have hmin := fun i k w hi hk f => impl_MinorOf m A c G i k w hG hi hk f
  have hm1 := hG.m1
  have hm4 := hG.m4
  have HF := Lib.hid f0
  go_enter Try.func56, Try.ntmps56
  go_wp2_with fail
  with_reducible refine (hs _ f0.fm).mono ?_
  rintro _ w1 ⟨rfl, hb⟩
  clear f0 hs
  have HB1 := Lib.hid hb; clear hb
  go_wp2_with fail
  go_loopw [3, 13] (fun s i wr => ∃ j : Nat, j ≤ m ∧ i = .int .i64 j ∧ OwnM wr w.heap.size s ((adjL m G).take j) ∧ Below w.heap.size w wr) (fun _ i _ => m - (intOf i).toNat)
  case atStart => exact ⟨0, Nat.zero_le _, rfl, OwnM.nil _ _, HB1.out⟩
  case round =>
    clear HB1
    obtain ⟨j, hj, rfl, k0, hB⟩ := hrel
    by_cases hjm : j < m
    · have htk : (adjL m G).take (j + 1) = (adjL m G).take j ++ [adjR m G j] := take_map_range _ _ _ hjm
      have HTK := Lib.hid htk; clear htk
      have HK0 := Lib.hid k0; clear k0
      obtain ⟨W, hW⟩ : ∃ W, W = wr := ⟨_, rfl⟩
      have HB := Lib.hid hB; clear hB
      go_wp2_with fail
      rw [← hW] at HB HK0
      rw [← hW]
      clear hW
      go_loopw [5, 18] (fun s i wr => ∃ k : Nat, k ≤ m ∧ i = .int .i64 k ∧ OwnS wr W.heap.size s ((adjR m G j).take k) ∧ Below W.heap.size W wr) (fun _ i _ => m - (intOf i).toNat)
      case atStart => exact ⟨0, Nat.zero_le _, rfl, OwnS.nil _ _, Below.refl _ _⟩
      case round =>
        obtain ⟨k, hk, rfl, p0, hB2⟩ := hrel
        by_cases hkm : k < m
        · have htk : (adjR m G j).take (k + 1) = (adjR m G j).take k ++ [adjV m G j k] := take_map_range _ _ _ hkm
          have HTK2 := Lib.hid htk; clear htk
          have hf0 : Fmc wr A G := HF.out.below (below_step HB.out hB2)
          go_wp2_with fail
          with_reducible refine (hmin k j _ hkm hjm hf0).mono ?_
          rintro _ w1 ⟨rfl, hb1⟩
          replace p0 := p0.below hb1
          replace hB2 := below_step hB2 hb1
          clear hb1 hf0
          have htl : ((adjR m G j).take k).length ≤ 1048576 := by simp [adjR]; omega
          have hB0 := hB2.size
          have hlt := fun q h => (p0.base (g := q) h).1
          have HLT := Lib.hid hlt; clear hlt
          obtain ⟨x, hx⟩ : ∃ x, x = minV m G k j := ⟨_, rfl⟩
          rw [← hx]
          rcases Nat.mod_two_eq_zero_or_one (j + k) with he | he
          · have hv : adjV m G j k = x := by unfold adjV; rw [if_neg (by omega), hx]
            have HV := Lib.hid hv; clear hv
            have hmod : ((((j : Int) + (k : Int)) % 2) == 1) = false := by
              have : ((j : Int) + (k : Int)) % 2 = 0 := by omega
              rw [this]; rfl
            have hw : IntKind.i64.wrap ((j : Int) + (k : Int)) = (j : Int) + (k : Int) := IntWalk.i64_in _ (by omega)
            clear hx he
            go_wp2_with (at_builtin; refine push_one rfl (.tmp 32) (.tmp 34) rfl W.heap.size _ _ x rfl rfl p0 htl hB0 ?_; intro s' w4 hown hgrow; have HG := Lib.hid hgrow; clear hgrow; have HW := Lib.hid hown; clear hown)
            go_roundw
            case rel => exact ⟨k + 1, by omega, by go_num, by rw [HTK2.out, HV.out]; exact HW.out, hB2.grown HG.out hB0 HLT.out⟩
            case measure => simp [intOf]; omega
          · have hv : adjV m G j k = wrap64 (-x) := by unfold adjV; rw [if_pos (by omega), hx]
            have HV := Lib.hid hv; clear hv
            have hmod : ((((j : Int) + (k : Int)) % 2) == 1) = true := by
              have : ((j : Int) + (k : Int)) % 2 = 1 := by omega
              rw [this]; rfl
            have hw : IntKind.i64.wrap ((j : Int) + (k : Int)) = (j : Int) + (k : Int) := IntWalk.i64_in _ (by omega)
            clear hx he
            go_wp2_with (at_builtin; refine push_one rfl (.tmp 32) (.tmp 34) rfl W.heap.size _ _ (wrap64 (-x)) rfl rfl p0 htl hB0 ?_; intro s' w4 hown hgrow; have HG := Lib.hid hgrow; clear hgrow; have HW := Lib.hid hown; clear hown)
            go_roundw
            case rel => exact ⟨k + 1, by omega, by go_num, by rw [HTK2.out, HV.out]; exact HW.out, hB2.grown HG.out hB0 HLT.out⟩
            case measure => simp [intOf]; omega
        · obtain rfl : k = m := by omega
          have htk : (adjR k G j).take k = adjR k G j := List.take_of_length_le (by simp [adjR])
          rw [htk] at p0
          obtain ⟨A1, d1, rfl, f1, hA1, hd1, _⟩ := p0.outc
          have m0 : OwnM wr w.heap.size _ ((adjL k G).take j) := HK0.out.below hB2
          have hgl2 : ((adjL k G).take j).length ≤ 1048576 := by simp [adjL]; omega
          have hAr : ∀ b2 off2, A1 = some ⟨b2, off2, none⟩ → Value.ownBlock _ ≠ some b2 ∧ b2 < wr.heap.size := fun b2 off2 e => ⟨fun e2 => by have := (HK0.out.base e2).2; have := (hA1 b2 off2 e).1; omega, (hA1 b2 off2 e).2⟩
          have HAR := Lib.hid hAr; clear hAr
          have hbw : Below w.heap.size w wr := below_step HB.out hB2
          have hsz := hbw.size
          have HBW := Lib.hid hbw; clear hbw
          have hlt := fun q h => (m0.base (g := q) h).1
          have HLT := Lib.hid hlt; clear hlt
          have HM0 := Lib.hid m0; clear m0
          have HF1 := Lib.hid f1; clear f1
          clear hA1 p0 hB2 HK0 HB
          go_wp2_with (at_builtin; refine push_row rfl (.tmp 37) (.tmp 39) rfl w.heap.size _ ((adjL k G).take j) (adjR k G j) A1 d1 _ rfl rfl rfl HM0.out hgl2 hsz HF1.out hd1 HAR.out ?_; intro s' w4 hown hgrow; have HG := Lib.hid hgrow; clear hgrow; have HW := Lib.hid hown; clear hown)
          go_roundw
          case rel => exact ⟨j + 1, by omega, by go_num, by rw [HTK.out]; exact HW.out, HBW.out.grown HG.out hsz HLT.out⟩
          case measure => simp [intOf]; omega
    · obtain rfl : j = m := by omega
      have htk : (adjL j G).take j = adjL j G := List.take_of_length_le (by simp [adjL])
      rw [htk] at k0
      have HK := Lib.hid k0; clear k0
      go_wp2_with fail
      go_ret
      exact ⟨_, rfl, HK.out, hB⟩
set_option maxRecDepth 100000 in
theorem spec_Adjugate (m : Nat) (A : Option Addr) (c : Nat) (G : List (List Int)) (w : World) (hG : Sq m G) (f0 : Fmc w A G) :
    Calls Try.prog 62 #[.slice A m c] w fun e w' => ∃ s, e = .returned s ∧ OwnM w' w.heap.size s (adjL m G) ∧ Below w.heap.size w w' := by
  have hw := fun i k w f => spec_Without A c G i k w (by have := hG.m4; have := hG.len; omega) (fun r h => by rw [hG.len]; exact hG.row r h) f
  rw [hG.len] at hw
  have hsq : ∀ i k, i < m → k < m → (wo G i k).length = m - 1 ∧ ∀ r ∈ wo G i k, r.length = m - 1 := fun i k hi hk => by
    obtain ⟨m', hm'⟩ : ∃ m', m = m' + 1 := ⟨m - 1, by omega⟩
    subst hm'
    exact wo_sq hG.len hG.row hi hk
  have hd := fun i k A c w (hi : i < m) (hk : k < m) f => spec_det (m - 1) A c (wo G i k) w (hsq i k hi hk).1 (hsq i k hi hk).2 (by have := hG.m4; omega) f
  have HSQ := Lib.hid hsq; clear hsq
  have hm1 := hG.m1
  have hm4 := hG.m4
  have HF := Lib.hid f0
  go_enter Try.func62, Try.ntmps62
  go_wp2_with fail
  have k0 : OwnM (w.alloc (.cells #[] 23)) w.heap.size _ [] := OwnM.empty (Nat.le_refl _)
  have hB := below_alloc (Below.refl w.heap.size w) (.cells #[] 23)
  have HK1 := Lib.hid k0; clear k0
  have HB1 := Lib.hid hB; clear hB
  clear f0
  go_loopw [3, 4] (fun s i wr => ∃ j : Nat, j ≤ m ∧ i = .int .i64 j ∧ OwnM wr w.heap.size s ((adjL m G).take j) ∧ Below w.heap.size w wr) (fun _ i _ => m - (intOf i).toNat)
  case atStart => exact ⟨0, Nat.zero_le _, rfl, HK1.out, HB1.out⟩
  case round =>
    clear HB1 HK1
    obtain ⟨j, hj, rfl, k0, hB⟩ := hrel
    by_cases hjm : j < m
    · have htk : (adjL m G).take (j + 1) = (adjL m G).take j ++ [adjR m G j] := take_map_range _ _ _ hjm
      have HTK := Lib.hid htk; clear htk
      have HK0 := Lib.hid k0; clear k0
      obtain ⟨W, hW⟩ : ∃ W, W = wr := ⟨_, rfl⟩
      have HB := Lib.hid hB; clear hB
      have p0 : OwnS (wr.alloc (.cells #[] 3)) wr.heap.size (.slice (some ⟨wr.heap.size, 0, none⟩) 0 0) [] := OwnS.empty (Nat.le_refl _)
      have hb0 : Below wr.heap.size wr (wr.alloc (.cells #[] 3)) := below_alloc (Below.refl wr.heap.size wr) _
      have HP := Lib.hid p0; clear p0
      have HBW := Lib.hid hb0; clear hb0
      go_wp2_with fail
      rw [← hW] at HB HK0 HP HBW
      rw [← hW]
      clear hW
      go_loopw [5, 6] (fun s i wr => ∃ k : Nat, k ≤ m ∧ i = .int .i64 k ∧ OwnS wr W.heap.size s ((adjR m G j).take k) ∧ Below W.heap.size W wr) (fun _ i _ => m - (intOf i).toNat)
      case atStart => exact ⟨0, Nat.zero_le _, rfl, HP.out, HBW.out⟩
      case round =>
        clear HP HBW
        obtain ⟨k, hk, rfl, p0, hB2⟩ := hrel
        by_cases hkm : k < m
        · have htk : (adjR m G j).take (k + 1) = (adjR m G j).take k ++ [adjV m G j k] := take_map_range _ _ _ hkm
          have HTK2 := Lib.hid htk; clear htk
          have hf0 : Fmc wr A G := HF.out.below (below_step HB.out hB2)
          go_wp2_with fail
          with_reducible refine (hw k j _ hf0).mono ?_
          rintro _ w1 ⟨s1, rfl, o1, hb1⟩
          replace p0 := p0.below hb1
          replace hB2 := below_step hB2 hb1
          obtain ⟨A1, c1, rfl, f1, _⟩ := o1.outc
          rw [(HSQ.out k j hkm hjm).1]
          clear hb1 hf0 o1
          go_wp2_with fail
          with_reducible refine (hd k j _ _ _ hkm hjm f1).mono ?_
          rintro _ w1 ⟨rfl, hb1⟩
          replace p0 := p0.below hb1
          replace hB2 := below_step hB2 hb1
          clear hb1 f1
          have htl : ((adjR m G j).take k).length ≤ 1048576 := by simp [adjR]; omega
          have hB0 := hB2.size
          have hlt := fun q h => (p0.base (g := q) h).1
          have HLT := Lib.hid hlt; clear hlt
          obtain ⟨x, hx⟩ : ∃ x, x = detF (m - 1) (wo G k j) := ⟨_, rfl⟩
          rw [← hx]
          rcases Nat.mod_two_eq_zero_or_one (j + k) with he | he
          · have hv : adjV m G j k = x := by unfold adjV; rw [if_neg (by omega), hx]; rfl
            have HV := Lib.hid hv; clear hv
            have hmod : ((((j : Int) + (k : Int)) % 2) == 1) = false := by
              have : ((j : Int) + (k : Int)) % 2 = 0 := by omega
              rw [this]; rfl
            have hw : IntKind.i64.wrap ((j : Int) + (k : Int)) = (j : Int) + (k : Int) := IntWalk.i64_in _ (by omega)
            clear hx he
            go_wp2_with (at_builtin; refine push_one rfl (.tmp 34) (.tmp 36) rfl W.heap.size _ _ x rfl rfl p0 htl hB0 ?_; intro s' w4 hown hgrow; have HG := Lib.hid hgrow; clear hgrow; have HW := Lib.hid hown; clear hown)
            go_roundw
            case rel => exact ⟨k + 1, by omega, by go_num, by rw [HTK2.out, HV.out]; exact HW.out, hB2.grown HG.out hB0 HLT.out⟩
            case measure => simp [intOf]; omega
          · have hv : adjV m G j k = wrap64 (-x) := by unfold adjV; rw [if_pos (by omega), hx]; rfl
            have HV := Lib.hid hv; clear hv
            have hmod : ((((j : Int) + (k : Int)) % 2) == 1) = true := by
              have : ((j : Int) + (k : Int)) % 2 = 1 := by omega
              rw [this]; rfl
            have hw : IntKind.i64.wrap ((j : Int) + (k : Int)) = (j : Int) + (k : Int) := IntWalk.i64_in _ (by omega)
            clear hx he
            go_wp2_with (at_builtin; refine push_one rfl (.tmp 34) (.tmp 36) rfl W.heap.size _ _ (wrap64 (-x)) rfl rfl p0 htl hB0 ?_; intro s' w4 hown hgrow; have HG := Lib.hid hgrow; clear hgrow; have HW := Lib.hid hown; clear hown)
            go_roundw
            case rel => exact ⟨k + 1, by omega, by go_num, by rw [HTK2.out, HV.out]; exact HW.out, hB2.grown HG.out hB0 HLT.out⟩
            case measure => simp [intOf]; omega
        · obtain rfl : k = m := by omega
          have htk : (adjR k G j).take k = adjR k G j := List.take_of_length_le (by simp [adjR])
          rw [htk] at p0
          obtain ⟨A1, d1, rfl, f1, hA1, hd1, _⟩ := p0.outc
          have m0 : OwnM wr w.heap.size _ ((adjL k G).take j) := HK0.out.below hB2
          have hgl2 : ((adjL k G).take j).length ≤ 1048576 := by simp [adjL]; omega
          have hAr : ∀ b2 off2, A1 = some ⟨b2, off2, none⟩ → Value.ownBlock _ ≠ some b2 ∧ b2 < wr.heap.size := fun b2 off2 e => ⟨fun e2 => by have := (HK0.out.base e2).2; have := (hA1 b2 off2 e).1; omega, (hA1 b2 off2 e).2⟩
          have HAR := Lib.hid hAr; clear hAr
          have hbw : Below w.heap.size w wr := below_step HB.out hB2
          have hsz := hbw.size
          have HBW := Lib.hid hbw; clear hbw
          have hlt := fun q h => (m0.base (g := q) h).1
          have HLT := Lib.hid hlt; clear hlt
          have HM0 := Lib.hid m0; clear m0
          have HF1 := Lib.hid f1; clear f1
          clear hA1 p0 hB2 HK0 HB
          go_wp2_with (at_builtin; refine push_row rfl (.tmp 38) (.tmp 40) rfl w.heap.size _ ((adjL k G).take j) (adjR k G j) A1 d1 _ rfl rfl rfl HM0.out hgl2 hsz HF1.out hd1 HAR.out ?_; intro s' w4 hown hgrow; have HG := Lib.hid hgrow; clear hgrow; have HW := Lib.hid hown; clear hown)
          go_roundw
          case rel => exact ⟨j + 1, by omega, by go_num, by rw [HTK.out]; exact HW.out, HBW.out.grown HG.out hsz HLT.out⟩
          case measure => simp [intOf]; omega
    · obtain rfl : j = m := by omega
      have htk : (adjL j G).take j = adjL j G := List.take_of_length_le (by simp [adjL])
      rw [htk] at k0
      have HK := Lib.hid k0; clear k0
      go_wp2_with fail
      go_ret
      exact ⟨_, rfl, HK.out, hB⟩
end Go.Proofs.Ytmnmnkenboejpaa
