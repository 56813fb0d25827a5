/- The contract of the reference's FactorOf. -/
import Derived.Test.YtfgkglbhbdfpfaaFact
import Derived.IntWalk
namespace Go.Proofs.Ytfgkglbhbdfpfaa
open Go.RowKit
set_option linter.unusedSimpArgs false
set_option linter.unusedVariables false
set_option maxHeartbeats 8000000
theorem spec_Factor_no (A : Option Addr) (n c : Nat) (v : Nat → Int) (a b : Int) (w : World) (hm : n ≤ 1048576) (f0 : Fl w A n 4 v) (hall : ¬ (ratB n v = true ∧ inB a 0 9 = true ∧ inB b 0 9 = true)) : Calls Try.prog 16 #[.slice A n c, .int .i64 a, .int .i64 b] w fun e w' => e = .returned (optV none) ∧ Below w.heap.size w w' := by
  have hR := fun w f => spec_RatiosOk A n c v w hm f
  cases h1 : ratB n v <;> cases h2 : inB a 0 9 <;> cases h3 : inB b 0 9 <;> simp [h1, h2, h3] at hall
  all_goals
    simp only [h1] at hR
    clear h1
    obtain ⟨W, hW⟩ : ∃ W, W = (w.alloc (.cells #[.int .i64 0, .int .i64 0] 32)) := ⟨_, rfl⟩
    have c0 : W.cell? ⟨w.heap.size, 0, none⟩ = some (.int .i64 0) := by rw [hW]; simp [go_sem]
    have z0 : W.frozen? ⟨w.heap.size, 0, none⟩ = false := by rw [hW]; simp [go_sem]
    have c1 : W.cell? ⟨w.heap.size, 1, none⟩ = some (.int .i64 0) := by rw [hW]; simp [go_sem]
    have z1 : W.frozen? ⟨w.heap.size, 1, none⟩ = false := by rw [hW]; simp [go_sem]
    have hB : Below w.heap.size w W := by rw [hW]; exact ((Below.refl _ _).alloc (by simp <;> omega) _)
    subst hW
    replace f0 := f0.below hB
    go_enter Try.func16, Try.ntmps16
    go_wp2_with (first | (go_at_call 28; (with_reducible refine (l01In_any _ _ _ _).mono ?_); rintro _ _ ⟨rfl, rfl⟩) | (go_at_call 10; (with_reducible refine (hR _ f0).mono ?_); rintro _ w1 ⟨rfl, hb⟩; replace f0 := f0.below hb; replace z0 := below_frozen hb (lt_of_cell c0) z0; replace c0 := below_cell hb c0; replace z1 := below_frozen hb (lt_of_cell c1) z1; replace c1 := below_cell hb c1; replace hB := below_step hB hb; clear hb))
    refine bodyPost_ret (by first | (simp [results, Try.results16, go_sem, *]; done) | (simp [results, Try.results16, go_sem, *]; rfl)) rfl ⟨rfl, by (repeat (first | exact Below.refl _ _ | assumption | (refine Below.drew ?_) | (refine below_alloc ?_ _) | (refine Below.setCell ?_ (by first | (simp; done) | (simp; omega) | omega | (have hq := hB.size; (try simp at hq ⊢); omega)) _) | (refine Below.alloc ?_ (by first | (simp; done) | (simp; omega) | omega | (have hq := hB.size; (try simp at hq ⊢); omega)) _) | (refine below_step ?_ (by assumption))))⟩
set_option maxRecDepth 100000 in
theorem spec_Factor (A : Option Addr) (n c : Nat) (v : Nat → Int) (a b : Int) (w : World) (hm : n ≤ 1048576) (f0 : Fl w A n 4 v) (h1 : ratB n v = true) (h2 : inB a 0 9 = true) (h3 : inB b 0 9 = true) :
    Calls Try.prog 16 #[.slice A n c, .int .i64 a, .int .i64 b] w fun e w' => e = .returned (facV n v a b) ∧ Below w.heap.size w w' := by
  have hR := fun w f => spec_RatiosOk A n c v w hm f
  have ha : U9 a := inB_iff.1 h2
  have hb0 : U9 b := inB_iff.1 h3
  simp only [h1] at hR
  have hW := fun w f => spec_Dist A n c v b w hb0 h1 f
  have HF := Lib.hid f0
  have HR := Lib.hid h1
  have huni := uniB_yes h1 h2 h3
  clear h1
  have hn12 : n ≤ 12 := by have := HR.out; simp [ratB] at this; omega
  obtain ⟨ha0, ha9⟩ := ha
  obtain ⟨hb00, hb9⟩ := hb0
  obtain ⟨V, hV⟩ : ∃ V, V = facV n v a b := ⟨_, rfl⟩
  rw [← hV]
  unfold facV at hV
  rw [huni] at hV
  clear huni
  have HV := Lib.hid hV; clear hV
  obtain ⟨W, hW⟩ : ∃ W, W = (w.alloc (.cells #[.int .i64 0, .int .i64 0] 32)) := ⟨_, rfl⟩
  have c0 : W.cell? ⟨w.heap.size, 0, none⟩ = some (.int .i64 0) := by rw [hW]; simp [go_sem]
  have z0 : W.frozen? ⟨w.heap.size, 0, none⟩ = false := by rw [hW]; simp [go_sem]
  have c1 : W.cell? ⟨w.heap.size, 1, none⟩ = some (.int .i64 0) := by rw [hW]; simp [go_sem]
  have z1 : W.frozen? ⟨w.heap.size, 1, none⟩ = false := by rw [hW]; simp [go_sem]
  have hB : Below w.heap.size w W := by rw [hW]; exact ((Below.refl _ _).alloc (by simp <;> omega) _)
  subst hW
  replace f0 := f0.below hB
  go_enter Try.func16, Try.ntmps16
  go_wp2_with (first | (go_at_call 28; (with_reducible refine (l01In_any _ _ _ _).mono ?_); rintro _ _ ⟨rfl, rfl⟩) | (go_at_call 10; (with_reducible refine (hR _ f0).mono ?_); rintro _ w1 ⟨rfl, hb⟩; replace f0 := f0.below hb; replace z0 := below_frozen hb (lt_of_cell c0) z0; replace c0 := below_cell hb c0; replace z1 := below_frozen hb (lt_of_cell c1) z1; replace c1 := below_cell hb c1; replace hB := below_step hB hb; clear hb))
  with_reducible refine (hW _ f0).mono ?_
  rintro _ w2 ⟨g, d, rfl, o0, hd2, hb⟩
  clear f0 hW
  replace z0 := below_frozen hb (lt_of_cell c0) z0; replace c0 := below_cell hb c0; replace z1 := below_frozen hb (lt_of_cell c1) z1; replace c1 := below_cell hb c1; replace hB := below_step hB hb; clear hb
  have cX : w2.cell? ⟨g, a.toNat, none⟩ = _ := o0.cell (j := a.toNat) (by omega)
  have q0 : w.heap.size < w2.heap.size := lt_of_cell c0
  have HD := Lib.hid hd2; clear hd2
  cases h4 : reachB v n a b
  · have h5 : d a.toNat < 0 := by
      rcases Int.lt_or_le (d a.toNat) 0 with h | h
      · exact h
      · rw [Bool.eq_false_iff, Ne, reachB_iff, reach_D HD.out ⟨ha0, ha9⟩] at h4
        exact absurd h h4
    have hV : V = optV none := by rw [HV.out, h4]; rfl
    subst hV
    clear h4 HV
    go_wp2_with fail
    refine bodyPost_ret (by first | (simp [results, Try.results16, go_sem, *]; done) | (simp [results, Try.results16, go_sem, *]; rfl)) rfl ⟨rfl, by (repeat (first | exact Below.refl _ _ | assumption | (refine Below.drew ?_) | (refine below_alloc ?_ _) | (refine Below.setCell ?_ (by first | (simp; done) | (simp; omega) | omega | (have hq := hB.size; (try simp at hq ⊢); omega)) _) | (refine Below.alloc ?_ (by first | (simp; done) | (simp; omega) | omega | (have hq := hB.size; (try simp at hq ⊢); omega)) _) | (refine below_step ?_ (by assumption))))⟩
  · have h5 : 0 ≤ d a.toNat := (reach_D HD.out ⟨ha0, ha9⟩).1 (reachB_iff.1 h4)
    have hgr := facP_at HD.out (ratB_U HR.out) ⟨ha0, ha9⟩ h5
    have hV : V = optV (fol v (facP n v a b) a 1 1) := by rw [HV.out, h4, if_pos rfl]
    clear h4 HV
    generalize facP n v a b = P at hgr hV
    have HV := Lib.hid hV; clear hV
    have HG := Lib.hid hgr; clear hgr
    have h6 : ¬ d a.toNat < 0 := by omega
    have hgl : g < w2.heap.size := o0.lt
    go_wp2_with fail
    have hb := below_alloc (Below.refl w2.heap.size w2) (.cells #[.int .i64 1, .int .i64 1] 32)
    replace z0 := below_frozen hb (lt_of_cell c0) z0; replace c0 := below_cell hb c0; replace z1 := below_frozen hb (lt_of_cell c1) z1; replace c1 := below_cell hb c1; replace o0 := o0.below hb; replace hB := below_step hB hb; clear hb
    have z2 : (w2.alloc (.cells #[.int .i64 1, .int .i64 1] 32)).frozen? ⟨w2.heap.size, 0, none⟩ = false := by simp [go_sem]
    have c2 : (w2.alloc (.cells #[.int .i64 1, .int .i64 1] 32)).cell? ⟨w2.heap.size, 0, none⟩ = some (.int .i64 1) := by simp [go_sem]
    have z3 : (w2.alloc (.cells #[.int .i64 1, .int .i64 1] 32)).frozen? ⟨w2.heap.size, 1, none⟩ = false := by simp [go_sem]
    have c3 : (w2.alloc (.cells #[.int .i64 1, .int .i64 1] 32)).cell? ⟨w2.heap.size, 1, none⟩ = some (.int .i64 1) := by simp [go_sem]
    clear cX h5 h6
    go_loopw [1] (fun f wr => ∃ (x T B : Int) (q : List Int), f = .int .i64 x ∧ Go.RowKit.Hid (Gr v n b d x q ∧ fol v q x T B = fol v P a 1 1 ∧ U9 x) ∧ wr.frozen? ⟨w.heap.size, 0, none⟩ = false ∧ wr.cell? ⟨w.heap.size, 0, none⟩ = some (.int .i64 0) ∧ wr.frozen? ⟨w.heap.size, 1, none⟩ = false ∧ wr.cell? ⟨w.heap.size, 1, none⟩ = some (.int .i64 0) ∧
      wr.frozen? ⟨w2.heap.size, 0, none⟩ = false ∧ wr.cell? ⟨w2.heap.size, 0, none⟩ = some (.int .i64 T) ∧ wr.frozen? ⟨w2.heap.size, 1, none⟩ = false ∧ wr.cell? ⟨w2.heap.size, 1, none⟩ = some (.int .i64 B) ∧ Own wr g 3 10 d ∧ Below w.heap.size w wr) (fun f _ => (d (intOf f).toNat).toNat)
    case atStart => exact ⟨a, 1, 1, P, rfl, Lib.hid ⟨HG.out, rfl, ha0, ha9⟩, z0, c0, z1, c1, z2, c2, z3, c3, o0, hB⟩
    case round =>
      clear z0 c0 z1 c1 z2 c2 z3 c3 o0 hB
      obtain ⟨x, T, B, q, rfl, HQ, z0, c0, z1, c1, z2, c2, z3, c3, o0, hB⟩ := hrel
      obtain ⟨hgr, hfol, hxU⟩ := HQ.out
      have hlen := hgr.len HD.out
      obtain ⟨hx0, hx9⟩ := hxU
      have q1 : w.heap.size < wr.heap.size := lt_of_cell c0
      have q2 : w2.heap.size < wr.heap.size := lt_of_cell c2
      cases q with
      | nil =>
        have hxb : x = b := hgr
        have HFO := Lib.hid hfol; clear hfol HQ hgr
        subst hxb
        go_wp2
        refine bodyPost_ret (by first | (simp [results, Try.results16, go_sem, *]; done) | (simp [results, Try.results16, go_sem, *]; rfl)) rfl ⟨?_, by (repeat (first | exact Below.refl _ _ | assumption | (refine Below.drew ?_) | (refine below_alloc ?_ _) | (refine Below.setCell ?_ (by first | (simp; done) | (simp; omega) | omega | (have hq := hB.size; (try simp at hq ⊢); omega)) _) | (refine Below.alloc ?_ (by first | (simp; done) | (simp; omega) | omega | (have hq := hB.size; (try simp at hq ⊢); omega)) _) | (refine below_step ?_ (by assumption))))⟩
        rw [HV.out, ← HFO.out]; rfl
      | cons i q =>
        have hxb : (x == b) = false := by
          rw [beq_eq_false_iff_ne]
          intro e
          rw [e, HD.out.zero] at hlen
          simp at hlen; omega
        have hxb2 : (x != b) = true := by simp [bne, hxb]
        obtain ⟨e, y, he, hen, hnx, hU9, hdy, hdy0, hmin, hgr2⟩ := hgr
        rw [he] at hfol
        have hdy2 : d x.toNat = d y.toNat + 1 ∧ 0 ≤ d y.toNat := ⟨hdy, hdy0⟩
        have HMIN := Lib.hid hmin; clear hmin
        have HGR2 := Lib.hid hgr2; clear hgr2
        have HFOL := Lib.hid hfol; clear hfol
        have HNX := Lib.hid hnx; clear hnx
        have HDY := Lib.hid hdy2; clear hdy2 hdy hdy0
        have hr9 := (HD.out.rng x ⟨hx0, hx9⟩).2
        clear HQ he
        go_wp2_with fail
        go_loopw [1, 10] (fun f j wr => ∃ k : Nat, k ≤ e ∧ f = .int .i64 x ∧ j = .int .i64 k ∧ wr.frozen? ⟨w.heap.size, 0, none⟩ = false ∧ wr.cell? ⟨w.heap.size, 0, none⟩ = some (.int .i64 0) ∧ wr.frozen? ⟨w.heap.size, 1, none⟩ = false ∧ wr.cell? ⟨w.heap.size, 1, none⟩ = some (.int .i64 0) ∧
          wr.frozen? ⟨w2.heap.size, 0, none⟩ = false ∧ wr.cell? ⟨w2.heap.size, 0, none⟩ = some (.int .i64 T) ∧ wr.frozen? ⟨w2.heap.size, 1, none⟩ = false ∧ wr.cell? ⟨w2.heap.size, 1, none⟩ = some (.int .i64 B) ∧ Own wr g 3 10 d ∧ Below w.heap.size w wr) (fun _ j _ => n - (intOf j).toNat)
        case atStart => exact ⟨0, Nat.zero_le _, rfl, rfl, z0, c0, z1, c1, z2, c2, z3, c3, o0, hB⟩
        case round =>
          clear z0 c0 z1 c1 z2 c2 z3 c3 o0 hB q1 q2
          obtain ⟨k, hk, rfl, rfl, z0, c0, z1, c1, z2, c2, z3, c3, o0, hB⟩ := hrel
          obtain ⟨lb, lo, rfl, hcl⟩ := (HF.out.below hB) (by omega)
          have k0 := hcl (k * 4) (by omega)
          have k1 := hcl (k * 4 + 1) (by omega)
          have k2 := hcl (k * 4 + 2) (by omega)
          have k3 := hcl (k * 4 + 3) (by omega)
          rw [← Nat.add_assoc] at k1 k2 k3
          clear hcl
          obtain ⟨hA, hBd, hne, _, _⟩ := ratB_at HR.out (show k < n by omega)
          have cA : wr.cell? ⟨g, (v (k * 4)).toNat, none⟩ = _ := o0.cell (j := (v (k * 4)).toNat) (by omega)
          have cB : wr.cell? ⟨g, (v (k * 4 + 1)).toNat, none⟩ = _ := o0.cell (j := (v (k * 4 + 1)).toNat) (by omega)
          have cX : wr.cell? ⟨g, x.toNat, none⟩ = _ := o0.cell (j := x.toNat) (by omega)
          have q1 : w.heap.size < wr.heap.size := lt_of_cell c0
          have q2 : w2.heap.size < wr.heap.size := lt_of_cell c2
          obtain ⟨hdx, hdy0⟩ := HDY.out
          obtain ⟨dx, hdxe⟩ : ∃ dx, dx = d x.toNat := ⟨_, rfl⟩
          rw [← hdxe] at cX
          have w1e : IntKind.i64.wrap (dx - 1) = dx - 1 := IntWalk.i64_in _ (by omega)
          by_cases hke : k < e
          · have hcase : (v (k * 4 + 1) = x ∧ v (k * 4) ≠ x ∧ d (v (k * 4)).toNat ≠ dx - 1) ∨ (v (k * 4 + 1) ≠ x ∧ v (k * 4) = x ∧ d (v (k * 4 + 1)).toNat ≠ dx - 1) ∨ (v (k * 4 + 1) ≠ x ∧ v (k * 4) ≠ x) := by
              by_cases h7 : v (k * 4 + 1) = x
              · refine Or.inl ⟨h7, fun e => hne (by rw [e, h7]), ?_⟩
                have := HMIN.out k (v (k * 4)) hke (by unfold nxt; rw [if_pos h7])
                omega
              · by_cases h8 : v (k * 4) = x
                · refine Or.inr (Or.inl ⟨h7, h8, ?_⟩)
                  have := HMIN.out k (v (k * 4 + 1)) hke (by unfold nxt; rw [if_neg h7, if_pos h8])
                  omega
                · exact Or.inr (Or.inr ⟨h7, h8⟩)
            clear hdxe hdx
            generalize d (v (k * 4)).toNat = dA at cA hcase
            generalize d (v (k * 4 + 1)).toNat = dB at cB hcase
            rcases hcase with ⟨h7, h8, h9⟩ | ⟨h7, h8, h9⟩ | ⟨h7, h8⟩
            · have t1 : (v (k * 4 + 1) == x) = true := by simp [h7]
              have t2 : (v (k * 4 + 1) != x) = false := by simp [h7]
              have t3 : (v (k * 4) != x) = true := by simp [h8]
              have t4 : (dA != dx - 1) = true := by simp [h9]
              clear h7 h8 h9
              go_wp2_with fail
              obtain ⟨W, hW⟩ : ∃ W, W = ((wr.alloc (.cells #[.int .i64 (v (k * 4)), .int .i64 (v (k * 4 + 1)), .int .i64 (v (k * 4 + 2)), .int .i64 (v (k * 4 + 3))] 46)).alloc (.cells #[.int .i64 (v (k * 4 + 3)), .int .i64 (v (k * 4 + 2))] 32)) := ⟨_, rfl⟩
              have hw : Below wr.heap.size wr W := by rw [hW]; (repeat (first | exact Below.refl _ _ | assumption | (refine Below.drew ?_) | (refine below_alloc ?_ _) | (refine Below.setCell ?_ (by first | (simp; done) | (simp; omega) | omega | (have hq := hB.size; (try simp at hq ⊢); omega)) _) | (refine Below.alloc ?_ (by first | (simp; done) | (simp; omega) | omega | (have hq := hB.size; (try simp at hq ⊢); omega)) _) | (refine below_step ?_ (by assumption))))
              have c6 : W.cell? ⟨wr.heap.size, 0, none⟩ = some (.int .i64 (v (k * 4))) := by rw [hW]; simp [go_sem]
              have c7 : W.cell? ⟨wr.heap.size, 1, none⟩ = some (.int .i64 (v (k * 4 + 1))) := by rw [hW]; simp [go_sem]
              have c8 : W.cell? ⟨wr.heap.size + 1, 0, none⟩ = some (.int .i64 (v (k * 4 + 3))) := by rw [hW]; simp [go_sem]
              have c9 : W.cell? ⟨wr.heap.size + 1, 1, none⟩ = some (.int .i64 (v (k * 4 + 2))) := by rw [hW]; simp [go_sem]
              replace z0 := below_frozen hw (lt_of_cell c0) z0; replace c0 := below_cell hw c0; replace z1 := below_frozen hw (lt_of_cell c1) z1; replace c1 := below_cell hw c1; replace z2 := below_frozen hw (lt_of_cell c2) z2; replace c2 := below_cell hw c2; replace z3 := below_frozen hw (lt_of_cell c3) z3; replace c3 := below_cell hw c3; replace o0 := Own.below o0 hw; replace hB := below_step hB hw
              replace cA := below_cell hw cA; replace cB := below_cell hw cB; replace cX := below_cell hw cX
              rw [← hW]
              clear hW hw
              (have Ec0 := ext_cell c0; have Ec1 := ext_cell c1; have Ec2 := ext_cell c2; have Ec3 := ext_cell c3; have Ec6 := ext_cell c6; have Ec7 := ext_cell c7; have Ec8 := ext_cell c8; have Ec9 := ext_cell c9; have EcA := ext_cell cA; have EcB := ext_cell cB; have EcX := ext_cell cX; refine calm_lit (by kernel_rfl) (by kernel_rfl) ?_; (repeat (first | go_big_quiet_step (fail) | simp only [TF])); refine wpQuiet_nil ?_; intro w1 hb; clear Ec0 Ec1 Ec2 Ec3 Ec6 Ec7 Ec8 Ec9 EcA EcB EcX; replace z0 := below_frozen hb (lt_of_cell c0) z0; replace c0 := below_cell hb c0; replace z1 := below_frozen hb (lt_of_cell c1) z1; replace c1 := below_cell hb c1; replace z2 := below_frozen hb (lt_of_cell c2) z2; replace c2 := below_cell hb c2; replace z3 := below_frozen hb (lt_of_cell c3) z3; replace c3 := below_cell hb c3; replace c6 := below_cell hb c6; replace c7 := below_cell hb c7; replace c8 := below_cell hb c8; replace c9 := below_cell hb c9; replace cA := below_cell hb cA; replace cB := below_cell hb cB; replace cX := below_cell hb cX; replace o0 := Own.below o0 hb; replace hB := below_step hB hb; clear hb)
              clear w1e
              go_wp2_with fail
              go_roundw
              case rel => exact ⟨k + 1, by omega, rfl, by go_num, z0, c0, z1, c1, z2, c2, z3, c3, o0, hB⟩
              case measure => simp [intOf]; omega
            · have t1 : (v (k * 4 + 1) == x) = false := by simp [h7]
              have t2 : (v (k * 4 + 1) != x) = true := by simp [h7]
              have t3 : (v (k * 4) != x) = false := by simp [h8]
              have t4 : (dB != dx - 1) = true := by simp [h9]
              clear h7 h8 h9
              go_wp2_with fail
              obtain ⟨W, hW⟩ : ∃ W, W = ((wr.alloc (.cells #[.int .i64 (v (k * 4)), .int .i64 (v (k * 4 + 1)), .int .i64 (v (k * 4 + 2)), .int .i64 (v (k * 4 + 3))] 46)).alloc (.cells #[.int .i64 (v (k * 4 + 2)), .int .i64 (v (k * 4 + 3))] 32)) := ⟨_, rfl⟩
              have hw : Below wr.heap.size wr W := by rw [hW]; (repeat (first | exact Below.refl _ _ | assumption | (refine Below.drew ?_) | (refine below_alloc ?_ _) | (refine Below.setCell ?_ (by first | (simp; done) | (simp; omega) | omega | (have hq := hB.size; (try simp at hq ⊢); omega)) _) | (refine Below.alloc ?_ (by first | (simp; done) | (simp; omega) | omega | (have hq := hB.size; (try simp at hq ⊢); omega)) _) | (refine below_step ?_ (by assumption))))
              have c6 : W.cell? ⟨wr.heap.size, 0, none⟩ = some (.int .i64 (v (k * 4))) := by rw [hW]; simp [go_sem]
              have c7 : W.cell? ⟨wr.heap.size, 1, none⟩ = some (.int .i64 (v (k * 4 + 1))) := by rw [hW]; simp [go_sem]
              have c8 : W.cell? ⟨wr.heap.size + 1, 0, none⟩ = some (.int .i64 (v (k * 4 + 2))) := by rw [hW]; simp [go_sem]
              have c9 : W.cell? ⟨wr.heap.size + 1, 1, none⟩ = some (.int .i64 (v (k * 4 + 3))) := by rw [hW]; simp [go_sem]
              replace z0 := below_frozen hw (lt_of_cell c0) z0; replace c0 := below_cell hw c0; replace z1 := below_frozen hw (lt_of_cell c1) z1; replace c1 := below_cell hw c1; replace z2 := below_frozen hw (lt_of_cell c2) z2; replace c2 := below_cell hw c2; replace z3 := below_frozen hw (lt_of_cell c3) z3; replace c3 := below_cell hw c3; replace o0 := Own.below o0 hw; replace hB := below_step hB hw
              replace cA := below_cell hw cA; replace cB := below_cell hw cB; replace cX := below_cell hw cX
              rw [← hW]
              clear hW hw
              (have Ec0 := ext_cell c0; have Ec1 := ext_cell c1; have Ec2 := ext_cell c2; have Ec3 := ext_cell c3; have Ec6 := ext_cell c6; have Ec7 := ext_cell c7; have Ec8 := ext_cell c8; have Ec9 := ext_cell c9; have EcA := ext_cell cA; have EcB := ext_cell cB; have EcX := ext_cell cX; refine calm_lit (by kernel_rfl) (by kernel_rfl) ?_; (repeat (first | go_big_quiet_step (fail) | simp only [TF])); refine wpQuiet_nil ?_; intro w1 hb; clear Ec0 Ec1 Ec2 Ec3 Ec6 Ec7 Ec8 Ec9 EcA EcB EcX; replace z0 := below_frozen hb (lt_of_cell c0) z0; replace c0 := below_cell hb c0; replace z1 := below_frozen hb (lt_of_cell c1) z1; replace c1 := below_cell hb c1; replace z2 := below_frozen hb (lt_of_cell c2) z2; replace c2 := below_cell hb c2; replace z3 := below_frozen hb (lt_of_cell c3) z3; replace c3 := below_cell hb c3; replace c6 := below_cell hb c6; replace c7 := below_cell hb c7; replace c8 := below_cell hb c8; replace c9 := below_cell hb c9; replace cA := below_cell hb cA; replace cB := below_cell hb cB; replace cX := below_cell hb cX; replace o0 := Own.below o0 hb; replace hB := below_step hB hb; clear hb)
              clear w1e
              go_wp2_with fail
              go_roundw
              case rel => exact ⟨k + 1, by omega, rfl, by go_num, z0, c0, z1, c1, z2, c2, z3, c3, o0, hB⟩
              case measure => simp [intOf]; omega
            · have t1 : (v (k * 4 + 1) == x) = false := by simp [h7]
              have t2 : (v (k * 4 + 1) != x) = true := by simp [h7]
              have t3 : (v (k * 4) != x) = true := by simp [h8]
              clear h7 h8
              go_wp2_with fail
              obtain ⟨W, hW⟩ : ∃ W, W = ((wr.alloc (.cells #[.int .i64 (v (k * 4)), .int .i64 (v (k * 4 + 1)), .int .i64 (v (k * 4 + 2)), .int .i64 (v (k * 4 + 3))] 46)).alloc (.cells #[.int .i64 (v (k * 4 + 2)), .int .i64 (v (k * 4 + 3))] 32)) := ⟨_, rfl⟩
              have hw : Below wr.heap.size wr W := by rw [hW]; (repeat (first | exact Below.refl _ _ | assumption | (refine Below.drew ?_) | (refine below_alloc ?_ _) | (refine Below.setCell ?_ (by first | (simp; done) | (simp; omega) | omega | (have hq := hB.size; (try simp at hq ⊢); omega)) _) | (refine Below.alloc ?_ (by first | (simp; done) | (simp; omega) | omega | (have hq := hB.size; (try simp at hq ⊢); omega)) _) | (refine below_step ?_ (by assumption))))
              have c6 : W.cell? ⟨wr.heap.size, 0, none⟩ = some (.int .i64 (v (k * 4))) := by rw [hW]; simp [go_sem]
              have c7 : W.cell? ⟨wr.heap.size, 1, none⟩ = some (.int .i64 (v (k * 4 + 1))) := by rw [hW]; simp [go_sem]
              have c8 : W.cell? ⟨wr.heap.size + 1, 0, none⟩ = some (.int .i64 (v (k * 4 + 2))) := by rw [hW]; simp [go_sem]
              have c9 : W.cell? ⟨wr.heap.size + 1, 1, none⟩ = some (.int .i64 (v (k * 4 + 3))) := by rw [hW]; simp [go_sem]
              replace z0 := below_frozen hw (lt_of_cell c0) z0; replace c0 := below_cell hw c0; replace z1 := below_frozen hw (lt_of_cell c1) z1; replace c1 := below_cell hw c1; replace z2 := below_frozen hw (lt_of_cell c2) z2; replace c2 := below_cell hw c2; replace z3 := below_frozen hw (lt_of_cell c3) z3; replace c3 := below_cell hw c3; replace o0 := Own.below o0 hw; replace hB := below_step hB hw
              replace cA := below_cell hw cA; replace cB := below_cell hw cB; replace cX := below_cell hw cX
              rw [← hW]
              clear hW hw
              (have Ec0 := ext_cell c0; have Ec1 := ext_cell c1; have Ec2 := ext_cell c2; have Ec3 := ext_cell c3; have Ec6 := ext_cell c6; have Ec7 := ext_cell c7; have Ec8 := ext_cell c8; have Ec9 := ext_cell c9; have EcA := ext_cell cA; have EcB := ext_cell cB; have EcX := ext_cell cX; refine calm_lit (by kernel_rfl) (by kernel_rfl) ?_; (repeat (first | go_big_quiet_step (fail) | simp only [TF])); refine wpQuiet_nil ?_; intro w1 hb; clear Ec0 Ec1 Ec2 Ec3 Ec6 Ec7 Ec8 Ec9 EcA EcB EcX; replace z0 := below_frozen hb (lt_of_cell c0) z0; replace c0 := below_cell hb c0; replace z1 := below_frozen hb (lt_of_cell c1) z1; replace c1 := below_cell hb c1; replace z2 := below_frozen hb (lt_of_cell c2) z2; replace c2 := below_cell hb c2; replace z3 := below_frozen hb (lt_of_cell c3) z3; replace c3 := below_cell hb c3; replace c6 := below_cell hb c6; replace c7 := below_cell hb c7; replace c8 := below_cell hb c8; replace c9 := below_cell hb c9; replace cA := below_cell hb cA; replace cB := below_cell hb cB; replace cX := below_cell hb cX; replace o0 := Own.below o0 hb; replace hB := below_step hB hb; clear hb)
              clear w1e
              go_wp2_with fail
              go_roundw
              case rel => exact ⟨k + 1, by omega, rfl, by go_num, z0, c0, z1, c1, z2, c2, z3, c3, o0, hB⟩
              case measure => simp [intOf]; omega
          · have hkk : k = e := by omega
            subst hkk
            have hgr2 := HGR2.out
            have hfol := HFOL.out
            have hs := (nxt_sym HNX.out).2
            have hdy2 : d x.toNat = d y.toNat + 1 ∧ 0 ≤ d y.toNat := HDY.out
            rcases hs with ⟨h7, h8⟩ | ⟨h7, h8⟩
            · have t1 : (v (k * 4 + 1) == x) = false := by rw [beq_eq_false_iff_ne]; omega
              have t2 : (v (k * 4 + 1) != x) = true := by simp [bne, t1]
              have t3 : (v (k * 4) != x) = false := by simp [h7]
              have t4 : (d (v (k * 4 + 1)).toNat != dx - 1) = false := by
                have : d (v (k * 4 + 1)).toNat = dx - 1 := by rw [← h8]; omega
                simp [this]
              have h9 : v (k * 4) = x := h7.symm
              rw [h8] at hgr2 hU9 hdy2
              clear hdxe hdx h8 h7 hdy0
              generalize hdA : d (v (k * 4)).toNat = dA at cA
              generalize hdB : d (v (k * 4 + 1)).toNat = dB at cB t4
              have HdB := Lib.hid hdB; clear hdB hdA
              have HH9 := Lib.hid h9; clear h9
              go_wp2_with fail
              obtain ⟨W, hW⟩ : ∃ W, W = ((wr.alloc (.cells #[.int .i64 (v (k * 4)), .int .i64 (v (k * 4 + 1)), .int .i64 (v (k * 4 + 2)), .int .i64 (v (k * 4 + 3))] 46)).alloc (.cells #[.int .i64 (v (k * 4 + 2)), .int .i64 (v (k * 4 + 3))] 32)) := ⟨_, rfl⟩
              have hw : Below wr.heap.size wr W := by rw [hW]; (repeat (first | exact Below.refl _ _ | assumption | (refine Below.drew ?_) | (refine below_alloc ?_ _) | (refine Below.setCell ?_ (by first | (simp; done) | (simp; omega) | omega | (have hq := hB.size; (try simp at hq ⊢); omega)) _) | (refine Below.alloc ?_ (by first | (simp; done) | (simp; omega) | omega | (have hq := hB.size; (try simp at hq ⊢); omega)) _) | (refine below_step ?_ (by assumption))))
              have c6 : W.cell? ⟨wr.heap.size, 0, none⟩ = some (.int .i64 (v (k * 4))) := by rw [hW]; simp [go_sem]
              have c7 : W.cell? ⟨wr.heap.size, 1, none⟩ = some (.int .i64 (v (k * 4 + 1))) := by rw [hW]; simp [go_sem]
              have c8 : W.cell? ⟨wr.heap.size + 1, 0, none⟩ = some (.int .i64 (v (k * 4 + 2))) := by rw [hW]; simp [go_sem]
              have c9 : W.cell? ⟨wr.heap.size + 1, 1, none⟩ = some (.int .i64 (v (k * 4 + 3))) := by rw [hW]; simp [go_sem]
              replace z0 := below_frozen hw (lt_of_cell c0) z0; replace c0 := below_cell hw c0; replace z1 := below_frozen hw (lt_of_cell c1) z1; replace c1 := below_cell hw c1; replace z2 := below_frozen hw (lt_of_cell c2) z2; replace c2 := below_cell hw c2; replace z3 := below_frozen hw (lt_of_cell c3) z3; replace c3 := below_cell hw c3; replace o0 := Own.below o0 hw; replace hB := below_step hB hw
              replace cA := below_cell hw cA; replace cB := below_cell hw cB; replace cX := below_cell hw cX
              rw [← hW]
              clear hW hw
              have hT := fun w => spec_Times T B (v (k * 4 + 2)) (v (k * 4 + 3)) w
              simp only [timV_eq] at hT
              have hfo := fol_fwd (p := q) (T := T) (B := B) HH9.out
              rw [hfol] at hfo
              revert hT hfo
              generalize tT T B (v (k * 4 + 2)) (v (k * 4 + 3)) = X
              generalize tB T B (v (k * 4 + 2)) (v (k * 4 + 3)) = Y
              generalize tO T B (v (k * 4 + 2)) (v (k * 4 + 3)) = O
              intro hT hfo
              have HFO := Lib.hid hfo; clear hfo
              have HY := Lib.hid hdy2; clear hdy2
              (have Ec0 := ext_cell c0; have Ec1 := ext_cell c1; have Ec2 := ext_cell c2; have Ec3 := ext_cell c3; have Ec6 := ext_cell c6; have Ec7 := ext_cell c7; have Ec8 := ext_cell c8; have Ec9 := ext_cell c9; have EcA := ext_cell cA; have EcB := ext_cell cB; have EcX := ext_cell cX; refine calm_lit (by kernel_rfl) (by kernel_rfl) ?_; (repeat (first | go_big_quiet_step (fail) | simp only [TF])); refine wpQuiet_nil ?_; intro w1 hb; clear Ec0 Ec1 Ec2 Ec3 Ec6 Ec7 Ec8 Ec9 EcA EcB EcX; replace z0 := below_frozen hb (lt_of_cell c0) z0; replace c0 := below_cell hb c0; replace z1 := below_frozen hb (lt_of_cell c1) z1; replace c1 := below_cell hb c1; replace z2 := below_frozen hb (lt_of_cell c2) z2; replace c2 := below_cell hb c2; replace z3 := below_frozen hb (lt_of_cell c3) z3; replace c3 := below_cell hb c3; replace c6 := below_cell hb c6; replace c7 := below_cell hb c7; replace c8 := below_cell hb c8; replace c9 := below_cell hb c9; replace cA := below_cell hb cA; replace cB := below_cell hb cB; replace cX := below_cell hb cX; replace o0 := Own.below o0 hb; replace hB := below_step hB hb; clear hb)
              clear w1e
              cases O
              · go_wp2_with (go_at_call 36; (with_reducible refine (hT _).mono ?_); rintro _ w3 ⟨rfl, hb⟩; replace z0 := below_frozen hb (lt_of_cell c0) z0; replace c0 := below_cell hb c0; replace z1 := below_frozen hb (lt_of_cell c1) z1; replace c1 := below_cell hb c1; replace z2 := below_frozen hb (lt_of_cell c2) z2; replace c2 := below_cell hb c2; replace z3 := below_frozen hb (lt_of_cell c3) z3; replace c3 := below_cell hb c3; replace o0 := Own.below o0 hb; replace hB := below_step hB hb; clear hb; have l1 : w.heap.size < w3.heap.size := lt_of_cell c0; have l2 : w2.heap.size < w3.heap.size := lt_of_cell c2)
                refine bodyPost_ret (by first | (simp [results, Try.results16, go_sem, *]; done) | (simp [results, Try.results16, go_sem, *]; rfl)) rfl ⟨?_, by (repeat (first | exact Below.refl _ _ | assumption | (refine Below.drew ?_) | (refine below_alloc ?_ _) | (refine Below.setCell ?_ (by first | (simp; done) | (simp; omega) | omega | (have hq := hB.size; (try simp at hq ⊢); omega)) _) | (refine Below.alloc ?_ (by first | (simp; done) | (simp; omega) | omega | (have hq := hB.size; (try simp at hq ⊢); omega)) _) | (refine below_step ?_ (by assumption))))⟩
                have := HFO.out; simp at this; rw [HV.out, this]; rfl
              · go_wp2_with (go_at_call 36; (with_reducible refine (hT _).mono ?_); rintro _ w3 ⟨rfl, hb⟩; replace z0 := below_frozen hb (lt_of_cell c0) z0; replace c0 := below_cell hb c0; replace z1 := below_frozen hb (lt_of_cell c1) z1; replace c1 := below_cell hb c1; replace z2 := below_frozen hb (lt_of_cell c2) z2; replace c2 := below_cell hb c2; replace z3 := below_frozen hb (lt_of_cell c3) z3; replace c3 := below_cell hb c3; replace o0 := Own.below o0 hb; replace hB := below_step hB hb; clear hb; have l1 : w.heap.size < w3.heap.size := lt_of_cell c0; have l2 : w2.heap.size < w3.heap.size := lt_of_cell c2)
                go_roundw
                case rel =>
                  refine ⟨v (k * 4 + 1), X, Y, q, rfl, Lib.hid ⟨hgr2, by have := HFO.out; simpa using this.symm, hU9⟩, ?_, ?_, ?_, ?_, ?_, ?_, ?_, ?_, ?_, ?_⟩
                  all_goals first
                    | ((repeat (first | exact Below.refl _ _ | assumption | (refine Below.drew ?_) | (refine below_alloc ?_ _) | (refine Below.setCell ?_ (by first | (simp; done) | (simp; omega) | omega | (have hq := hB.size; (try simp at hq ⊢); omega)) _) | (refine Below.alloc ?_ (by first | (simp; done) | (simp; omega) | omega | (have hq := hB.size; (try simp at hq ⊢); omega)) _) | (refine below_step ?_ (by assumption)))); done)
                    | (simp [go_sem, *]; done)
                    | exact (Own.far (Own.far o0 (p := ⟨w2.heap.size, 0, none⟩) (by simp only; omega) _) (p := ⟨w2.heap.size, 1, none⟩) (by simp only; omega) _).below (below_alloc (Below.refl _ _) _)
                case measure =>
                  have := HY.out
                  simp [intOf]; omega
            · have t1 : (v (k * 4 + 1) == x) = true := by simp [h7]
              have t2 : (v (k * 4 + 1) != x) = false := by simp [h7]
              have t3 : (v (k * 4) != x) = true := by simp [h7, hne]
              have t4 : (d (v (k * 4)).toNat != dx - 1) = false := by
                have : d (v (k * 4)).toNat = dx - 1 := by rw [← h8]; omega
                simp [this]
              have h9 : v (k * 4) ≠ x := fun e => hne (by rw [e, h7])
              rw [h8] at hgr2 hU9 hdy2
              clear hdxe hdx h8 h7 hdy0
              generalize hdA : d (v (k * 4)).toNat = dA at cA t4
              generalize hdB : d (v (k * 4 + 1)).toNat = dB at cB
              have HdA := Lib.hid hdA; clear hdB hdA
              have HH9 := Lib.hid h9; clear h9
              go_wp2_with fail
              obtain ⟨W, hW⟩ : ∃ W, W = ((wr.alloc (.cells #[.int .i64 (v (k * 4)), .int .i64 (v (k * 4 + 1)), .int .i64 (v (k * 4 + 2)), .int .i64 (v (k * 4 + 3))] 46)).alloc (.cells #[.int .i64 (v (k * 4 + 3)), .int .i64 (v (k * 4 + 2))] 32)) := ⟨_, rfl⟩
              have hw : Below wr.heap.size wr W := by rw [hW]; (repeat (first | exact Below.refl _ _ | assumption | (refine Below.drew ?_) | (refine below_alloc ?_ _) | (refine Below.setCell ?_ (by first | (simp; done) | (simp; omega) | omega | (have hq := hB.size; (try simp at hq ⊢); omega)) _) | (refine Below.alloc ?_ (by first | (simp; done) | (simp; omega) | omega | (have hq := hB.size; (try simp at hq ⊢); omega)) _) | (refine below_step ?_ (by assumption))))
              have c6 : W.cell? ⟨wr.heap.size, 0, none⟩ = some (.int .i64 (v (k * 4))) := by rw [hW]; simp [go_sem]
              have c7 : W.cell? ⟨wr.heap.size, 1, none⟩ = some (.int .i64 (v (k * 4 + 1))) := by rw [hW]; simp [go_sem]
              have c8 : W.cell? ⟨wr.heap.size + 1, 0, none⟩ = some (.int .i64 (v (k * 4 + 3))) := by rw [hW]; simp [go_sem]
              have c9 : W.cell? ⟨wr.heap.size + 1, 1, none⟩ = some (.int .i64 (v (k * 4 + 2))) := by rw [hW]; simp [go_sem]
              replace z0 := below_frozen hw (lt_of_cell c0) z0; replace c0 := below_cell hw c0; replace z1 := below_frozen hw (lt_of_cell c1) z1; replace c1 := below_cell hw c1; replace z2 := below_frozen hw (lt_of_cell c2) z2; replace c2 := below_cell hw c2; replace z3 := below_frozen hw (lt_of_cell c3) z3; replace c3 := below_cell hw c3; replace o0 := Own.below o0 hw; replace hB := below_step hB hw
              replace cA := below_cell hw cA; replace cB := below_cell hw cB; replace cX := below_cell hw cX
              rw [← hW]
              clear hW hw
              have hT := fun w => spec_Times T B (v (k * 4 + 3)) (v (k * 4 + 2)) w
              simp only [timV_eq] at hT
              have hfo := fol_bwd (p := q) (T := T) (B := B) HH9.out
              rw [hfol] at hfo
              revert hT hfo
              generalize tT T B (v (k * 4 + 3)) (v (k * 4 + 2)) = X
              generalize tB T B (v (k * 4 + 3)) (v (k * 4 + 2)) = Y
              generalize tO T B (v (k * 4 + 3)) (v (k * 4 + 2)) = O
              intro hT hfo
              have HFO := Lib.hid hfo; clear hfo
              have HY := Lib.hid hdy2; clear hdy2
              (have Ec0 := ext_cell c0; have Ec1 := ext_cell c1; have Ec2 := ext_cell c2; have Ec3 := ext_cell c3; have Ec6 := ext_cell c6; have Ec7 := ext_cell c7; have Ec8 := ext_cell c8; have Ec9 := ext_cell c9; have EcA := ext_cell cA; have EcB := ext_cell cB; have EcX := ext_cell cX; refine calm_lit (by kernel_rfl) (by kernel_rfl) ?_; (repeat (first | go_big_quiet_step (fail) | simp only [TF])); refine wpQuiet_nil ?_; intro w1 hb; clear Ec0 Ec1 Ec2 Ec3 Ec6 Ec7 Ec8 Ec9 EcA EcB EcX; replace z0 := below_frozen hb (lt_of_cell c0) z0; replace c0 := below_cell hb c0; replace z1 := below_frozen hb (lt_of_cell c1) z1; replace c1 := below_cell hb c1; replace z2 := below_frozen hb (lt_of_cell c2) z2; replace c2 := below_cell hb c2; replace z3 := below_frozen hb (lt_of_cell c3) z3; replace c3 := below_cell hb c3; replace c6 := below_cell hb c6; replace c7 := below_cell hb c7; replace c8 := below_cell hb c8; replace c9 := below_cell hb c9; replace cA := below_cell hb cA; replace cB := below_cell hb cB; replace cX := below_cell hb cX; replace o0 := Own.below o0 hb; replace hB := below_step hB hb; clear hb)
              clear w1e
              cases O
              · go_wp2_with (go_at_call 36; (with_reducible refine (hT _).mono ?_); rintro _ w3 ⟨rfl, hb⟩; replace z0 := below_frozen hb (lt_of_cell c0) z0; replace c0 := below_cell hb c0; replace z1 := below_frozen hb (lt_of_cell c1) z1; replace c1 := below_cell hb c1; replace z2 := below_frozen hb (lt_of_cell c2) z2; replace c2 := below_cell hb c2; replace z3 := below_frozen hb (lt_of_cell c3) z3; replace c3 := below_cell hb c3; replace o0 := Own.below o0 hb; replace hB := below_step hB hb; clear hb; have l1 : w.heap.size < w3.heap.size := lt_of_cell c0; have l2 : w2.heap.size < w3.heap.size := lt_of_cell c2)
                refine bodyPost_ret (by first | (simp [results, Try.results16, go_sem, *]; done) | (simp [results, Try.results16, go_sem, *]; rfl)) rfl ⟨?_, by (repeat (first | exact Below.refl _ _ | assumption | (refine Below.drew ?_) | (refine below_alloc ?_ _) | (refine Below.setCell ?_ (by first | (simp; done) | (simp; omega) | omega | (have hq := hB.size; (try simp at hq ⊢); omega)) _) | (refine Below.alloc ?_ (by first | (simp; done) | (simp; omega) | omega | (have hq := hB.size; (try simp at hq ⊢); omega)) _) | (refine below_step ?_ (by assumption))))⟩
                have := HFO.out; simp at this; rw [HV.out, this]; rfl
              · go_wp2_with (go_at_call 36; (with_reducible refine (hT _).mono ?_); rintro _ w3 ⟨rfl, hb⟩; replace z0 := below_frozen hb (lt_of_cell c0) z0; replace c0 := below_cell hb c0; replace z1 := below_frozen hb (lt_of_cell c1) z1; replace c1 := below_cell hb c1; replace z2 := below_frozen hb (lt_of_cell c2) z2; replace c2 := below_cell hb c2; replace z3 := below_frozen hb (lt_of_cell c3) z3; replace c3 := below_cell hb c3; replace o0 := Own.below o0 hb; replace hB := below_step hB hb; clear hb; have l1 : w.heap.size < w3.heap.size := lt_of_cell c0; have l2 : w2.heap.size < w3.heap.size := lt_of_cell c2)
                go_roundw
                case rel =>
                  refine ⟨v (k * 4), X, Y, q, rfl, Lib.hid ⟨hgr2, by have := HFO.out; simpa using this.symm, hU9⟩, ?_, ?_, ?_, ?_, ?_, ?_, ?_, ?_, ?_, ?_⟩
                  all_goals first
                    | ((repeat (first | exact Below.refl _ _ | assumption | (refine Below.drew ?_) | (refine below_alloc ?_ _) | (refine Below.setCell ?_ (by first | (simp; done) | (simp; omega) | omega | (have hq := hB.size; (try simp at hq ⊢); omega)) _) | (refine Below.alloc ?_ (by first | (simp; done) | (simp; omega) | omega | (have hq := hB.size; (try simp at hq ⊢); omega)) _) | (refine below_step ?_ (by assumption)))); done)
                    | (simp [go_sem, *]; done)
                    | exact (Own.far (Own.far o0 (p := ⟨w2.heap.size, 0, none⟩) (by simp only; omega) _) (p := ⟨w2.heap.size, 1, none⟩) (by simp only; omega) _).below (below_alloc (Below.refl _ _) _)
                case measure =>
                  have := HY.out
                  simp [intOf]; omega
end Go.Proofs.Ytfgkglbhbdfpfaa
