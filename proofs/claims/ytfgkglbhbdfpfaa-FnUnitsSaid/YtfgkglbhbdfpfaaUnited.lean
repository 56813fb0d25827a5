/- The contracts of l30Distances and of AreUnited. -/
import Derived.Test.YtfgkglbhbdfpfaaWay
import Derived.Test.YtfgkglbhbdfpfaaDis
namespace Go.Proofs.Ytfgkglbhbdfpfaa
open Go.RowKit
set_option linter.unusedSimpArgs false
set_option linter.unusedVariables false
set_option maxHeartbeats 4000000
theorem ratB_U {n : Nat} {v : Nat → Int} (h : ratB n v = true) : ∀ x e y, U9 x → e < n → nxt v x e = some y → U9 y := by
  intro x e y _ he hn
  have := ratB_at h he
  rcases (nxt_sym hn).2 with ⟨h1, h2⟩ | ⟨h1, h2⟩ <;> · unfold U9; omega
theorem spec_Dist (A : Option Addr) (n c : Nat) (v : Nat → Int) (t : Int) (w : World) (ht : U9 t) (hr : ratB n v = true) (f0 : Fl w A n 4 v) :
    Calls Try.prog 34 #[.slice A n c, .int .i64 t] w fun e w' => ∃ (g : Nat) (d : Nat → Int), e = .returned (.slice (some ⟨g, 0, none⟩) 10 10) ∧ Own w' g 3 10 d ∧ Dist v n t d ∧ Below w.heap.size w w' := by
  have hn : n ≤ 12 := by simp [ratB] at hr; omega
  obtain ⟨ht0, ht9⟩ := ht
  have HF := Lib.hid f0; clear f0
  have HR := Lib.hid hr; clear hr
  have hmk : ∀ W : World, (Instr.makeSlice 53 (.int .i64 10) (.int .i64 10)).run Try.prog W = .ok (.slice (some ⟨W.heap.size, 0, none⟩) 10 10) (W.alloc (.cells (madeCells #[.int .i64 0] 10) 3)) := fun W => run_make_rowN (P := Try.prog) 53 3 _ _ _ Try.underlying53 infoInt .i64 .i64 10 (by decide) (by decide) W
  go_enter Try.func34, Try.ntmps34
  go_wp2_with fail
  go_loopw [6] (fun i wr => ∃ k : Nat, k ≤ 10 ∧ i = .int .i64 k ∧ Own wr w.heap.size 3 10 (fun j => if j < k then -1 else 0) ∧ Below w.heap.size w wr) (fun i _ => 10 - (intOf i).toNat)
  case atStart => exact ⟨0, by omega, rfl, (own_madeN (by decide) (by intro i hi; match i, hi with | 0, _ => rfl)).congr (fun j _ => by simp), by (repeat (first | exact Below.refl _ _ | assumption | (refine Below.drew ?_) | (refine below_alloc ?_ _) | (refine Below.setCell ?_ (by first | (simp; done) | (simp; omega) | omega | (have hq := hB.size; (try simp at hq ⊢); omega)) _) | (refine Below.alloc ?_ (by first | (simp; done) | (simp; omega) | omega | (have hq := hB.size; (try simp at hq ⊢); omega)) _) | (refine below_step ?_ (by assumption))))⟩
  case round =>
    clear hmk
    obtain ⟨k, hk, rfl, o0, hB⟩ := hrel
    by_cases hkn : k < 10
    · have c0 : wr.cell? ⟨w.heap.size, k, none⟩ = some (.int .i64 0) := (o0.cell (j := k) (by omega)).trans (by simp)
      have z0 := o0.frozen k
      go_wp2_with fail
      go_roundw
      case rel =>
        refine ⟨k + 1, by omega, by go_num, (o0.set k (-1)).congr (fun j _ => ?_), by (repeat (first | exact Below.refl _ _ | assumption | (refine Below.drew ?_) | (refine below_alloc ?_ _) | (refine Below.setCell ?_ (by first | (simp; done) | (simp; omega) | omega | (have hq := hB.size; (try simp at hq ⊢); omega)) _) | (refine Below.alloc ?_ (by first | (simp; done) | (simp; omega) | omega | (have hq := hB.size; (try simp at hq ⊢); omega)) _) | (refine below_step ?_ (by assumption))))⟩
        by_cases h1 : j = k
        · subst h1; simp
        · rw [if_neg h1]
          by_cases h2 : j < k
          · rw [if_pos h2, if_pos (by omega)]
          · rw [if_neg h2, if_neg (by omega)]
      case measure => simp [intOf]; omega
    · obtain rfl : k = 10 := by omega
      have c0 : wr.cell? ⟨w.heap.size, t.toNat, none⟩ = some (.int .i64 (-1)) := (o0.cell (j := t.toNat) (by omega)).trans (by rw [if_pos (by omega)])
      have z0 := o0.frozen t.toNat
      have o1 := (o0.set t.toNat 0).congr (v' := fun j => if j = t.toNat then 0 else -1) (fun j hj => by by_cases h : j = t.toNat <;> simp [h, hj])
      have d1 : DInv v n t 0 0 (fun j => if j = t.toNat then 0 else -1) := DInv.start v n ⟨ht0, ht9⟩ (fun j _ => rfl)
      have hB1 : Below w.heap.size w (wr.setCell ⟨w.heap.size, t.toNat, none⟩ (.int .i64 0)) := by (repeat (first | exact Below.refl _ _ | assumption | (refine Below.drew ?_) | (refine below_alloc ?_ _) | (refine Below.setCell ?_ (by first | (simp; done) | (simp; omega) | omega | (have hq := hB.size; (try simp at hq ⊢); omega)) _) | (refine Below.alloc ?_ (by first | (simp; done) | (simp; omega) | omega | (have hq := hB.size; (try simp at hq ⊢); omega)) _) | (refine below_step ?_ (by assumption))))
      have HD := Lib.hid d1; clear d1
      have HO := Lib.hid o1; clear o1
      have HB := Lib.hid hB1; clear hB1
      clear o0
      go_wp2_with fail
      go_loopw [7] (fun i wr => ∃ (m : Nat) (d : Nat → Int), m ≤ 10 ∧ i = .int .i64 m ∧ Own wr w.heap.size 3 10 d ∧ Go.RowKit.Hid (DInv v n t m 0 d) ∧ Below w.heap.size w wr) (fun i _ => 10 - (intOf i).toNat)
      case atStart => exact ⟨0, _, by omega, rfl, HO.out, HD, HB.out⟩
      case round =>
        clear HD HO HB hB c0 z0
        obtain ⟨m, d, hm, rfl, o0, HD, hB⟩ := hrel
        by_cases hm10 : m < 10
        · go_wp2_with fail
          go_loopw [8] (fun i wr => ∃ (k : Nat) (d : Nat → Int), k ≤ n ∧ i = .int .i64 k ∧ Own wr w.heap.size 3 10 d ∧ Go.RowKit.Hid (DInv v n t m k d) ∧ Below w.heap.size w wr) (fun i _ => n - (intOf i).toNat)
          case atStart => exact ⟨0, d, Nat.zero_le _, rfl, o0, HD, hB⟩
          case round =>
            clear HD o0 hB
            obtain ⟨k, d, hk, rfl, o0, HD, hB⟩ := hrel
            by_cases hkn : k < n
            · obtain ⟨b, o, rfl, hc4⟩ := (HF.out.below hB) (by omega)
              have c0 := hc4 (k * 4) (by omega)
              have c1 := hc4 (k * 4 + 1) (by omega)
              rw [← Nat.add_assoc] at c1
              clear hc4
              obtain ⟨⟨a0, a9⟩, ⟨b0, b9⟩, hne, _, _⟩ := ratB_at HR.out hkn
              have c2 : wr.cell? ⟨w.heap.size, (v (k * 4)).toNat, none⟩ = _ := o0.cell (j := (v (k * 4)).toNat) (by omega)
              have c3 : wr.cell? ⟨w.heap.size, (v (k * 4 + 1)).toNat, none⟩ = _ := o0.cell (j := (v (k * 4 + 1)).toNat) (by omega)
              have z2 := o0.frozen (v (k * 4)).toNat
              have z3 := o0.frozen (v (k * 4 + 1)).toNat
              have ra := HD.out.rng (v (k * 4)) ⟨a0, a9⟩
              have rb := HD.out.rng (v (k * 4 + 1)) ⟨b0, b9⟩
              have hn1 : nxt v (v (k * 4 + 1)) k = some (v (k * 4)) := by simp [nxt]
              have hn2 : nxt v (v (k * 4)) k = some (v (k * 4 + 1)) := by unfold nxt; rw [if_neg (fun e => hne e.symm), if_pos rfl]
              obtain ⟨da, hda⟩ : ∃ da, da = d (v (k * 4)).toNat := ⟨_, rfl⟩
              obtain ⟨db, hdb⟩ : ∃ db, db = d (v (k * 4 + 1)).toNat := ⟨_, rfl⟩
              rw [← hda] at c2 ra
              rw [← hdb] at c3 rb
              have hm1 : ((m : Int) + 1 == (m : Int)) = false := beq_eq_false_iff_ne.2 (by omega)
              have hm2 : (0 : Int) ≤ (m : Int) := Int.natCast_nonneg _
              have hcs : (da = (m : Int) ∧ db < 0) ∨ (da = (m : Int) ∧ 0 ≤ db ∧ db = (m : Int)) ∨ (da = (m : Int) ∧ 0 ≤ db ∧ (db == (m : Int)) = false) ∨ ((da == (m : Int)) = false ∧ db = (m : Int) ∧ da < 0) ∨ ((da == (m : Int)) = false ∧ db = (m : Int) ∧ 0 ≤ da) ∨ ((da == (m : Int)) = false ∧ (db == (m : Int)) = false) := by
                simp only [beq_eq_false_iff_ne]; omega
              have hab : (v (k * 4)).toNat ≠ (v (k * 4 + 1)).toNat := by omega
              rcases hcs with ⟨t1, t2⟩ | ⟨t1, t2, t3⟩ | ⟨t1, t2, t3⟩ | ⟨t1, t2, t3⟩ | ⟨t1, t2, t3⟩ | ⟨t1, t2⟩
              · subst t1
                have hB2 : Below w.heap.size w (wr.setCell ⟨w.heap.size, (v (k * 4 + 1)).toNat, none⟩ (.int .i64 ((m : Int) + 1))) := by (repeat (first | exact Below.refl _ _ | assumption | (refine Below.drew ?_) | (refine below_alloc ?_ _) | (refine Below.setCell ?_ (by first | (simp; done) | (simp; omega) | omega | (have hq := hB.size; (try simp at hq ⊢); omega)) _) | (refine Below.alloc ?_ (by first | (simp; done) | (simp; omega) | omega | (have hq := hB.size; (try simp at hq ⊢); omega)) _) | (refine below_step ?_ (by assumption))))
                have HO2 := Lib.hid (o0.set (v (k * 4 + 1)).toNat ((m : Int) + 1)); clear o0
                have hD2 : DInv v n t m (k + 1) (fun j => if j = (v (k * 4 + 1)).toNat then ((m : Int) + 1) else d j) := DInv.set HD.out hkn (z := v (k * 4 + 1)) (y := v (k * 4)) ⟨by omega, by omega⟩ ⟨by omega, by omega⟩ hn1 (by omega) (by omega) (by simp) (fun x hx hne2 => by unfold U9 at hx; rw [if_neg (by omega)]) (ratB_U HR.out) ⟨ht0, ht9⟩
                have HD2 := Lib.hid hD2; clear hD2
                have HB2 := Lib.hid hB2; clear hB2
                clear ra rb hda hdb hn1 hn2
                go_wp2_with fail
                go_roundw
                case rel => exact ⟨k + 1, _, by omega, by go_num, HO2.out, HD2, HB2.out⟩
                case measure => simp [intOf]; omega
              · subst t1
                subst t3
                have hD2 : DInv v n t m (k + 1) d := HD.out.same (fun x y hxy hx => by
                  rcases (nxt_sym hxy).2 with ⟨e1, e2⟩ | ⟨e1, e2⟩
                  · rw [e1] at hx; rw [e2]; exact ⟨by omega, ⟨by omega, by omega⟩⟩
                  · rw [e1] at hx; rw [e2]; exact ⟨by omega, ⟨by omega, by omega⟩⟩)
                have HD2 := Lib.hid hD2; clear hD2
                have HO2 := Lib.hid o0; clear o0
                clear ra rb hda hdb hn1 hn2
                go_wp2_with fail
                go_roundw
                case rel => exact ⟨k + 1, _, by omega, by go_num, HO2.out, HD2, hB⟩
                case measure => simp [intOf]; omega
              · subst t1
                have t4 := beq_eq_false_iff_ne.1 t3
                have hD2 : DInv v n t m (k + 1) d := HD.out.same (fun x y hxy hx => by
                  rcases (nxt_sym hxy).2 with ⟨e1, e2⟩ | ⟨e1, e2⟩
                  · rw [e1] at hx; rw [e2]; exact ⟨by omega, ⟨by omega, by omega⟩⟩
                  · rw [e1] at hx; rw [e2]; exact ⟨by omega, ⟨by omega, by omega⟩⟩)
                have HD2 := Lib.hid hD2; clear hD2
                have HO2 := Lib.hid o0; clear o0
                clear ra rb hda hdb hn1 hn2
                go_wp2_with fail
                go_roundw
                case rel => exact ⟨k + 1, _, by omega, by go_num, HO2.out, HD2, hB⟩
                case measure => simp [intOf]; omega
              · subst t2
                have t4 := beq_eq_false_iff_ne.1 t1
                have hB2 : Below w.heap.size w (wr.setCell ⟨w.heap.size, (v (k * 4)).toNat, none⟩ (.int .i64 ((m : Int) + 1))) := by (repeat (first | exact Below.refl _ _ | assumption | (refine Below.drew ?_) | (refine below_alloc ?_ _) | (refine Below.setCell ?_ (by first | (simp; done) | (simp; omega) | omega | (have hq := hB.size; (try simp at hq ⊢); omega)) _) | (refine Below.alloc ?_ (by first | (simp; done) | (simp; omega) | omega | (have hq := hB.size; (try simp at hq ⊢); omega)) _) | (refine below_step ?_ (by assumption))))
                have HO2 := Lib.hid (o0.set (v (k * 4)).toNat ((m : Int) + 1)); clear o0
                have hD2 : DInv v n t m (k + 1) (fun j => if j = (v (k * 4)).toNat then ((m : Int) + 1) else d j) := DInv.set HD.out hkn (z := v (k * 4)) (y := v (k * 4 + 1)) ⟨by omega, by omega⟩ ⟨by omega, by omega⟩ hn2 (by omega) (by omega) (by simp) (fun x hx hne2 => by unfold U9 at hx; rw [if_neg (by omega)]) (ratB_U HR.out) ⟨ht0, ht9⟩
                have HD2 := Lib.hid hD2; clear hD2
                have HB2 := Lib.hid hB2; clear hB2
                clear ra rb hda hdb hn1 hn2
                go_wp2_with fail
                go_roundw
                case rel => exact ⟨k + 1, _, by omega, by go_num, HO2.out, HD2, HB2.out⟩
                case measure => simp [intOf]; omega
              · subst t2
                have t4 := beq_eq_false_iff_ne.1 t1
                have hD2 : DInv v n t m (k + 1) d := HD.out.same (fun x y hxy hx => by
                  rcases (nxt_sym hxy).2 with ⟨e1, e2⟩ | ⟨e1, e2⟩
                  · rw [e1] at hx; rw [e2]; exact ⟨by omega, ⟨by omega, by omega⟩⟩
                  · rw [e1] at hx; rw [e2]; exact ⟨by omega, ⟨by omega, by omega⟩⟩)
                have HD2 := Lib.hid hD2; clear hD2
                have HO2 := Lib.hid o0; clear o0
                clear ra rb hda hdb hn1 hn2
                go_wp2_with fail
                go_roundw
                case rel => exact ⟨k + 1, _, by omega, by go_num, HO2.out, HD2, hB⟩
                case measure => simp [intOf]; omega
              · have t4 := beq_eq_false_iff_ne.1 t1
                have t5 := beq_eq_false_iff_ne.1 t2
                have hD2 : DInv v n t m (k + 1) d := HD.out.same (fun x y hxy hx => by
                  rcases (nxt_sym hxy).2 with ⟨e1, e2⟩ | ⟨e1, e2⟩
                  · rw [e1] at hx; rw [e2]; exact ⟨by omega, ⟨by omega, by omega⟩⟩
                  · rw [e1] at hx; rw [e2]; exact ⟨by omega, ⟨by omega, by omega⟩⟩)
                have HD2 := Lib.hid hD2; clear hD2
                have HO2 := Lib.hid o0; clear o0
                clear ra rb hda hdb hn1 hn2
                go_wp2_with fail
                go_roundw
                case rel => exact ⟨k + 1, _, by omega, by go_num, HO2.out, HD2, hB⟩
                case measure => simp [intOf]; omega
            · obtain rfl : k = n := by omega
              have HN := Lib.hid HD.out.next
              go_wp2_with fail
              go_roundw
              case rel => exact ⟨m + 1, d, by omega, by go_num, o0, HN, hB⟩
              case measure => simp [intOf]; omega
        · obtain rfl : m = 10 := by omega
          go_wp2_with fail
          go_ret
          exact ⟨_, d, rfl, o0, HD.out.done, hB⟩
theorem ratB_U2 {n : Nat} {v : Nat → Int} (h : ratB n v = true) : ∀ x e y, e < n → nxt v x e = some y → U9 x := by
  intro x e y he hn
  have := ratB_at h he
  rcases (nxt_sym hn).2 with ⟨h1, h2⟩ | ⟨h1, h2⟩ <;> · unfold U9; omega
open Classical in
noncomputable def reachB (v : Nat → Int) (n : Nat) (a b : Int) : Bool := decide (Reach v n a b)
theorem reachB_iff {v : Nat → Int} {n : Nat} {a b : Int} : reachB v n a b = true ↔ Reach v n a b := by simp [reachB]
/-- Are two units united? -/
noncomputable def uniB (n : Nat) (v : Nat → Int) (a b : Int) : Bool := ratB n v && inB a 0 9 && inB b 0 9 && reachB v n a b
theorem impl_AreUnited (A : Option Addr) (n c : Nat) (v : Nat → Int) (a b : Int) (w : World) (hm : n ≤ 1048576) (f0 : Fl w A n 4 v) : Calls Try.prog 15 #[.slice A n c, .int .i64 a, .int .i64 b] w fun e w' => e = .returned (.bool (uniB n v a b)) ∧ Below w.heap.size w w' := by
  have hR := fun w f => impl_RatiosOk A n c v w hm f
  have hB := Below.refl w.heap.size w
  by_cases hall : ratB n v = true ∧ inB a 0 9 = true ∧ inB b 0 9 = true
  · obtain ⟨h1, h2, h3⟩ := hall
    have ha := inB_iff.1 h2
    have hb := inB_iff.1 h3
    have hW := fun w f => impl_way A n c v a b w ha hb h1 f
    have hU := ratB_U h1
    have hU2 := ratB_U2 h1
    have huni : uniB n v a b = reachB v n a b := by simp [uniB, h1, h2, h3]
    rw [huni]
    have hW2 : ∀ w, Fl w A n 4 v → Calls Try.prog 35 #[.slice A n c, .int .i64 a, .int .i64 b] w fun e w' => ∃ s, e = .returned (.tuple #[s, .bool (reachB v n a b)]) ∧ Below w.heap.size w w' := fun w f => (hW w f).mono fun e w' => by
      rintro ⟨R, hbf, hres, hb2⟩
      rcases hres with ⟨j, r, A', c', hj, hx, rfl, _⟩ | ⟨hx, rfl⟩
      · exact ⟨_, by rw [reachB_iff.2 ((reach_R hbf hU hU2 ha hb).2 ⟨j, r, hj, hx⟩)], hb2⟩
      · refine ⟨.slice none 0 0, ?_, hb2⟩
        rw [show reachB v n a b = false from by
          rw [Bool.eq_false_iff, Ne, reachB_iff]
          intro h
          obtain ⟨j, r, hj, he⟩ := (reach_R hbf hU hU2 ha hb).1 h
          exact hx j r hj he]
    clear huni hU hU2 hW
    simp only [h1] at hR
    clear h1
    generalize reachB v n a b = o at hW2
    go_enter Try.func15, Try.ntmps15
    go_wp2_with (first | (go_at_call 31; (with_reducible refine (in_any _ _ _ _).mono ?_); rintro _ _ ⟨rfl, rfl⟩) | (go_at_call 12; (with_reducible refine (hR _ f0).mono ?_); rintro _ w1 ⟨rfl, hb1⟩; replace f0 := f0.below hb1; replace hB := below_step hB hb1; clear hb1) | (go_at_call 35; (with_reducible refine (hW2 _ f0).mono ?_); rintro _ w2 ⟨s, rfl, hb2⟩; replace hB := below_step hB hb2; clear hb2))
    go_ret
    exact ⟨rfl, hB⟩
  · have huni : uniB n v a b = false := by
      cases h1 : ratB n v <;> cases h2 : inB a 0 9 <;> cases h3 : inB b 0 9 <;> simp_all [uniB]
    rw [huni]
    clear huni
    cases h1 : ratB n v <;> cases h2 : inB a 0 9 <;> cases h3 : inB b 0 9 <;> simp [h1, h2, h3] at hall
    all_goals
      simp only [h1] at hR
      clear h1
      go_enter Try.func15, Try.ntmps15
      go_wp2_with (first | (go_at_call 31; (with_reducible refine (in_any _ _ _ _).mono ?_); rintro _ _ ⟨rfl, rfl⟩) | (go_at_call 12; (with_reducible refine (hR _ f0).mono ?_); rintro _ w1 ⟨rfl, hb1⟩; replace f0 := f0.below hb1; replace hB := below_step hB hb1; clear hb1))
      go_ret
      exact ⟨rfl, hB⟩
theorem spec_AreUnited (A : Option Addr) (n c : Nat) (v : Nat → Int) (a b : Int) (w : World) (hm : n ≤ 1048576) (f0 : Fl w A n 4 v) : Calls Try.prog 14 #[.slice A n c, .int .i64 a, .int .i64 b] w fun e w' => e = .returned (.bool (uniB n v a b)) ∧ Below w.heap.size w w' := by
  have hR := fun w f => spec_RatiosOk A n c v w hm f
  have hB := Below.refl w.heap.size w
  by_cases hall : ratB n v = true ∧ inB a 0 9 = true ∧ inB b 0 9 = true
  · obtain ⟨h1, h2, h3⟩ := hall
    have ha := inB_iff.1 h2
    have hb := inB_iff.1 h3
    have hW := fun w f => spec_Dist A n c v b w hb h1 f
    have huni : uniB n v a b = reachB v n a b := by simp [uniB, h1, h2, h3]
    rw [huni]
    clear huni
    simp only [h1] at hR
    clear h1
    obtain ⟨ha0, ha9⟩ := ha
    go_enter Try.func14, Try.ntmps14
    go_wp2_with (first | (go_at_call 28; (with_reducible refine (l01In_any _ _ _ _).mono ?_); rintro _ _ ⟨rfl, rfl⟩) | (go_at_call 10; (with_reducible refine (hR _ f0).mono ?_); rintro _ w1 ⟨rfl, hb1⟩; replace f0 := f0.below hb1; replace hB := below_step hB hb1; clear hb1) | (go_at_call 34; (with_reducible refine (hW _ f0).mono ?_); rintro _ w2 ⟨g, d, rfl, o2, hd2, hb2⟩; have c0 : w2.cell? ⟨g, a.toNat, none⟩ = _ := o2.cell (j := a.toNat) (by omega)))
    go_ret
    exact ⟨ret_bool (by rw [Bool.eq_iff_iff, reachB_iff, reach_D hd2 ⟨ha0, ha9⟩]; simp), below_step hB hb2⟩
  · have huni : uniB n v a b = false := by
      cases h1 : ratB n v <;> cases h2 : inB a 0 9 <;> cases h3 : inB b 0 9 <;> simp_all [uniB]
    rw [huni]
    clear huni
    cases h1 : ratB n v <;> cases h2 : inB a 0 9 <;> cases h3 : inB b 0 9 <;> simp [h1, h2, h3] at hall
    all_goals
      simp only [h1] at hR
      clear h1
      go_enter Try.func14, Try.ntmps14
      go_wp2_with (first | (go_at_call 28; (with_reducible refine (l01In_any _ _ _ _).mono ?_); rintro _ _ ⟨rfl, rfl⟩) | (go_at_call 10; (with_reducible refine (hR _ f0).mono ?_); rintro _ w1 ⟨rfl, hb1⟩; replace f0 := f0.below hb1; replace hB := below_step hB hb1; clear hb1))
      go_ret
      exact ⟨rfl, hB⟩
theorem walkAreUnited (A : Option Addr) (n c : Nat) (v : Nat → Int) (a b : Int) (w : World) (hm : n ≤ maxLen) (f0 : Fl w A n 4 v) : Calls Try.prog 4 #[.slice A n c, .int .i64 a, .int .i64 b] w fun e w' => e = .returned (.bool true) ∧ Below w.heap.size w w' := by
  have hB := Below.refl w.heap.size w
  by_cases hn : n ≤ 1048576
  · have hs : ∀ w, _ := fun w => szRatioS_any A n c hm w
    simp only [szB_yes hn] at hs
    have hI := fun A c w f => impl_AreUnited A n c v a b w hn f
    have hS := fun A c w f => spec_AreUnited A n c v a b w hn f
    generalize uniB n v a b = o at hI hS
    have ob : (o != o) = false := by simp
    go_enter Try.func4, Try.ntmps4
    ((go_wp2_with fail); (with_reducible refine (hs _).mono ?_); rintro _ _ ⟨rfl, rfl⟩)
    ((go_wp2_with fail); (with_reducible refine (toRatioS_any A n c v _ hn f0).mono ?_); rintro _ w1 ⟨g1, rfl, hg1, o1, hb⟩; replace f0 := Fl.below f0 hb; replace hB := below_step hB hb; clear hb)
    ((go_wp2_with fail); (with_reducible refine (hS _ n _ (o1.fl (Nat.le_refl _))).mono ?_); rintro _ w1 ⟨rfl, hb⟩; replace f0 := Fl.below f0 hb; replace hB := below_step hB hb; clear hb)
    ((go_wp2_with fail); (with_reducible refine (toRatioS_any A n c v _ hn f0).mono ?_); rintro _ w1 ⟨g1, rfl, hg1, o1, hb⟩; replace f0 := Fl.below f0 hb; replace hB := below_step hB hb; clear hb)
    ((go_wp2_with fail); (with_reducible refine (hI _ n _ (o1.fl (Nat.le_refl _))).mono ?_); rintro _ w1 ⟨rfl, hb⟩; replace f0 := Fl.below f0 hb; replace o1 := Own.below o1 hb; replace hB := below_step hB hb; clear hb)
    ((go_wp2_with fail); (with_reducible refine (toRatioS_any A n c v _ hn f0).mono ?_); rintro _ w1 ⟨g2, rfl, hg2, o2, hb⟩; replace f0 := Fl.below f0 hb; replace o1 := Own.below o1 hb; replace hB := below_step hB hb; clear hb)
    ((go_wp2_with fail); (with_reducible refine (eqRatioS_true _ _ n n n v _ hn (o1.fl (Nat.le_refl _)) (o2.fl (Nat.le_refl _))).mono ?_); rintro _ w1 ⟨rfl, hb⟩; replace hB := below_step hB hb; clear hb)
    go_wp2_with fail
    go_ret
    exact ⟨rfl, hB⟩
  · have hs : ∀ w, _ := fun w => szRatioS_any A n c hm w
    simp only [szB_no hn] at hs
    go_enter Try.func4, Try.ntmps4
    ((go_wp2_with fail); (with_reducible refine (hs _).mono ?_); rintro _ _ ⟨rfl, rfl⟩)
    go_wp2_with fail
    go_ret
    exact ⟨rfl, hB⟩
end Go.Proofs.Ytfgkglbhbdfpfaa
