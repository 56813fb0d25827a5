/- The contracts of FactorOf. -/
import Derived.Test.YtfgkglbhbdfpfaaUnited
import Derived.Test.YtfgkglbhbdfpfaaGreedy
import Derived.Test.YtfgkglbhbdfpfaaFracS
import Derived.Test.YtfgkglbhbdfpfaaMads
namespace Go.Proofs.Ytfgkglbhbdfpfaa
open Go.RowKit
set_option linter.unusedSimpArgs false
set_option linter.unusedVariables false
set_option maxHeartbeats 4000000
def tO (a b c d : Int) : Bool := frB a b && frB c d && redO (a * c) (b * d)
def tT (a b c d : Int) : Int := if tO a b c d = true then rT (a * c) (b * d) else 0
def tB (a b c d : Int) : Int := if tO a b c d = true then rB (a * c) (b * d) else 0
theorem timV_eq (a b c d : Int) : timV a b c d = .tuple #[.agg #[.int .i64 (tT a b c d), .int .i64 (tB a b c d)], .bool (tO a b c d)] := by
  by_cases h : frB a b = true ∧ frB c d = true
  · rw [timV_yes h.1 h.2]
    by_cases h2 : redO (a * c) (b * d) = true
    · have e : tO a b c d = true := by simp [tO, h.1, h.2, h2]
      rw [redV_yes h2, tT, tB, if_pos e, if_pos e, e]
    · have e : tO a b c d = false := by simp [tO, h2]
      rw [redV_no h2, tT, tB, e]; rfl
  · have e : tO a b c d = false := by
      cases h1 : frB a b <;> cases h2 : frB c d <;> simp_all [tO]
    rw [timV_no h, tT, tB, e]; rfl
/-- The product along a way. -/
def fol (v : Nat → Int) : List Int → Int → Int → Int → Option (Int × Int)
  | [], _, T, B => some (T, B)
  | i :: p, x, T, B =>
    if v (i.toNat * 4) = x then (if tO T B (v (i.toNat * 4 + 2)) (v (i.toNat * 4 + 3)) = true then fol v p (v (i.toNat * 4 + 1)) (tT T B (v (i.toNat * 4 + 2)) (v (i.toNat * 4 + 3))) (tB T B (v (i.toNat * 4 + 2)) (v (i.toNat * 4 + 3))) else none)
    else (if tO T B (v (i.toNat * 4 + 3)) (v (i.toNat * 4 + 2)) = true then fol v p (v (i.toNat * 4)) (tT T B (v (i.toNat * 4 + 3)) (v (i.toNat * 4 + 2))) (tB T B (v (i.toNat * 4 + 3)) (v (i.toNat * 4 + 2))) else none)
def optV : Option (Int × Int) → Value
  | some (T, B) => .tuple #[.agg #[.int .i64 T, .int .i64 B], .bool true]
  | none => .tuple #[.agg #[.int .i64 0, .int .i64 0], .bool false]
theorem fol_fwd {v : Nat → Int} {e : Nat} {p : List Int} {x T B : Int} (h : v (e * 4) = x) : fol v ((e : Int) :: p) x T B = if tO T B (v (e * 4 + 2)) (v (e * 4 + 3)) = true then fol v p (v (e * 4 + 1)) (tT T B (v (e * 4 + 2)) (v (e * 4 + 3))) (tB T B (v (e * 4 + 2)) (v (e * 4 + 3))) else none := by
  simp [fol, h]
theorem fol_bwd {v : Nat → Int} {e : Nat} {p : List Int} {x T B : Int} (h : v (e * 4) ≠ x) : fol v ((e : Int) :: p) x T B = if tO T B (v (e * 4 + 3)) (v (e * 4 + 2)) = true then fol v p (v (e * 4)) (tT T B (v (e * 4 + 3)) (v (e * 4 + 2))) (tB T B (v (e * 4 + 3)) (v (e * 4 + 2))) else none := by
  simp [fol, h]
/-- The factor between two units, as both functions return it. -/
noncomputable def facV (n : Nat) (v : Nat → Int) (a b : Int) : Value := if uniB n v a b = true then optV (fol v (facP n v a b) a 1 1) else optV none
theorem way_no (A : Option Addr) (n c : Nat) (v : Nat → Int) (a d : Int) (w : World) (ha : U9 a) (hd : U9 d) (hr : ratB n v = true) (f0 : Fl w A n 4 v) (h : reachB v n a d = false) :
    Calls Try.prog 35 #[.slice A n c, .int .i64 a, .int .i64 d] w fun e w' => e = .returned (.tuple #[.slice none 0 0, .bool false]) ∧ Below w.heap.size w w' := by
  refine (impl_way A n c v a d w ha hd hr f0).mono fun e w' => ?_
  rintro ⟨R, hbf, hres, hb2⟩
  rcases hres with ⟨j, r, A', c', hj, hx, rfl, _⟩ | ⟨hx, rfl⟩
  · exfalso
    rw [Bool.eq_false_iff, Ne, reachB_iff] at h
    exact h ((reach_R hbf (ratB_U hr) (ratB_U2 hr) ha hd).2 ⟨j, r, hj, hx⟩)
  · exact ⟨rfl, hb2⟩
theorem way_yes (A : Option Addr) (n c : Nat) (v : Nat → Int) (a d : Int) (w : World) (ha : U9 a) (hd : U9 d) (hr : ratB n v = true) (f0 : Fl w A n 4 v) (h : reachB v n a d = true) :
    Calls Try.prog 35 #[.slice A n c, .int .i64 a, .int .i64 d] w fun e w' => ∃ A' c', e = .returned (.tuple #[.slice A' (facP n v a d).length c', .bool true]) ∧ Fl w' A' (facP n v a d).length 1 (fun j => (facP n v a d).getD j 0) ∧ Below w.heap.size w w' := by
  refine (impl_way A n c v a d w ha hd hr f0).mono fun e w' => ?_
  rintro ⟨R, hbf, hres, hb2⟩
  obtain ⟨D, hD⟩ := (DInv.some (ratB_U hr) (ratB_U2 hr) hd 10).1
  rcases hres with ⟨j, r, A', c', hj, hx, rfl, hF⟩ | ⟨hx, rfl⟩
  · have hg := hD.done.greedy hbf hj hx r.p 0 _ (hbf.chain j r hj) hbf.head
    rw [facP_of hD.done ha hg]
    exact ⟨A', c', rfl, hF, hb2⟩
  · exfalso
    obtain ⟨j, r, hj, he⟩ := (reach_R hbf (ratB_U hr) (ratB_U2 hr) ha hd).1 (reachB_iff.1 h)
    exact hx j r hj he
theorem uniB_no {n : Nat} {v : Nat → Int} {a b : Int} (h : ¬ (ratB n v = true ∧ inB a 0 9 = true ∧ inB b 0 9 = true)) : uniB n v a b = false := by
  cases h1 : ratB n v <;> cases h2 : inB a 0 9 <;> cases h3 : inB b 0 9 <;> simp_all [uniB]
theorem uniB_yes {n : Nat} {v : Nat → Int} {a b : Int} (h1 : ratB n v = true) (h2 : inB a 0 9 = true) (h3 : inB b 0 9 = true) : uniB n v a b = reachB v n a b := by simp [uniB, h1, h2, h3]
theorem impl_Factor_no (A : Option Addr) (n c : Nat) (v : Nat → Int) (a b : Int) (w : World) (hm : n ≤ 1048576) (f0 : Fl w A n 4 v) (hall : ¬ (ratB n v = true ∧ inB a 0 9 = true ∧ inB b 0 9 = true)) : Calls Try.prog 17 #[.slice A n c, .int .i64 a, .int .i64 b] w fun e w' => e = .returned (optV none) ∧ Below w.heap.size w w' := by
  have hR := fun w f => impl_RatiosOk A n c v w hm f
  cases h1 : ratB n v <;> cases h2 : inB a 0 9 <;> cases h3 : inB b 0 9 <;> simp [h1, h2, h3] at hall
  all_goals
    simp only [h1] at hR
    clear h1
    obtain ⟨W, hW⟩ : ∃ W, W = (w.alloc (.cells #[.int .i64 0, .int .i64 0] 32)) := ⟨_, rfl⟩
    have c0 : W.cell? ⟨w.heap.size, 0, none⟩ = some (.int .i64 0) := by rw [hW]; simp [go_sem]
    have z0 : W.frozen? ⟨w.heap.size, 0, none⟩ = false := by rw [hW]; simp [go_sem]
    have c1 : W.cell? ⟨w.heap.size, 1, none⟩ = some (.int .i64 0) := by rw [hW]; simp [go_sem]
    have z1 : W.frozen? ⟨w.heap.size, 1, none⟩ = false := by rw [hW]; simp [go_sem]
    have hB : Below w.heap.size w W := by rw [hW]; exact ((Below.refl _ _).alloc (by simp <;> omega) _)
    subst hW
    replace f0 := f0.below hB
    go_enter Try.func17, Try.ntmps17
    go_wp2_with (first | (go_at_call 31; (with_reducible refine (in_any _ _ _ _).mono ?_); rintro _ _ ⟨rfl, rfl⟩) | (go_at_call 12; (with_reducible refine (hR _ f0).mono ?_); rintro _ w1 ⟨rfl, hb⟩; replace f0 := f0.below hb; replace z0 := below_frozen hb (lt_of_cell c0) z0; replace c0 := below_cell hb c0; replace z1 := below_frozen hb (lt_of_cell c1) z1; replace c1 := below_cell hb c1; replace hB := below_step hB hb; clear hb))
    refine bodyPost_ret (by first | (simp [results, Try.results17, go_sem, *]; done) | (simp [results, Try.results17, go_sem, *]; rfl)) rfl ⟨rfl, by (repeat (first | exact Below.refl _ _ | assumption | (refine Below.drew ?_) | (refine below_alloc ?_ _) | (refine Below.setCell ?_ (by first | (simp; done) | (simp; omega) | omega | (have hq := hB.size; (try simp at hq ⊢); omega)) _) | (refine Below.alloc ?_ (by first | (simp; done) | (simp; omega) | omega | (have hq := hB.size; (try simp at hq ⊢); omega)) _) | (refine below_step ?_ (by assumption))))⟩
theorem impl_Factor (A : Option Addr) (n c : Nat) (v : Nat → Int) (a b : Int) (w : World) (hm : n ≤ 1048576) (f0 : Fl w A n 4 v) (h1 : ratB n v = true) (h2 : inB a 0 9 = true) (h3 : inB b 0 9 = true) :
    Calls Try.prog 17 #[.slice A n c, .int .i64 a, .int .i64 b] w fun e w' => e = .returned (facV n v a b) ∧ Below w.heap.size w w' := by
  have hR := fun w f => impl_RatiosOk A n c v w hm f
  have ha : U9 a := inB_iff.1 h2
  have hb0 : U9 b := inB_iff.1 h3
  simp only [h1] at hR
  have HF := Lib.hid f0
  unfold facV
  rw [uniB_yes h1 h2 h3]
  cases h4 : reachB v n a b
  · have hW := fun w f => way_no A n c v a b w ha hb0 h1 f h4
    clear h1
    obtain ⟨W, hW⟩ : ∃ W, W = (w.alloc (.cells #[.int .i64 0, .int .i64 0] 32)) := ⟨_, rfl⟩
    have c0 : W.cell? ⟨w.heap.size, 0, none⟩ = some (.int .i64 0) := by rw [hW]; simp [go_sem]
    have z0 : W.frozen? ⟨w.heap.size, 0, none⟩ = false := by rw [hW]; simp [go_sem]
    have c1 : W.cell? ⟨w.heap.size, 1, none⟩ = some (.int .i64 0) := by rw [hW]; simp [go_sem]
    have z1 : W.frozen? ⟨w.heap.size, 1, none⟩ = false := by rw [hW]; simp [go_sem]
    have hB : Below w.heap.size w W := by rw [hW]; exact ((Below.refl _ _).alloc (by simp <;> omega) _)
    subst hW
    replace f0 := f0.below hB
    go_enter Try.func17, Try.ntmps17
    go_wp2_with (first | (go_at_call 31; (with_reducible refine (in_any _ _ _ _).mono ?_); rintro _ _ ⟨rfl, rfl⟩) | (go_at_call 12; (with_reducible refine (hR _ f0).mono ?_); rintro _ w1 ⟨rfl, hb⟩; replace f0 := f0.below hb; replace z0 := below_frozen hb (lt_of_cell c0) z0; replace c0 := below_cell hb c0; replace z1 := below_frozen hb (lt_of_cell c1) z1; replace c1 := below_cell hb c1; replace hB := below_step hB hb; clear hb) | (go_at_call 35; (with_reducible refine (hW _ f0).mono ?_); rintro _ w1 ⟨rfl, hb⟩; replace f0 := f0.below hb; replace z0 := below_frozen hb (lt_of_cell c0) z0; replace c0 := below_cell hb c0; replace z1 := below_frozen hb (lt_of_cell c1) z1; replace c1 := below_cell hb c1; replace hB := below_step hB hb; clear hb))
    refine bodyPost_ret (by first | (simp [results, Try.results17, go_sem, *]; done) | (simp [results, Try.results17, go_sem, *]; rfl)) rfl ⟨rfl, by (repeat (first | exact Below.refl _ _ | assumption | (refine Below.drew ?_) | (refine below_alloc ?_ _) | (refine Below.setCell ?_ (by first | (simp; done) | (simp; omega) | omega | (have hq := hB.size; (try simp at hq ⊢); omega)) _) | (refine Below.alloc ?_ (by first | (simp; done) | (simp; omega) | omega | (have hq := hB.size; (try simp at hq ⊢); omega)) _) | (refine below_step ?_ (by assumption))))⟩
  · have hW := fun w f => way_yes A n c v a b w ha hb0 h1 f h4
    obtain ⟨d, hd⟩ := (DInv.some (ratB_U h1) (ratB_U2 h1) hb0 10).1
    have hgr := facP_at hd.done (ratB_U h1) ha ((reach_D hd.done ha).1 (reachB_iff.1 h4))
    have hPl : (facP n v a b).length ≤ 9 := by
      have h5 := hgr.len hd.done
      have h6 := (hd.done.rng a ha).2
      omega
    have HR := Lib.hid h1; clear h1 hd
    rw [if_pos rfl]
    generalize facP n v a b = P at hW hgr hPl
    have HG := Lib.hid hgr; clear hgr
    clear h4
    obtain ⟨W, hW⟩ : ∃ W, W = (w.alloc (.cells #[.int .i64 0, .int .i64 0] 32)) := ⟨_, rfl⟩
    have c0 : W.cell? ⟨w.heap.size, 0, none⟩ = some (.int .i64 0) := by rw [hW]; simp [go_sem]
    have z0 : W.frozen? ⟨w.heap.size, 0, none⟩ = false := by rw [hW]; simp [go_sem]
    have c1 : W.cell? ⟨w.heap.size, 1, none⟩ = some (.int .i64 0) := by rw [hW]; simp [go_sem]
    have z1 : W.frozen? ⟨w.heap.size, 1, none⟩ = false := by rw [hW]; simp [go_sem]
    have hB : Below w.heap.size w W := by rw [hW]; exact ((Below.refl _ _).alloc (by simp <;> omega) _)
    subst hW
    replace f0 := f0.below hB
    go_enter Try.func17, Try.ntmps17
    go_wp2_with (first | (go_at_call 31; (with_reducible refine (in_any _ _ _ _).mono ?_); rintro _ _ ⟨rfl, rfl⟩) | (go_at_call 12; (with_reducible refine (hR _ f0).mono ?_); rintro _ w1 ⟨rfl, hb⟩; replace f0 := f0.below hb; replace z0 := below_frozen hb (lt_of_cell c0) z0; replace c0 := below_cell hb c0; replace z1 := below_frozen hb (lt_of_cell c1) z1; replace c1 := below_cell hb c1; replace hB := below_step hB hb; clear hb) | (go_at_call 35; (with_reducible refine (hW _ f0).mono ?_); rintro _ w2 ⟨A', c', rfl, fp, hb⟩; clear f0; replace z0 := below_frozen hb (lt_of_cell c0) z0; replace c0 := below_cell hb c0; replace z1 := below_frozen hb (lt_of_cell c1) z1; replace c1 := below_cell hb c1; replace hB := below_step hB hb; clear hb))
    have q0 : w.heap.size < w2.heap.size := lt_of_cell c0
    have FP := Lib.hid fp; clear fp
    have HB := Lib.hid hB
    have hb := below_alloc (Below.refl w2.heap.size w2) (.cells #[.int .i64 1, .int .i64 1] 32)
    replace z0 := below_frozen hb (lt_of_cell c0) z0; replace c0 := below_cell hb c0; replace z1 := below_frozen hb (lt_of_cell c1) z1; replace c1 := below_cell hb c1
    have z2 : (w2.alloc (.cells #[.int .i64 1, .int .i64 1] 32)).frozen? ⟨w2.heap.size, 0, none⟩ = false := by simp [go_sem]
    have c2 : (w2.alloc (.cells #[.int .i64 1, .int .i64 1] 32)).cell? ⟨w2.heap.size, 0, none⟩ = some (.int .i64 1) := by simp [go_sem]
    have z3 : (w2.alloc (.cells #[.int .i64 1, .int .i64 1] 32)).frozen? ⟨w2.heap.size, 1, none⟩ = false := by simp [go_sem]
    have c3 : (w2.alloc (.cells #[.int .i64 1, .int .i64 1] 32)).cell? ⟨w2.heap.size, 1, none⟩ = some (.int .i64 1) := by simp [go_sem]
    go_loopw [1, 44] (fun f i wr => ∃ (k : Nat) (x T B : Int) (q : List Int), k ≤ P.length ∧ i = .int .i64 k ∧ f = .int .i64 x ∧ Go.RowKit.Hid (q = P.drop k ∧ Gr v n b d x q ∧ fol v q x T B = fol v P a 1 1 ∧ U9 x) ∧ wr.frozen? ⟨w.heap.size, 0, none⟩ = false ∧ wr.cell? ⟨w.heap.size, 0, none⟩ = some (.int .i64 0) ∧ wr.frozen? ⟨w.heap.size, 1, none⟩ = false ∧ wr.cell? ⟨w.heap.size, 1, none⟩ = some (.int .i64 0) ∧
      wr.frozen? ⟨w2.heap.size, 0, none⟩ = false ∧ wr.cell? ⟨w2.heap.size, 0, none⟩ = some (.int .i64 T) ∧ wr.frozen? ⟨w2.heap.size, 1, none⟩ = false ∧ wr.cell? ⟨w2.heap.size, 1, none⟩ = some (.int .i64 B) ∧ Below w2.heap.size w2 wr) (fun _ i _ => P.length - (intOf i).toNat)
    case atStart => exact ⟨0, a, 1, 1, P, by omega, rfl, rfl, Lib.hid ⟨by simp, HG.out, rfl, ha⟩, z0, c0, z1, c1, z2, c2, z3, c3, hb⟩
    case round =>
      clear z0 c0 z1 c1 z2 c2 z3 c3 hb
      obtain ⟨k, x, T, B, q, hk, rfl, rfl, HQ, z0, c0, z1, c1, z2, c2, z3, c3, hBr⟩ := hrel
      by_cases hkn : k < P.length
      · obtain ⟨hq, hgr, hfol, hxU⟩ := HQ.out
        rw [List.drop_eq_getElem_cons hkn] at hq
        subst hq
        obtain ⟨e, y, he, hen, hnx, hU9, _, _, _, hgr2⟩ := hgr
        rw [he] at hfol
        obtain ⟨pb, po, rfl, hcp⟩ := (FP.out.below hBr) (by omega)
        have cp : wr.cell? ⟨pb, po + k, none⟩ = some (.int .i64 (e : Int)) := (hcp k (by omega)).trans (by simp [List.getD, List.getElem?_eq_getElem hkn, he])
        obtain ⟨lb, lo, rfl, hcl⟩ := (HF.out.below (below_step HB.out hBr)) (by omega)
        have d0 := hcl (e * 4) (by omega)
        have d1 := hcl (e * 4 + 1) (by omega)
        have d2 := hcl (e * 4 + 2) (by omega)
        have d3 := hcl (e * 4 + 3) (by omega)
        rw [← Nat.add_assoc] at d1 d2 d3
        obtain ⟨_, _, hne, _, _⟩ := ratB_at HR.out hen
        obtain ⟨q, hq2⟩ : ∃ q, q = P.drop (k + 1) := ⟨_, rfl⟩
        rw [← hq2] at hgr2 hfol
        have he0 : (0 : Int) ≤ (e : Int) := Int.natCast_nonneg _
        have he1 : (e : Int) < (n : Int) := by omega
        have hs := (nxt_sym hnx).2
        clear hnx HQ hcp hcl he
        have q1 : w.heap.size < wr.heap.size := lt_of_cell c0
        have q2 : w2.heap.size < wr.heap.size := lt_of_cell c2
        rcases hs with ⟨h5, h6⟩ | ⟨h5, h6⟩
        all_goals
          subst h5
          subst h6
        · skip
          have hT := fun w => impl_Times T B (v (e * 4 + 2)) (v (e * 4 + 3)) w
          simp only [timV_eq] at hT
          have hfo := fol_fwd (p := q) (T := T) (B := B) (rfl : v (e * 4) = v (e * 4))
          rw [hfol] at hfo
          clear hfol
          revert hT hfo
          generalize tT T B (v (e * 4 + 2)) (v (e * 4 + 3)) = X
          generalize tB T B (v (e * 4 + 2)) (v (e * 4 + 3)) = Y
          generalize tO T B (v (e * 4 + 2)) (v (e * 4 + 3)) = O
          intro hT hfo
          have HFO := Lib.hid hfo; clear hfo
          cases O
          · go_wp2_with (go_at_call 27; (with_reducible refine (hT _).mono ?_); rintro _ w1 ⟨rfl, hb⟩; have hw : Below wr.heap.size wr w1 := below_step (by (repeat (first | exact Below.refl _ _ | assumption | (refine Below.drew ?_) | (refine below_alloc ?_ _) | (refine Below.setCell ?_ (by first | (simp; done) | (simp; omega) | omega | (have hq := hB.size; (try simp at hq ⊢); omega)) _) | (refine Below.alloc ?_ (by first | (simp; done) | (simp; omega) | omega | (have hq := hB.size; (try simp at hq ⊢); omega)) _) | (refine below_step ?_ (by assumption))))) hb; clear hb; replace z0 := below_frozen hw (lt_of_cell c0) z0; replace c0 := below_cell hw c0; replace z1 := below_frozen hw (lt_of_cell c1) z1; replace c1 := below_cell hw c1; replace z2 := below_frozen hw (lt_of_cell c2) z2; replace c2 := below_cell hw c2; replace z3 := below_frozen hw (lt_of_cell c3) z3; replace c3 := below_cell hw c3; replace hBr := below_step hBr hw; clear hw; have l1 : w.heap.size < w1.heap.size := lt_of_cell c0; have l2 : w2.heap.size < w1.heap.size := lt_of_cell c2)
            have hBw := hBr.size
            refine bodyPost_ret (by first | (simp [results, Try.results17, go_sem, *]; done) | (simp [results, Try.results17, go_sem, *]; rfl)) rfl ⟨?_, ?_⟩
            · have := HFO.out; simp at this; rw [this]; rfl
            · have hBB := below_step hB hBr
              (repeat (first | exact Below.refl _ _ | assumption | (refine Below.drew ?_) | (refine below_alloc ?_ _) | (refine Below.setCell ?_ (by first | (simp; done) | (simp; omega) | omega | (have hq := hB.size; (try simp at hq ⊢); omega)) _) | (refine Below.alloc ?_ (by first | (simp; done) | (simp; omega) | omega | (have hq := hB.size; (try simp at hq ⊢); omega)) _) | (refine below_step ?_ (by assumption))))
          · go_wp2_with (go_at_call 27; (with_reducible refine (hT _).mono ?_); rintro _ w1 ⟨rfl, hb⟩; have hw : Below wr.heap.size wr w1 := below_step (by (repeat (first | exact Below.refl _ _ | assumption | (refine Below.drew ?_) | (refine below_alloc ?_ _) | (refine Below.setCell ?_ (by first | (simp; done) | (simp; omega) | omega | (have hq := hB.size; (try simp at hq ⊢); omega)) _) | (refine Below.alloc ?_ (by first | (simp; done) | (simp; omega) | omega | (have hq := hB.size; (try simp at hq ⊢); omega)) _) | (refine below_step ?_ (by assumption))))) hb; clear hb; replace z0 := below_frozen hw (lt_of_cell c0) z0; replace c0 := below_cell hw c0; replace z1 := below_frozen hw (lt_of_cell c1) z1; replace c1 := below_cell hw c1; replace z2 := below_frozen hw (lt_of_cell c2) z2; replace c2 := below_cell hw c2; replace z3 := below_frozen hw (lt_of_cell c3) z3; replace c3 := below_cell hw c3; replace hBr := below_step hBr hw; clear hw; have l1 : w.heap.size < w1.heap.size := lt_of_cell c0; have l2 : w2.heap.size < w1.heap.size := lt_of_cell c2)
            go_roundw
            case rel =>
              refine ⟨k + 1, v (e * 4 + 1), X, Y, q, by omega, by go_num, rfl, Lib.hid ⟨hq2, hgr2, by have := HFO.out; simpa using this.symm, hU9⟩, ?_, ?_, ?_, ?_, ?_, ?_, ?_, ?_, ?_⟩
              all_goals first
                | ((repeat (first | exact Below.refl _ _ | assumption | (refine Below.drew ?_) | (refine below_alloc ?_ _) | (refine Below.setCell ?_ (by first | (simp; done) | (simp; omega) | omega | (have hq := hB.size; (try simp at hq ⊢); omega)) _) | (refine Below.alloc ?_ (by first | (simp; done) | (simp; omega) | omega | (have hq := hB.size; (try simp at hq ⊢); omega)) _) | (refine below_step ?_ (by assumption)))); done)
                | (simp [go_sem, *]; done)
            case measure => simp [intOf]; omega
        · have hneb : (v (e * 4) == v (e * 4 + 1)) = false := beq_eq_false_iff_ne.2 hne
          have hT := fun w => impl_Times T B (v (e * 4 + 3)) (v (e * 4 + 2)) w
          simp only [timV_eq] at hT
          have hfo := fol_bwd (p := q) (T := T) (B := B) (x := v (e * 4 + 1)) hne
          rw [hfol] at hfo
          clear hfol
          revert hT hfo
          generalize tT T B (v (e * 4 + 3)) (v (e * 4 + 2)) = X
          generalize tB T B (v (e * 4 + 3)) (v (e * 4 + 2)) = Y
          generalize tO T B (v (e * 4 + 3)) (v (e * 4 + 2)) = O
          intro hT hfo
          have HFO := Lib.hid hfo; clear hfo
          cases O
          · go_wp2_with (go_at_call 27; (with_reducible refine (hT _).mono ?_); rintro _ w1 ⟨rfl, hb⟩; have hw : Below wr.heap.size wr w1 := below_step (by (repeat (first | exact Below.refl _ _ | assumption | (refine Below.drew ?_) | (refine below_alloc ?_ _) | (refine Below.setCell ?_ (by first | (simp; done) | (simp; omega) | omega | (have hq := hB.size; (try simp at hq ⊢); omega)) _) | (refine Below.alloc ?_ (by first | (simp; done) | (simp; omega) | omega | (have hq := hB.size; (try simp at hq ⊢); omega)) _) | (refine below_step ?_ (by assumption))))) hb; clear hb; replace z0 := below_frozen hw (lt_of_cell c0) z0; replace c0 := below_cell hw c0; replace z1 := below_frozen hw (lt_of_cell c1) z1; replace c1 := below_cell hw c1; replace z2 := below_frozen hw (lt_of_cell c2) z2; replace c2 := below_cell hw c2; replace z3 := below_frozen hw (lt_of_cell c3) z3; replace c3 := below_cell hw c3; replace hBr := below_step hBr hw; clear hw; have l1 : w.heap.size < w1.heap.size := lt_of_cell c0; have l2 : w2.heap.size < w1.heap.size := lt_of_cell c2)
            have hBw := hBr.size
            refine bodyPost_ret (by first | (simp [results, Try.results17, go_sem, *]; done) | (simp [results, Try.results17, go_sem, *]; rfl)) rfl ⟨?_, ?_⟩
            · have := HFO.out; simp at this; rw [this]; rfl
            · have hBB := below_step hB hBr
              (repeat (first | exact Below.refl _ _ | assumption | (refine Below.drew ?_) | (refine below_alloc ?_ _) | (refine Below.setCell ?_ (by first | (simp; done) | (simp; omega) | omega | (have hq := hB.size; (try simp at hq ⊢); omega)) _) | (refine Below.alloc ?_ (by first | (simp; done) | (simp; omega) | omega | (have hq := hB.size; (try simp at hq ⊢); omega)) _) | (refine below_step ?_ (by assumption))))
          · go_wp2_with (go_at_call 27; (with_reducible refine (hT _).mono ?_); rintro _ w1 ⟨rfl, hb⟩; have hw : Below wr.heap.size wr w1 := below_step (by (repeat (first | exact Below.refl _ _ | assumption | (refine Below.drew ?_) | (refine below_alloc ?_ _) | (refine Below.setCell ?_ (by first | (simp; done) | (simp; omega) | omega | (have hq := hB.size; (try simp at hq ⊢); omega)) _) | (refine Below.alloc ?_ (by first | (simp; done) | (simp; omega) | omega | (have hq := hB.size; (try simp at hq ⊢); omega)) _) | (refine below_step ?_ (by assumption))))) hb; clear hb; replace z0 := below_frozen hw (lt_of_cell c0) z0; replace c0 := below_cell hw c0; replace z1 := below_frozen hw (lt_of_cell c1) z1; replace c1 := below_cell hw c1; replace z2 := below_frozen hw (lt_of_cell c2) z2; replace c2 := below_cell hw c2; replace z3 := below_frozen hw (lt_of_cell c3) z3; replace c3 := below_cell hw c3; replace hBr := below_step hBr hw; clear hw; have l1 : w.heap.size < w1.heap.size := lt_of_cell c0; have l2 : w2.heap.size < w1.heap.size := lt_of_cell c2)
            go_roundw
            case rel =>
              refine ⟨k + 1, v (e * 4), X, Y, q, by omega, by go_num, rfl, Lib.hid ⟨hq2, hgr2, by have := HFO.out; simpa using this.symm, hU9⟩, ?_, ?_, ?_, ?_, ?_, ?_, ?_, ?_, ?_⟩
              all_goals first
                | ((repeat (first | exact Below.refl _ _ | assumption | (refine Below.drew ?_) | (refine below_alloc ?_ _) | (refine Below.setCell ?_ (by first | (simp; done) | (simp; omega) | omega | (have hq := hB.size; (try simp at hq ⊢); omega)) _) | (refine Below.alloc ?_ (by first | (simp; done) | (simp; omega) | omega | (have hq := hB.size; (try simp at hq ⊢); omega)) _) | (refine below_step ?_ (by assumption)))); done)
                | (simp [go_sem, *]; done)
            case measure => simp [intOf]; omega
      · obtain rfl : k = P.length := by omega
        obtain ⟨hq, hgr, hfol, hxU⟩ := HQ.out
        rw [List.drop_length] at hq
        subst hq
        have HFO := Lib.hid hfol; clear hfol HQ hgr
        go_wp2
        have q1 : w.heap.size < wr.heap.size := lt_of_cell c0
        refine bodyPost_ret (by first | (simp [results, Try.results17, go_sem, *]; done) | (simp [results, Try.results17, go_sem, *]; rfl)) rfl ⟨?_, ?_⟩
        · rw [← HFO.out]; rfl
        · have hBB := below_step HB.out hBr
          (repeat (first | exact Below.refl _ _ | assumption | (refine Below.drew ?_) | (refine below_alloc ?_ _) | (refine Below.setCell ?_ (by first | (simp; done) | (simp; omega) | omega | (have hq := hB.size; (try simp at hq ⊢); omega)) _) | (refine Below.alloc ?_ (by first | (simp; done) | (simp; omega) | omega | (have hq := hB.size; (try simp at hq ⊢); omega)) _) | (refine below_step ?_ (by assumption))))
end Go.Proofs.Ytfgkglbhbdfpfaa
