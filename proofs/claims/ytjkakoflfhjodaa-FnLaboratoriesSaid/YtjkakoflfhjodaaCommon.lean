/- The contracts of CommonSpan: for every slice of spans and every world, the program's function and the reference's return the same span and bool (comV), and leave old memory alone. A length of at most 2^20 alone is asked. -/
import Derived.Test.YtjkakoflfhjodaaSpans
import Derived.RegionTactic
import Derived.BigRegion
namespace Go.Proofs.Ytjkakoflfhjodaa
open Go.RowKit
set_option linter.unusedSimpArgs false
set_option linter.unusedVariables false
set_option maxHeartbeats 2000000

/-- The greatest beginning and the least end among the first k spans (and the first one). -/
def loN (v : Nat → Int) : Nat → Int
  | 0 => v 0
  | k + 1 => max (loN v k) (v (k * 2))
def hiN (v : Nat → Int) : Nat → Int
  | 0 => v 1
  | k + 1 => min (hiN v k) (v (k * 2 + 1))
theorem loN_yes {v : Nat → Int} {k : Nat} (h : loN v k < v (k * 2)) : loN v (k + 1) = v (k * 2) := by simp only [loN]; omega
theorem loN_no {v : Nat → Int} {k : Nat} (h : ¬ loN v k < v (k * 2)) : loN v (k + 1) = loN v k := by simp only [loN]; omega
theorem hiN_yes {v : Nat → Int} {k : Nat} (h : v (k * 2 + 1) < hiN v k) : hiN v (k + 1) = v (k * 2 + 1) := by simp only [hiN]; omega
theorem hiN_no {v : Nat → Int} {k : Nat} (h : ¬ v (k * 2 + 1) < hiN v k) : hiN v (k + 1) = hiN v k := by simp only [hiN]; omega
theorem loN_one (v : Nat → Int) : loN v 1 = v 0 := by simp [loN]
theorem hiN_one (v : Nat → Int) : hiN v 1 = v 1 := by simp [hiN]
def comV (n : Nat) (v : Nat → Int) : Value := if spansB n v = true ∧ loN v n ≤ hiN v n then .tuple #[.agg #[.int .i64 (loN v n), .int .i64 (hiN v n)], .bool true] else .tuple #[.agg #[.int .i64 0, .int .i64 0], .bool false]
theorem comV_yes {n : Nat} {v : Nat → Int} (h1 : spansB n v = true) (h2 : loN v n ≤ hiN v n) : comV n v = .tuple #[.agg #[.int .i64 (loN v n), .int .i64 (hiN v n)], .bool true] := if_pos ⟨h1, h2⟩
theorem comV_no {n : Nat} {v : Nat → Int} (h : ¬ (spansB n v = true ∧ loN v n ≤ hiN v n)) : comV n v = .tuple #[.agg #[.int .i64 0, .int .i64 0], .bool false] := if_neg h
theorem comV_form (n : Nat) (v : Nat → Int) : ∃ x y : Int, ∃ o : Bool, comV n v = .tuple #[.agg #[.int .i64 x, .int .i64 y], .bool o] := by
  unfold comV; split
  · exact ⟨_, _, _, rfl⟩
  · exact ⟨_, _, _, rfl⟩

theorem impl_Common (A : Option Addr) (n c : Nat) (v : Nat → Int) (w : World) (f0 : Fl w A n 2 v) : Calls Try.prog 17 #[.slice A n c] w fun e w' => e = .returned (comV n v) ∧ Below w.heap.size w w' := by
  by_cases hs : spansB n v = true
  · obtain ⟨s1, s2, s3⟩ := spansB_inv hs
    clear s3
    obtain ⟨b, off, rfl, hc⟩ := id f0 (by omega)
    have k0 : w.cell? ⟨b, off, none⟩ = _ := hc 0 (by omega)
    have k1 : w.cell? ⟨b, off + 1, none⟩ = _ := hc 1 (by omega)
    clear hc
    obtain ⟨W, hW⟩ : ∃ W, W = (w.alloc (.cells #[.int .i64 0, .int .i64 0] 30)) := ⟨_, rfl⟩
    have c0 : W.cell? ⟨w.heap.size, 0, none⟩ = some (.int .i64 0) := by rw [hW]; simp [go_sem]
    have z0 : W.frozen? ⟨w.heap.size, 0, none⟩ = false := by rw [hW]; simp [go_sem]
    have c1 : W.cell? ⟨w.heap.size, 1, none⟩ = some (.int .i64 0) := by rw [hW]; simp [go_sem]
    have z1 : W.frozen? ⟨w.heap.size, 1, none⟩ = false := by rw [hW]; simp [go_sem]
    have hB : Below w.heap.size w W := by rw [hW]; exact ((Below.refl _ _).alloc (by simp <;> omega) _)
    subst hW
    have l9 : w.heap.size < (w.alloc (.cells #[.int .i64 0, .int .i64 0] 30)).heap.size := by simp
    have f1 := f0.below hB
    have c8 := below_cell hB k0
    have c9 := below_cell hB k1
    clear f0 k0 k1
    go_enter Try.func17, Try.ntmps17
    go_wp2_with (go_at_call 14; (with_reducible refine (impl_SpansOk _ n c v _ f1).mono ?_); rintro _ w1 ⟨rfl, hb⟩; replace z0 := below_frozen hb (lt_of_cell c0) z0; replace z1 := below_frozen hb (lt_of_cell c1) z1; replace c0 := below_cell hb c0; replace c1 := below_cell hb c1; replace c8 := below_cell hb c8; replace c9 := below_cell hb c9; replace f1 := Fl.below f1 hb; replace l9 := below_lt hb l9; replace hB := below_step hB hb; clear hb)
    have HS := Lib.hid hs; clear hs
    go_loopw [16] (fun x wr => ∃ k : Nat, k ≤ n ∧ x = .int .i64 k ∧ wr.cell? ⟨w1.heap.size, 0, none⟩ = some (.int .i64 (loN v k)) ∧ wr.cell? ⟨w1.heap.size, 1, none⟩ = some (.int .i64 (hiN v k)) ∧ wr.frozen? ⟨w1.heap.size, 0, none⟩ = false ∧ wr.frozen? ⟨w1.heap.size, 1, none⟩ = false ∧
      wr.cell? ⟨w.heap.size, 0, none⟩ = some (.int .i64 0) ∧ wr.cell? ⟨w.heap.size, 1, none⟩ = some (.int .i64 0) ∧ wr.frozen? ⟨w.heap.size, 0, none⟩ = false ∧ wr.frozen? ⟨w.heap.size, 1, none⟩ = false ∧ Below w.heap.size w wr ∧ Below w1.heap.size w1 wr) (fun x _ => n - (intOf x).toNat)
    case atStart => exact ⟨0, Nat.zero_le _, rfl, by simp [go_sem, loN], by simp [go_sem, hiN], by simp [go_sem], by simp [go_sem], by simp [go_sem, *], by simp [go_sem, *], by simp [go_sem, *], by simp [go_sem, *], by (repeat (first | exact Below.refl _ _ | assumption | (refine Below.drew ?_) | (refine below_alloc ?_ _) | (refine Below.setCell ?_ (by first | (simp; done) | (simp; omega) | omega | (have hq := hB.size; (try simp at hq ⊢); omega)) _) | (refine Below.alloc ?_ (by first | (simp; done) | (simp; omega) | omega | (have hq := hB.size; (try simp at hq ⊢); omega)) _) | (refine below_step ?_ (by assumption)))), (Below.refl _ _).alloc (Nat.le_refl _) _⟩
    case round =>
      have hB0 := hB
      clear hB c0 c1 z0 z1
      obtain ⟨k, hk, rfl, c0, c1, z0, z1, c2, c3, z2, z3, hB, hb1⟩ := hrel
      have l8 := lt_of_cell c0
      have l7 := lt_of_cell c2
      have l6 : w.heap.size ≠ w1.heap.size := by omega
      by_cases hkn : k < n
      · obtain ⟨b', off', e', hc'⟩ := (f1.below hb1) (by omega)
        obtain ⟨rfl, rfl⟩ : b = b' ∧ off = off' := by simpa using e'
        have d0 : wr.cell? ⟨b, off + k * 2, none⟩ = _ := hc' (k * 2) (by omega)
        have d1 : wr.cell? ⟨b, off + k * 2 + 1, none⟩ = _ := hc' (k * 2 + 1) (by omega)
        clear hc'
        by_cases t1 : loN v k < v (k * 2) <;> by_cases t2 : v (k * 2 + 1) < hiN v k
        all_goals
          go_wp2
          go_roundw
          case rel =>
            refine ⟨k + 1, by omega, by go_num, ?_, ?_, ?_, ?_, ?_, ?_, ?_, ?_, ?_, ?_⟩
            · first | (simp [go_sem, loN_yes t1, *]; done) | (simp [go_sem, loN_no (show ¬ loN v k < v (k * 2) from by omega), *]; done)
            · first | (simp [go_sem, hiN_yes t2, *]; done) | (simp [go_sem, hiN_no (show ¬ v (k * 2 + 1) < hiN v k from by omega), *]; done)
            · simp [go_sem, *]
            · simp [go_sem, *]
            · simp [go_sem, *]
            · simp [go_sem, *]
            · simp [go_sem, *]
            · simp [go_sem, *]
            · (repeat (first | exact Below.refl _ _ | assumption | (refine Below.drew ?_) | (refine below_alloc ?_ _) | (refine Below.setCell ?_ (by first | (simp; done) | (simp; omega) | omega | (have hq := hB.size; (try simp at hq ⊢); omega)) _) | (refine Below.alloc ?_ (by first | (simp; done) | (simp; omega) | omega | (have hq := hB.size; (try simp at hq ⊢); omega)) _) | (refine below_step ?_ (by assumption))))
            · exact below_alloc ((hb1.setCell (p := ⟨w1.heap.size, 0, none⟩) (Nat.le_refl _) _).setCell (p := ⟨w1.heap.size, 1, none⟩) (Nat.le_refl _) _) _
          case measure => simp [intOf]; omega
      · obtain rfl : k = n := by omega
        by_cases t : loN v k ≤ hiN v k
        · go_wp2
          refine bodyPost_ret (by simp [results, Try.results17, go_sem, *]; rfl) rfl ⟨?_, by (repeat (first | exact Below.refl _ _ | assumption | (refine Below.drew ?_) | (refine below_alloc ?_ _) | (refine Below.setCell ?_ (by first | (simp; done) | (simp; omega) | omega | (have hq := hB.size; (try simp at hq ⊢); omega)) _) | (refine Below.alloc ?_ (by first | (simp; done) | (simp; omega) | omega | (have hq := hB.size; (try simp at hq ⊢); omega)) _) | (refine below_step ?_ (by assumption))))⟩
          rw [comV_yes HS.out t]
        · go_wp2
          refine bodyPost_ret (by simp [results, Try.results17, go_sem, *]; rfl) rfl ⟨?_, by (repeat (first | exact Below.refl _ _ | assumption | (refine Below.drew ?_) | (refine below_alloc ?_ _) | (refine Below.setCell ?_ (by first | (simp; done) | (simp; omega) | omega | (have hq := hB.size; (try simp at hq ⊢); omega)) _) | (refine Below.alloc ?_ (by first | (simp; done) | (simp; omega) | omega | (have hq := hB.size; (try simp at hq ⊢); omega)) _) | (refine below_step ?_ (by assumption))))⟩
          rw [comV_no (fun h => by have := h.2; omega)]
  · obtain ⟨W, hW⟩ : ∃ W, W = (w.alloc (.cells #[.int .i64 0, .int .i64 0] 30)) := ⟨_, rfl⟩
    have c0 : W.cell? ⟨w.heap.size, 0, none⟩ = some (.int .i64 0) := by rw [hW]; simp [go_sem]
    have z0 : W.frozen? ⟨w.heap.size, 0, none⟩ = false := by rw [hW]; simp [go_sem]
    have c1 : W.cell? ⟨w.heap.size, 1, none⟩ = some (.int .i64 0) := by rw [hW]; simp [go_sem]
    have z1 : W.frozen? ⟨w.heap.size, 1, none⟩ = false := by rw [hW]; simp [go_sem]
    have hB : Below w.heap.size w W := by rw [hW]; exact ((Below.refl _ _).alloc (by simp <;> omega) _)
    subst hW
    have f1 := f0.below hB
    go_enter Try.func17, Try.ntmps17
    go_wp2_with (go_at_call 14; (with_reducible refine (impl_SpansOk _ n c v _ f1).mono ?_); rintro _ w1 ⟨rfl, hb⟩; replace z0 := below_frozen hb (lt_of_cell c0) z0; replace z1 := below_frozen hb (lt_of_cell c1) z1; replace c0 := below_cell hb c0; replace c1 := below_cell hb c1; replace hB := below_step hB hb; clear hb)
    refine bodyPost_ret (by simp [results, Try.results17, go_sem, *]; rfl) rfl ⟨?_, by (repeat (first | exact Below.refl _ _ | assumption | (refine Below.drew ?_) | (refine below_alloc ?_ _) | (refine Below.setCell ?_ (by first | (simp; done) | (simp; omega) | omega | (have hq := hB.size; (try simp at hq ⊢); omega)) _) | (refine Below.alloc ?_ (by first | (simp; done) | (simp; omega) | omega | (have hq := hB.size; (try simp at hq ⊢); omega)) _) | (refine below_step ?_ (by assumption))))⟩
    rw [comV_no (fun h => hs h.1)]

theorem spec_Common (A : Option Addr) (n c : Nat) (v : Nat → Int) (w : World) (hm : n ≤ 1048576) (f0 : Fl w A n 2 v) : Calls Try.prog 16 #[.slice A n c] w fun e w' => e = .returned (comV n v) ∧ Below w.heap.size w w' := by
  by_cases hs : spansB n v = true
  · obtain ⟨s1, s2, s3⟩ := spansB_inv hs
    clear s3
    obtain ⟨b, off, rfl, hc⟩ := id f0 (by omega)
    have k0 : w.cell? ⟨b, off, none⟩ = _ := hc 0 (by omega)
    have k1 : w.cell? ⟨b, off + 1, none⟩ = _ := hc 1 (by omega)
    clear hc
    obtain ⟨W, hW⟩ : ∃ W, W = (w.alloc (.cells #[.int .i64 0, .int .i64 0] 30)) := ⟨_, rfl⟩
    have c0 : W.cell? ⟨w.heap.size, 0, none⟩ = some (.int .i64 0) := by rw [hW]; simp [go_sem]
    have z0 : W.frozen? ⟨w.heap.size, 0, none⟩ = false := by rw [hW]; simp [go_sem]
    have c1 : W.cell? ⟨w.heap.size, 1, none⟩ = some (.int .i64 0) := by rw [hW]; simp [go_sem]
    have z1 : W.frozen? ⟨w.heap.size, 1, none⟩ = false := by rw [hW]; simp [go_sem]
    have hB : Below w.heap.size w W := by rw [hW]; exact ((Below.refl _ _).alloc (by simp <;> omega) _)
    subst hW
    have l9 : w.heap.size < (w.alloc (.cells #[.int .i64 0, .int .i64 0] 30)).heap.size := by simp
    have f1 := f0.below hB
    have c8 := below_cell hB k0
    have c9 := below_cell hB k1
    clear f0 k0 k1
    go_enter Try.func16, Try.ntmps16
    go_wp2_with (go_at_call 12; (with_reducible refine (spec_SpansOk _ n c v _ hm f1).mono ?_); rintro _ w1 ⟨rfl, hb⟩; replace z0 := below_frozen hb (lt_of_cell c0) z0; replace z1 := below_frozen hb (lt_of_cell c1) z1; replace c0 := below_cell hb c0; replace c1 := below_cell hb c1; replace c8 := below_cell hb c8; replace c9 := below_cell hb c9; replace f1 := Fl.below f1 hb; replace l9 := below_lt hb l9; replace hB := below_step hB hb; clear hb)
    have HS := Lib.hid hs; clear hs
    go_loopw [5] (fun x wr => ∃ k : Nat, 1 ≤ k ∧ k ≤ n ∧ x = .int .i64 k ∧ wr.cell? ⟨w1.heap.size, 0, none⟩ = some (.int .i64 (loN v k)) ∧ wr.cell? ⟨w1.heap.size, 1, none⟩ = some (.int .i64 (hiN v k)) ∧ wr.frozen? ⟨w1.heap.size, 0, none⟩ = false ∧ wr.frozen? ⟨w1.heap.size, 1, none⟩ = false ∧
      wr.cell? ⟨w.heap.size, 0, none⟩ = some (.int .i64 0) ∧ wr.cell? ⟨w.heap.size, 1, none⟩ = some (.int .i64 0) ∧ wr.frozen? ⟨w.heap.size, 0, none⟩ = false ∧ wr.frozen? ⟨w.heap.size, 1, none⟩ = false ∧ Below w.heap.size w wr ∧ Below w1.heap.size w1 wr) (fun x _ => n - (intOf x).toNat)
    case atStart => exact ⟨1, by omega, by omega, rfl, by rw [loN_one]; simp [go_sem], by rw [hiN_one]; simp [go_sem], by simp [go_sem], by simp [go_sem], by simp [go_sem, *], by simp [go_sem, *], by simp [go_sem, *], by simp [go_sem, *], by (repeat (first | exact Below.refl _ _ | assumption | (refine Below.drew ?_) | (refine below_alloc ?_ _) | (refine Below.setCell ?_ (by first | (simp; done) | (simp; omega) | omega | (have hq := hB.size; (try simp at hq ⊢); omega)) _) | (refine Below.alloc ?_ (by first | (simp; done) | (simp; omega) | omega | (have hq := hB.size; (try simp at hq ⊢); omega)) _) | (refine below_step ?_ (by assumption)))), (Below.refl _ _).alloc (Nat.le_refl _) _⟩
    case round =>
      have hB0 := hB
      clear hB c0 c1 z0 z1
      obtain ⟨k, hk1, hk, rfl, c0, c1, z0, z1, c2, c3, z2, z3, hB, hb1⟩ := hrel
      have l8 := lt_of_cell c0
      have l7 := lt_of_cell c2
      have l6 : w.heap.size ≠ w1.heap.size := by omega
      by_cases hkn : k < n
      · obtain ⟨b', off', e', hc'⟩ := (f1.below hb1) (by omega)
        obtain ⟨rfl, rfl⟩ : b = b' ∧ off = off' := by simpa using e'
        have d0 : wr.cell? ⟨b, off + k * 2, none⟩ = _ := hc' (k * 2) (by omega)
        have d1 : wr.cell? ⟨b, off + k * 2 + 1, none⟩ = _ := hc' (k * 2 + 1) (by omega)
        have l5 : b < wr.heap.size := lt_of_cell d0
        have l4 : b ≠ w1.heap.size := by have := lt_of_cell c8; simp at this; omega
        clear hc'
        by_cases t1 : loN v k < v (k * 2) <;> by_cases t2 : v (k * 2 + 1) < hiN v k
        all_goals
          go_wp2_with fail
          go_region
          go_wp2_with fail
          go_region
          go_wp2
          go_roundw
          case rel =>
            refine ⟨k + 1, by omega, by omega, by go_num, ?_, ?_, ?_, ?_, ?_, ?_, ?_, ?_, ?_, ?_⟩
            · first | (simp [go_sem, loN_yes t1, *]; done) | (simp [go_sem, loN_no (show ¬ loN v k < v (k * 2) from by omega), *]; done)
            · first | (simp [go_sem, hiN_yes t2, *]; done) | (simp [go_sem, hiN_no (show ¬ v (k * 2 + 1) < hiN v k from by omega), *]; done)
            · simp [go_sem, *]
            · simp [go_sem, *]
            · simp [go_sem, *]
            · simp [go_sem, *]
            · simp [go_sem, *]
            · simp [go_sem, *]
            · (repeat (first | exact Below.refl _ _ | assumption | (refine Below.drew ?_) | (refine below_alloc ?_ _) | (refine Below.setCell ?_ (by first | (simp; done) | (simp; omega) | omega | (have hq := hB.size; (try simp at hq ⊢); omega)) _) | (refine Below.alloc ?_ (by first | (simp; done) | (simp; omega) | omega | (have hq := hB.size; (try simp at hq ⊢); omega)) _) | (refine below_step ?_ (by assumption))))
            · exact ((hb1.setCell (p := ⟨w1.heap.size, 0, none⟩) (Nat.le_refl _) _).setCell (p := ⟨w1.heap.size, 1, none⟩) (Nat.le_refl _) _).drew.drew
          case measure => simp [intOf]; omega
      · obtain rfl : k = n := by omega
        by_cases t : loN v k ≤ hiN v k
        · go_wp2
          refine bodyPost_ret (by simp [results, Try.results16, go_sem, *]; rfl) rfl ⟨?_, by (repeat (first | exact Below.refl _ _ | assumption | (refine Below.drew ?_) | (refine below_alloc ?_ _) | (refine Below.setCell ?_ (by first | (simp; done) | (simp; omega) | omega | (have hq := hB.size; (try simp at hq ⊢); omega)) _) | (refine Below.alloc ?_ (by first | (simp; done) | (simp; omega) | omega | (have hq := hB.size; (try simp at hq ⊢); omega)) _) | (refine below_step ?_ (by assumption))))⟩
          rw [comV_yes HS.out t]
        · go_wp2
          refine bodyPost_ret (by simp [results, Try.results16, go_sem, *]; rfl) rfl ⟨?_, by (repeat (first | exact Below.refl _ _ | assumption | (refine Below.drew ?_) | (refine below_alloc ?_ _) | (refine Below.setCell ?_ (by first | (simp; done) | (simp; omega) | omega | (have hq := hB.size; (try simp at hq ⊢); omega)) _) | (refine Below.alloc ?_ (by first | (simp; done) | (simp; omega) | omega | (have hq := hB.size; (try simp at hq ⊢); omega)) _) | (refine below_step ?_ (by assumption))))⟩
          rw [comV_no (fun h => by have := h.2; omega)]
  · obtain ⟨W, hW⟩ : ∃ W, W = (w.alloc (.cells #[.int .i64 0, .int .i64 0] 30)) := ⟨_, rfl⟩
    have c0 : W.cell? ⟨w.heap.size, 0, none⟩ = some (.int .i64 0) := by rw [hW]; simp [go_sem]
    have z0 : W.frozen? ⟨w.heap.size, 0, none⟩ = false := by rw [hW]; simp [go_sem]
    have c1 : W.cell? ⟨w.heap.size, 1, none⟩ = some (.int .i64 0) := by rw [hW]; simp [go_sem]
    have z1 : W.frozen? ⟨w.heap.size, 1, none⟩ = false := by rw [hW]; simp [go_sem]
    have hB : Below w.heap.size w W := by rw [hW]; exact ((Below.refl _ _).alloc (by simp <;> omega) _)
    subst hW
    have f1 := f0.below hB
    go_enter Try.func16, Try.ntmps16
    go_wp2_with (go_at_call 12; (with_reducible refine (spec_SpansOk _ n c v _ hm f1).mono ?_); rintro _ w1 ⟨rfl, hb⟩; replace z0 := below_frozen hb (lt_of_cell c0) z0; replace z1 := below_frozen hb (lt_of_cell c1) z1; replace c0 := below_cell hb c0; replace c1 := below_cell hb c1; replace hB := below_step hB hb; clear hb)
    refine bodyPost_ret (by simp [results, Try.results16, go_sem, *]; rfl) rfl ⟨?_, by (repeat (first | exact Below.refl _ _ | assumption | (refine Below.drew ?_) | (refine below_alloc ?_ _) | (refine Below.setCell ?_ (by first | (simp; done) | (simp; omega) | omega | (have hq := hB.size; (try simp at hq ⊢); omega)) _) | (refine Below.alloc ?_ (by first | (simp; done) | (simp; omega) | omega | (have hq := hB.size; (try simp at hq ⊢); omega)) _) | (refine below_step ?_ (by assumption))))⟩
    rw [comV_no (fun h => hs h.1)]
end Go.Proofs.Ytjkakoflfhjodaa
