/- The contracts of SumFractions: for every slice of fractions and every world, the program's function and the reference's return the same fraction and bool (sumV), and leave old memory alone. A length of at most 2^20 alone is asked. -/
import Derived.Test.YtoalpihlflifmaaFracS
import Derived.Test.YtoalpihlflifmaaSlc
namespace Go.Proofs.Ytoalpihlflifmaa
open Go.RowKit
set_option linter.unusedSimpArgs false
set_option linter.unusedVariables false
set_option maxHeartbeats 1000000

/-- A sum's parts. -/
def aO (a b c d : Int) : Bool := frB a b && frB c d && redO (a * d + c * b) (b * d)
def aT (a b c d : Int) : Int := if aO a b c d = true then rT (a * d + c * b) (b * d) else 0
def aB (a b c d : Int) : Int := if aO a b c d = true then rB (a * d + c * b) (b * d) else 0
theorem addV_eq (a b c d : Int) : addV a b c d = .tuple #[.agg #[.int .i64 (aT a b c d), .int .i64 (aB a b c d)], .bool (aO a b c d)] := by
  by_cases h : frB a b = true ∧ frB c d = true
  · rw [addV_yes h.1 h.2]
    by_cases h2 : redO (a * d + c * b) (b * d) = true
    · have e : aO a b c d = true := by simp [aO, h.1, h.2, h2]
      rw [redV_yes h2, aT, aB, if_pos e, if_pos e, e]
    · have e : aO a b c d = false := by simp [aO, h2]
      rw [redV_no h2, aT, aB, e]; rfl
  · have e : aO a b c d = false := by
      cases h1 : frB a b <;> cases h2 : frB c d <;> simp_all [aO]
    rw [addV_no h, aT, aB, e]; rfl
/-- The sum of the first k fractions. -/
def st (v : Nat → Int) : Nat → Int × Int × Bool
  | 0 => (0, 1, true)
  | k + 1 => if (st v k).2.2 = true then (aT (st v k).1 (st v k).2.1 (v (k * 2)) (v (k * 2 + 1)), aB (st v k).1 (st v k).2.1 (v (k * 2)) (v (k * 2 + 1)), aO (st v k).1 (st v k).2.1 (v (k * 2)) (v (k * 2 + 1))) else (0, 0, false)
theorem st_next {v : Nat → Int} {k : Nat} {T B : Int} (h : st v k = (T, B, true)) : st v (k + 1) = (aT T B (v (k * 2)) (v (k * 2 + 1)), aB T B (v (k * 2)) (v (k * 2 + 1)), aO T B (v (k * 2)) (v (k * 2 + 1))) := by
  rw [st, h]; simp
theorem st_no {v : Nat → Int} {k n : Nat} (hk : k ≤ n) (h : (st v k).2.2 = false) : (st v n).2.2 = false := by
  induction n with
  | zero => obtain rfl : k = 0 := by omega
            exact h
  | succ n ih =>
    rcases Nat.lt_or_ge n k with h1 | h1
    · obtain rfl : k = n + 1 := by omega
      exact h
    · rw [st, if_neg (by simp [ih h1])]
def sumV (n : Nat) (v : Nat → Int) : Value := if n ≤ 30 ∧ (st v n).2.2 = true then .tuple #[.agg #[.int .i64 (st v n).1, .int .i64 (st v n).2.1], .bool true] else frZ
theorem sumV_yes {n : Nat} {v : Nat → Int} {T B : Int} (hn : n ≤ 30) (h : st v n = (T, B, true)) : sumV n v = .tuple #[.agg #[.int .i64 T, .int .i64 B], .bool true] := by
  rw [sumV, if_pos ⟨hn, by rw [h]⟩, h]
theorem sumV_no {n k : Nat} {v : Nat → Int} (hk : k ≤ n) (h : (st v k).2.2 = false) : sumV n v = frZ := by
  rw [sumV, if_neg (by rw [st_no hk h]; simp)]
theorem sumV_long {n : Nat} {v : Nat → Int} (h : ¬ n ≤ 30) : sumV n v = frZ := if_neg (fun h2 => h h2.1)

theorem impl_Sum (A : Option Addr) (n c : Nat) (v : Nat → Int) (w : World) (hm : n ≤ 1048576) (f0 : Fl w A n 2 v) : Calls Try.prog 18 #[.slice A n c] w fun e w' => e = .returned (sumV n v) ∧ Below w.heap.size w w' := by
  by_cases h30 : n ≤ 30
  · obtain ⟨W, hW⟩ : ∃ W, W = ((w.alloc (.cells #[.int .i64 0, .int .i64 0] 25)).alloc (.cells #[.int .i64 0, .int .i64 1] 25)) := ⟨_, rfl⟩
    have c0 : W.cell? ⟨w.heap.size, 0, none⟩ = some (.int .i64 0) := by rw [hW]; simp [go_sem]
    have z0 : W.frozen? ⟨w.heap.size, 0, none⟩ = false := by rw [hW]; simp [go_sem]
    have c1 : W.cell? ⟨w.heap.size, 1, none⟩ = some (.int .i64 0) := by rw [hW]; simp [go_sem]
    have z1 : W.frozen? ⟨w.heap.size, 1, none⟩ = false := by rw [hW]; simp [go_sem]
    have c2 : W.cell? ⟨w.heap.size + 1, 0, none⟩ = some (.int .i64 0) := by rw [hW]; simp [go_sem]
    have z2 : W.frozen? ⟨w.heap.size + 1, 0, none⟩ = false := by rw [hW]; simp [go_sem]
    have c3 : W.cell? ⟨w.heap.size + 1, 1, none⟩ = some (.int .i64 1) := by rw [hW]; simp [go_sem]
    have z3 : W.frozen? ⟨w.heap.size + 1, 1, none⟩ = false := by rw [hW]; simp [go_sem]
    have hB : Below w.heap.size w W := by rw [hW]; exact (((Below.refl _ _).alloc (by simp <;> omega) _).alloc (by simp <;> omega) _)
    subst hW
    have HF := Lib.hid f0
    go_enter Try.func18, Try.ntmps18
    go_wp2_with fail
    go_loopw [16] (fun x wr => ∃ (k : Nat) (T B : Int), k ≤ n ∧ x = .int .i64 k ∧ st v k = (T, B, true) ∧ wr.frozen? ⟨w.heap.size, 0, none⟩ = false ∧ wr.cell? ⟨w.heap.size, 0, none⟩ = some (.int .i64 0) ∧ wr.frozen? ⟨w.heap.size, 1, none⟩ = false ∧ wr.cell? ⟨w.heap.size, 1, none⟩ = some (.int .i64 0) ∧
      wr.frozen? ⟨w.heap.size + 1, 0, none⟩ = false ∧ wr.cell? ⟨w.heap.size + 1, 0, none⟩ = some (.int .i64 T) ∧ wr.frozen? ⟨w.heap.size + 1, 1, none⟩ = false ∧ wr.cell? ⟨w.heap.size + 1, 1, none⟩ = some (.int .i64 B) ∧ Below w.heap.size w wr) (fun x _ => n - (intOf x).toNat)
    case atStart => exact ⟨0, 0, 1, Nat.zero_le _, rfl, rfl, z0, c0, z1, c1, z2, c2, z3, c3, hB⟩
    case round =>
      clear z0 c0 z1 c1 z2 c2 z3 c3 hB
      obtain ⟨k, T, B, hk, rfl, hst, z0, c0, z1, c1, z2, c2, z3, c3, hB⟩ := hrel
      by_cases hkn : k < n
      · obtain ⟨b, off, rfl, hc⟩ := (HF.out.below hB) (by omega)
        have c4 : wr.cell? ⟨b, off + k * 2, none⟩ = _ := hc (k * 2) (by omega)
        have c5 : wr.cell? ⟨b, off + k * 2 + 1, none⟩ = _ := hc (k * 2 + 1) (by omega)
        clear hc
        have hA := fun w => impl_Add T B (v (k * 2)) (v (k * 2 + 1)) w
        have hn1 := st_next hst
        simp only [addV_eq] at hA
        clear hst
        revert hA hn1
        generalize aT T B (v (k * 2)) (v (k * 2 + 1)) = X
        generalize aB T B (v (k * 2)) (v (k * 2 + 1)) = Y
        generalize aO T B (v (k * 2)) (v (k * 2 + 1)) = O
        intro hn1 hA
        have HN := Lib.hid hn1; clear hn1
        have hb := below_alloc (Below.refl wr.heap.size wr) (.cells #[.int .i64 (v (k * 2)), .int .i64 (v (k * 2 + 1))] 25)
        have c6 : (wr.alloc (.cells #[.int .i64 (v (k * 2)), .int .i64 (v (k * 2 + 1))] 25)).cell? ⟨wr.heap.size, 0, none⟩ = some (.int .i64 (v (k * 2))) := by simp [go_sem]
        have c7 : (wr.alloc (.cells #[.int .i64 (v (k * 2)), .int .i64 (v (k * 2 + 1))] 25)).cell? ⟨wr.heap.size, 1, none⟩ = some (.int .i64 (v (k * 2 + 1))) := by simp [go_sem]
        have d4 := c4
        have d5 := c5
        have q0 : w.heap.size < wr.heap.size := lt_of_cell c0
        have q1 : w.heap.size + 1 < wr.heap.size := lt_of_cell c2
        (skip; replace z0 := below_frozen hb (lt_of_cell c0) z0; replace c0 := below_cell hb c0; replace z1 := below_frozen hb (lt_of_cell c1) z1; replace c1 := below_cell hb c1; replace z2 := below_frozen hb (lt_of_cell c2) z2; replace c2 := below_cell hb c2; replace z3 := below_frozen hb (lt_of_cell c3) z3; replace c3 := below_cell hb c3; replace hB := below_step hB hb; clear hb)
        cases O
        · ((go_wp2_with fail); (with_reducible refine (hA _).mono ?_); rintro _ w1 ⟨rfl, hb⟩; replace z0 := below_frozen hb (lt_of_cell c0) z0; replace c0 := below_cell hb c0; replace z1 := below_frozen hb (lt_of_cell c1) z1; replace c1 := below_cell hb c1; replace z2 := below_frozen hb (lt_of_cell c2) z2; replace c2 := below_cell hb c2; replace z3 := below_frozen hb (lt_of_cell c3) z3; replace c3 := below_cell hb c3; replace hB := below_step hB hb; clear hb)
          have e1 := Lib.hid (sumV_no (n := n) (show k + 1 ≤ n from hkn) (by rw [HN.out]))
          have l1 : w.heap.size < w1.heap.size := lt_of_cell c0
          have l2 : w.heap.size + 1 < w1.heap.size := lt_of_cell c2
          go_wp2
          refine bodyPost_ret (by first | (simp [results, Try.results18, go_sem, *]; done) | (simp [results, Try.results18, go_sem, *]; rfl)) rfl ⟨?_, by (repeat (first | exact Below.refl _ _ | assumption | (refine Below.drew ?_) | (refine below_alloc ?_ _) | (refine Below.setCell ?_ (by first | (simp; done) | (simp; omega) | omega | (have hq := hB.size; (try simp at hq ⊢); omega)) _) | (refine Below.alloc ?_ (by first | (simp; done) | (simp; omega) | omega | (have hq := hB.size; (try simp at hq ⊢); omega)) _) | (refine below_step ?_ (by assumption))))⟩
          rw [e1.out]; rfl
        · ((go_wp2_with fail); (with_reducible refine (hA _).mono ?_); rintro _ w1 ⟨rfl, hb⟩; replace z0 := below_frozen hb (lt_of_cell c0) z0; replace c0 := below_cell hb c0; replace z1 := below_frozen hb (lt_of_cell c1) z1; replace c1 := below_cell hb c1; replace z2 := below_frozen hb (lt_of_cell c2) z2; replace c2 := below_cell hb c2; replace z3 := below_frozen hb (lt_of_cell c3) z3; replace c3 := below_cell hb c3; replace hB := below_step hB hb; clear hb)
          have l1 : w.heap.size < w1.heap.size := lt_of_cell c0
          have l2 : w.heap.size + 1 < w1.heap.size := lt_of_cell c2
          go_wp2
          go_roundw
          case rel =>
            refine ⟨k + 1, X, Y, by omega, by go_num, HN.out, ?_, ?_, ?_, ?_, ?_, ?_, ?_, ?_, ?_⟩
            all_goals first
              | ((repeat (first | exact Below.refl _ _ | assumption | (refine Below.drew ?_) | (refine below_alloc ?_ _) | (refine Below.setCell ?_ (by first | (simp; done) | (simp; omega) | omega | (have hq := hB.size; (try simp at hq ⊢); omega)) _) | (refine Below.alloc ?_ (by first | (simp; done) | (simp; omega) | omega | (have hq := hB.size; (try simp at hq ⊢); omega)) _) | (refine below_step ?_ (by assumption)))); done)
              | (simp [go_sem, *]; done)
          case measure => simp [intOf]; omega
      · obtain rfl : n = k := by omega
        have e1 := Lib.hid (sumV_yes h30 hst)
        clear hst
        go_wp2
        refine bodyPost_ret (by first | (simp [results, Try.results18, go_sem, *]; done) | (simp [results, Try.results18, go_sem, *]; rfl)) rfl ⟨?_, by (repeat (first | exact Below.refl _ _ | assumption | (refine Below.drew ?_) | (refine below_alloc ?_ _) | (refine Below.setCell ?_ (by first | (simp; done) | (simp; omega) | omega | (have hq := hB.size; (try simp at hq ⊢); omega)) _) | (refine Below.alloc ?_ (by first | (simp; done) | (simp; omega) | omega | (have hq := hB.size; (try simp at hq ⊢); omega)) _) | (refine below_step ?_ (by assumption))))⟩
        rw [e1.out]
  · rw [sumV_long h30]
    obtain ⟨W, hW⟩ : ∃ W, W = (w.alloc (.cells #[.int .i64 0, .int .i64 0] 25)) := ⟨_, rfl⟩
    have c0 : W.cell? ⟨w.heap.size, 0, none⟩ = some (.int .i64 0) := by rw [hW]; simp [go_sem]
    have z0 : W.frozen? ⟨w.heap.size, 0, none⟩ = false := by rw [hW]; simp [go_sem]
    have c1 : W.cell? ⟨w.heap.size, 1, none⟩ = some (.int .i64 0) := by rw [hW]; simp [go_sem]
    have z1 : W.frozen? ⟨w.heap.size, 1, none⟩ = false := by rw [hW]; simp [go_sem]
    have hB : Below w.heap.size w W := by rw [hW]; exact ((Below.refl _ _).alloc (by simp <;> omega) _)
    subst hW
    go_enter Try.func18, Try.ntmps18
    go_wp2
    refine bodyPost_ret (by first | (simp [results, Try.results18, go_sem, *]; done) | (simp [results, Try.results18, go_sem, *]; rfl)) rfl ⟨rfl, by (repeat (first | exact Below.refl _ _ | assumption | (refine Below.drew ?_) | (refine below_alloc ?_ _) | (refine Below.setCell ?_ (by first | (simp; done) | (simp; omega) | omega | (have hq := hB.size; (try simp at hq ⊢); omega)) _) | (refine Below.alloc ?_ (by first | (simp; done) | (simp; omega) | omega | (have hq := hB.size; (try simp at hq ⊢); omega)) _) | (refine below_step ?_ (by assumption))))⟩

theorem spec_Sum (A : Option Addr) (n c : Nat) (v : Nat → Int) (w : World) (hm : n ≤ 1048576) (f0 : Fl w A n 2 v) : Calls Try.prog 16 #[.slice A n c] w fun e w' => e = .returned (sumV n v) ∧ Below w.heap.size w w' := by
  by_cases h30 : n ≤ 30
  · obtain ⟨W, hW⟩ : ∃ W, W = ((w.alloc (.cells #[.int .i64 0, .int .i64 0] 25)).alloc (.cells #[.int .i64 0, .int .i64 1] 25)) := ⟨_, rfl⟩
    have c0 : W.cell? ⟨w.heap.size, 0, none⟩ = some (.int .i64 0) := by rw [hW]; simp [go_sem]
    have z0 : W.frozen? ⟨w.heap.size, 0, none⟩ = false := by rw [hW]; simp [go_sem]
    have c1 : W.cell? ⟨w.heap.size, 1, none⟩ = some (.int .i64 0) := by rw [hW]; simp [go_sem]
    have z1 : W.frozen? ⟨w.heap.size, 1, none⟩ = false := by rw [hW]; simp [go_sem]
    have c2 : W.cell? ⟨w.heap.size + 1, 0, none⟩ = some (.int .i64 0) := by rw [hW]; simp [go_sem]
    have z2 : W.frozen? ⟨w.heap.size + 1, 0, none⟩ = false := by rw [hW]; simp [go_sem]
    have c3 : W.cell? ⟨w.heap.size + 1, 1, none⟩ = some (.int .i64 1) := by rw [hW]; simp [go_sem]
    have z3 : W.frozen? ⟨w.heap.size + 1, 1, none⟩ = false := by rw [hW]; simp [go_sem]
    have hB : Below w.heap.size w W := by rw [hW]; exact (((Below.refl _ _).alloc (by simp <;> omega) _).alloc (by simp <;> omega) _)
    subst hW
    have HF := Lib.hid f0
    go_enter Try.func16, Try.ntmps16
    go_wp2_with fail
    go_loopw [5] (fun x wr => ∃ (k : Nat) (T B : Int), k ≤ n ∧ x = .int .i64 k ∧ st v k = (T, B, true) ∧ wr.frozen? ⟨w.heap.size, 0, none⟩ = false ∧ wr.cell? ⟨w.heap.size, 0, none⟩ = some (.int .i64 0) ∧ wr.frozen? ⟨w.heap.size, 1, none⟩ = false ∧ wr.cell? ⟨w.heap.size, 1, none⟩ = some (.int .i64 0) ∧
      wr.frozen? ⟨w.heap.size + 1, 0, none⟩ = false ∧ wr.cell? ⟨w.heap.size + 1, 0, none⟩ = some (.int .i64 T) ∧ wr.frozen? ⟨w.heap.size + 1, 1, none⟩ = false ∧ wr.cell? ⟨w.heap.size + 1, 1, none⟩ = some (.int .i64 B) ∧ Below w.heap.size w wr) (fun x _ => n - (intOf x).toNat)
    case atStart => exact ⟨0, 0, 1, Nat.zero_le _, rfl, rfl, z0, c0, z1, c1, z2, c2, z3, c3, hB⟩
    case round =>
      clear z0 c0 z1 c1 z2 c2 z3 c3 hB
      obtain ⟨k, T, B, hk, rfl, hst, z0, c0, z1, c1, z2, c2, z3, c3, hB⟩ := hrel
      by_cases hkn : k < n
      · obtain ⟨b, off, rfl, hc⟩ := (HF.out.below hB) (by omega)
        have c4 : wr.cell? ⟨b, off + k * 2, none⟩ = _ := hc (k * 2) (by omega)
        have c5 : wr.cell? ⟨b, off + k * 2 + 1, none⟩ = _ := hc (k * 2 + 1) (by omega)
        clear hc
        have hA := fun w => spec_Add T B (v (k * 2)) (v (k * 2 + 1)) w
        have hn1 := st_next hst
        simp only [addV_eq] at hA
        clear hst
        revert hA hn1
        generalize aT T B (v (k * 2)) (v (k * 2 + 1)) = X
        generalize aB T B (v (k * 2)) (v (k * 2 + 1)) = Y
        generalize aO T B (v (k * 2)) (v (k * 2 + 1)) = O
        intro hn1 hA
        have HN := Lib.hid hn1; clear hn1
        cases O
        · have e1 := Lib.hid (sumV_no (n := n) (show k + 1 ≤ n from hkn) (by rw [HN.out]))
          go_wp2_with fail
          apply region_made
          case hm => kernel_rfl
          case hok => kernel_rfl
          case hsz => rfl
          case hal => kernel_rfl
          case H =>
            intro u hu
            have Ec0 := ext_cell (below_cell hu c0)
            have Ec1 := ext_cell (below_cell hu c1)
            have Ec2 := ext_cell (below_cell hu c2)
            have Ec3 := ext_cell (below_cell hu c3)
            have Ec4 := ext_cell (below_cell hu c4)
            have Ec5 := ext_cell (below_cell hu c5)
            dsimp only [List.map, tame]
            (repeat (first | go_big_quiet_step (((go_at_call 49; exact calm_of (hA _)))) | simp only [TF]))
            exact wpQuiet_nil rfl
          case hst => simp only [storesOk, true_and, and_true]; exact ⟨_, rfl, sizeFraction, by simp [Value.oneCell']⟩
          intro G w1 hb hf hd
          simp only [madeFacts, true_and, and_true] at hf
          obtain ⟨hg6, hh6⟩ := hf
          clear hd
          dsimp only [alSlots, List.filterMap, putAll]
          have c6 : w1.cell? ⟨G 6, 0, none⟩ = some (.int .i64 X) := made_cell hh6 rfl
          have c7 : w1.cell? ⟨G 6, 1, none⟩ = some (.int .i64 Y) := made_cell hh6 rfl
          clear hh6
          generalize G 6 = g6 at *
          simp only [Act.put, List.setIfInBounds_toArray, List.set_cons_succ, List.set_cons_zero]
          (replace z0 := below_frozen hb (lt_of_cell c0) z0; replace c0 := below_cell hb c0; replace z1 := below_frozen hb (lt_of_cell c1) z1; replace c1 := below_cell hb c1; replace z2 := below_frozen hb (lt_of_cell c2) z2; replace c2 := below_cell hb c2; replace z3 := below_frozen hb (lt_of_cell c3) z3; replace c3 := below_cell hb c3; replace c4 := below_cell hb c4; replace c5 := below_cell hb c5; replace hB := below_step hB hb; clear hb)
          have l1 : w.heap.size < w1.heap.size := lt_of_cell c0
          have l2 : w.heap.size + 1 < w1.heap.size := lt_of_cell c2
          go_wp2
          refine bodyPost_ret (by first | (simp [results, Try.results16, go_sem, *]; done) | (simp [results, Try.results16, go_sem, *]; rfl)) rfl ⟨?_, by (repeat (first | exact Below.refl _ _ | assumption | (refine Below.drew ?_) | (refine below_alloc ?_ _) | (refine Below.setCell ?_ (by first | (simp; done) | (simp; omega) | omega | (have hq := hB.size; (try simp at hq ⊢); omega)) _) | (refine Below.alloc ?_ (by first | (simp; done) | (simp; omega) | omega | (have hq := hB.size; (try simp at hq ⊢); omega)) _) | (refine below_step ?_ (by assumption))))⟩
          rw [e1.out]; rfl
        · go_wp2_with fail
          apply region_made
          case hm => kernel_rfl
          case hok => kernel_rfl
          case hsz => rfl
          case hal => kernel_rfl
          case H =>
            intro u hu
            have Ec0 := ext_cell (below_cell hu c0)
            have Ec1 := ext_cell (below_cell hu c1)
            have Ec2 := ext_cell (below_cell hu c2)
            have Ec3 := ext_cell (below_cell hu c3)
            have Ec4 := ext_cell (below_cell hu c4)
            have Ec5 := ext_cell (below_cell hu c5)
            dsimp only [List.map, tame]
            (repeat (first | go_big_quiet_step (((go_at_call 49; exact calm_of (hA _)))) | simp only [TF]))
            exact wpQuiet_nil rfl
          case hst => simp only [storesOk, true_and, and_true]; exact ⟨_, rfl, sizeFraction, by simp [Value.oneCell']⟩
          intro G w1 hb hf hd
          simp only [madeFacts, true_and, and_true] at hf
          obtain ⟨hg6, hh6⟩ := hf
          clear hd
          dsimp only [alSlots, List.filterMap, putAll]
          have c6 : w1.cell? ⟨G 6, 0, none⟩ = some (.int .i64 X) := made_cell hh6 rfl
          have c7 : w1.cell? ⟨G 6, 1, none⟩ = some (.int .i64 Y) := made_cell hh6 rfl
          clear hh6
          generalize G 6 = g6 at *
          simp only [Act.put, List.setIfInBounds_toArray, List.set_cons_succ, List.set_cons_zero]
          (replace z0 := below_frozen hb (lt_of_cell c0) z0; replace c0 := below_cell hb c0; replace z1 := below_frozen hb (lt_of_cell c1) z1; replace c1 := below_cell hb c1; replace z2 := below_frozen hb (lt_of_cell c2) z2; replace c2 := below_cell hb c2; replace z3 := below_frozen hb (lt_of_cell c3) z3; replace c3 := below_cell hb c3; replace c4 := below_cell hb c4; replace c5 := below_cell hb c5; replace hB := below_step hB hb; clear hb)
          have l1 : w.heap.size < w1.heap.size := lt_of_cell c0
          have l2 : w.heap.size + 1 < w1.heap.size := lt_of_cell c2
          go_wp2
          go_roundw
          case rel =>
            refine ⟨k + 1, X, Y, by omega, by go_num, HN.out, ?_, ?_, ?_, ?_, ?_, ?_, ?_, ?_, ?_⟩
            all_goals first
              | ((repeat (first | exact Below.refl _ _ | assumption | (refine Below.drew ?_) | (refine below_alloc ?_ _) | (refine Below.setCell ?_ (by first | (simp; done) | (simp; omega) | omega | (have hq := hB.size; (try simp at hq ⊢); omega)) _) | (refine Below.alloc ?_ (by first | (simp; done) | (simp; omega) | omega | (have hq := hB.size; (try simp at hq ⊢); omega)) _) | (refine below_step ?_ (by assumption)))); done)
              | (simp [go_sem, *]; done)
          case measure => simp [intOf]; omega
      · obtain rfl : n = k := by omega
        have e1 := Lib.hid (sumV_yes h30 hst)
        clear hst
        go_wp2
        refine bodyPost_ret (by first | (simp [results, Try.results16, go_sem, *]; done) | (simp [results, Try.results16, go_sem, *]; rfl)) rfl ⟨?_, by (repeat (first | exact Below.refl _ _ | assumption | (refine Below.drew ?_) | (refine below_alloc ?_ _) | (refine Below.setCell ?_ (by first | (simp; done) | (simp; omega) | omega | (have hq := hB.size; (try simp at hq ⊢); omega)) _) | (refine Below.alloc ?_ (by first | (simp; done) | (simp; omega) | omega | (have hq := hB.size; (try simp at hq ⊢); omega)) _) | (refine below_step ?_ (by assumption))))⟩
        rw [e1.out]
  · rw [sumV_long h30]
    obtain ⟨W, hW⟩ : ∃ W, W = ((w.alloc (.cells #[.int .i64 0, .int .i64 0] 25)).alloc (.cells #[.int .i64 0, .int .i64 1] 25)) := ⟨_, rfl⟩
    have c0 : W.cell? ⟨w.heap.size, 0, none⟩ = some (.int .i64 0) := by rw [hW]; simp [go_sem]
    have z0 : W.frozen? ⟨w.heap.size, 0, none⟩ = false := by rw [hW]; simp [go_sem]
    have c1 : W.cell? ⟨w.heap.size, 1, none⟩ = some (.int .i64 0) := by rw [hW]; simp [go_sem]
    have z1 : W.frozen? ⟨w.heap.size, 1, none⟩ = false := by rw [hW]; simp [go_sem]
    have c2 : W.cell? ⟨w.heap.size + 1, 0, none⟩ = some (.int .i64 0) := by rw [hW]; simp [go_sem]
    have z2 : W.frozen? ⟨w.heap.size + 1, 0, none⟩ = false := by rw [hW]; simp [go_sem]
    have c3 : W.cell? ⟨w.heap.size + 1, 1, none⟩ = some (.int .i64 1) := by rw [hW]; simp [go_sem]
    have z3 : W.frozen? ⟨w.heap.size + 1, 1, none⟩ = false := by rw [hW]; simp [go_sem]
    have hB : Below w.heap.size w W := by rw [hW]; exact (((Below.refl _ _).alloc (by simp <;> omega) _).alloc (by simp <;> omega) _)
    subst hW
    obtain ⟨b, off, rfl, hc⟩ := (f0.below hB) (by omega)
    have c4 := hc 0 (by omega)
    have c5 := hc 1 (by omega)
    simp only [Nat.add_zero] at c4
    clear hc
    have hA := fun w => spec_Add 0 1 (v 0) (v 1) w
    simp only [addV_eq] at hA
    revert hA
    generalize aT 0 1 (v 0) (v 1) = X
    generalize aB 0 1 (v 0) (v 1) = Y
    generalize aO 0 1 (v 0) (v 1) = O
    intro hA
    have hn0 : 0 < n := by omega
    have hn1 : (30 : Int) < (n : Int) := by omega
    cases O
    all_goals
      go_enter Try.func16, Try.ntmps16
      go_wp2_with fail
      refine wp_loop_rounds 1 ?_
      rw [rounds_succ]
      go_wp2_with fail
      apply region_made
      case hm => kernel_rfl
      case hok => kernel_rfl
      case hsz => rfl
      case hal => kernel_rfl
      case H =>
        intro u hu
        have Ec0 := ext_cell (below_cell hu c0)
        have Ec1 := ext_cell (below_cell hu c1)
        have Ec2 := ext_cell (below_cell hu c2)
        have Ec3 := ext_cell (below_cell hu c3)
        have Ec4 := ext_cell (below_cell hu c4)
        have Ec5 := ext_cell (below_cell hu c5)
        dsimp only [List.map, tame]
        (repeat (first | go_big_quiet_step (((go_at_call 49; exact calm_of (hA _)))) | simp only [TF]))
        exact wpQuiet_nil rfl
      case hst => simp only [storesOk, true_and, and_true]; exact ⟨_, rfl, sizeFraction, by simp [Value.oneCell']⟩
      intro G w1 hb hf hd
      simp only [madeFacts, true_and, and_true] at hf
      obtain ⟨hg6, hh6⟩ := hf
      clear hd
      dsimp only [alSlots, List.filterMap, putAll]
      have c6 : w1.cell? ⟨G 6, 0, none⟩ = some (.int .i64 X) := made_cell hh6 rfl
      have c7 : w1.cell? ⟨G 6, 1, none⟩ = some (.int .i64 Y) := made_cell hh6 rfl
      clear hh6
      generalize G 6 = g6 at *
      simp only [Act.put, List.setIfInBounds_toArray, List.set_cons_succ, List.set_cons_zero]
      (replace z0 := below_frozen hb (lt_of_cell c0) z0; replace z1 := below_frozen hb (lt_of_cell c1) z1; replace z2 := below_frozen hb (lt_of_cell c2) z2; replace z3 := below_frozen hb (lt_of_cell c3) z3; replace c0 := below_cell hb c0; replace c1 := below_cell hb c1; replace c2 := below_cell hb c2; replace c3 := below_cell hb c3; replace c4 := below_cell hb c4; replace c5 := below_cell hb c5; replace hB := below_step hB hb; clear hb)
      have l1 : w.heap.size < w1.heap.size := lt_of_cell c0
      have l2 : w.heap.size + 1 < w1.heap.size := lt_of_cell c2
      go_wp2
      refine bodyPost_ret (by first | (simp [results, Try.results16, go_sem, *]; done) | (simp [results, Try.results16, go_sem, *]; rfl)) rfl ⟨rfl, by (repeat (first | exact Below.refl _ _ | assumption | (refine Below.drew ?_) | (refine below_alloc ?_ _) | (refine Below.setCell ?_ (by first | (simp; done) | (simp; omega) | omega | (have hq := hB.size; (try simp at hq ⊢); omega)) _) | (refine Below.alloc ?_ (by first | (simp; done) | (simp; omega) | omega | (have hq := hB.size; (try simp at hq ⊢); omega)) _) | (refine below_step ?_ (by assumption))))⟩
end Go.Proofs.Ytoalpihlflifmaa
