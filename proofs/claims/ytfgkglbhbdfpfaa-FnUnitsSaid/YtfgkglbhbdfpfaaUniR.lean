/- Plain law of the law FnUnits: what the four factors are to one another. -/
import Derived.Test.YtfgkglbhbdfpfaaUniQ
namespace Go.Proofs.Ytfgkglbhbdfpfaa
open Go.RowKit
set_option linter.unusedSimpArgs false
set_option linter.unusedVariables false
theorem uni_facts {v : Nat → Int} {n w : Nat} {sz : Int → Int} {a b c : Int} (H : Dr v n sz w) (ha : U9 a) (hb : U9 b) (hc : U9 c) :
    ∃ (X1 Y1 X2 Y2 X3 Y3 X4 Y4 : Int) (O1 O2 O3 : Bool),
      (facV n v a b = .tuple #[.agg #[.int .i64 X1, .int .i64 Y1], .bool O1] ∧ facV n v b c = .tuple #[.agg #[.int .i64 X2, .int .i64 Y2], .bool O2] ∧
        facV n v a c = .tuple #[.agg #[.int .i64 X3, .int .i64 Y3], .bool O3] ∧ facV n v b a = .tuple #[.agg #[.int .i64 X4, .int .i64 Y4], .bool O1]) ∧
      uniB n v a b = O1 ∧ (O1 = true → O2 = true → O3 = true) ∧ (conB n v = false → 2 ≤ n) ∧ (O1 = true → 0 < X1) ∧
      (if O1 = true then timV 1 1 X1 Y1 else frZ) = .tuple #[.agg #[.int .i64 X1, .int .i64 Y1], .bool O1] ∧
      (O1 = true → conB n v = true → timV X1 Y1 X4 Y4 = .tuple #[.agg #[.int .i64 1, .int .i64 1], .bool true]) ∧
      (O1 = true → O2 = true → conB n v = true → timV X1 Y1 X2 Y2 = .tuple #[.agg #[.int .i64 X3, .int .i64 Y3], .bool true]) := by
  have hr := H.rat
  have form : ∀ {p q : Int}, U9 p → U9 q → ∃ X Y, facV n v p q = .tuple #[.agg #[.int .i64 X, .int .i64 Y], .bool (reachB v n p q)] ∧ (reachB v n p q = true → frB X Y = true ∧ 0 < X ∧ ∀ φ, Pot v n φ → X * φ q = Y * φ p) ∧ (reachB v n p q = false → X = 0 ∧ Y = 0) := fun {p q} hp hq => by
    rcases Bool.eq_false_or_eq_true (reachB v n p q) with h | h
    · obtain ⟨X, Y, e1, e2, e3, e4⟩ := fac_yes H hp hq h
      exact ⟨X, Y, by rw [h]; exact e1, fun _ => ⟨e2, e3, e4⟩, fun h' => by rw [h] at h'; cases h'⟩
    · exact ⟨0, 0, by rw [h]; exact fac_no hr hp hq h, (fun h' => by rw [h] at h'; cases h'), fun _ => ⟨rfl, rfl⟩⟩
  obtain ⟨X1, Y1, e1, t1, z1⟩ := form ha hb
  obtain ⟨X2, Y2, e2, t2, _⟩ := form hb hc
  obtain ⟨X3, Y3, e3, t3, _⟩ := form ha hc
  obtain ⟨X4, Y4, e4, t4, _⟩ := form hb ha
  have hsy := reachB_symm hr ha hb
  rw [← hsy] at e4 t4
  have htr : reachB v n a b = true → reachB v n b c = true → reachB v n a c = true := fun h k => reachB_iff.2 (reach_trans hr ha hb hc (reachB_iff.1 h) (reachB_iff.1 k))
  refine ⟨X1, Y1, X2, Y2, X3, Y3, X4, Y4, reachB v n a b, reachB v n b c, reachB v n a c, ⟨e1, e2, e3, e4⟩, uniB_yes hr (u9_in ha) (u9_in hb), htr, fun hg => ?_, fun h => (t1 h).2.1, ?_, fun h hg => ?_, fun h k hg => ?_⟩
  · rcases Nat.lt_or_ge n 2 with h | h
    · rw [con_short hr h] at hg; cases hg
    · exact h
  · rcases Bool.eq_false_or_eq_true (reachB v n a b) with h | h
    · rw [if_pos h, timV_eq, h]
      obtain ⟨o1, o2, o3⟩ := prod_one (t1 h).1
      rw [o1, o2, o3]
    · obtain ⟨rfl, rfl⟩ := z1 h
      rw [if_neg (by rw [h]; simp), h]
      rfl
  · obtain ⟨φ, P⟩ := pot_all H hg
    obtain ⟨o1, o2, o3⟩ := prod_back (t1 h).1 (t4 h).1 (P.1 a) (P.1 b) ((t1 h).2.2 φ P) ((t4 h).2.2 φ P)
    rw [timV_eq, o1, o2, o3]
  · obtain ⟨φ, P⟩ := pot_all H hg
    have h3 := htr h k
    obtain ⟨o1, o2, o3⟩ := prod_on (t1 h).1 (t2 k).1 (t3 h3).1 (P.1 a) (P.1 b) (P.1 c) ((t1 h).2.2 φ P) ((t2 k).2.2 φ P) ((t3 h3).2.2 φ P)
    rw [timV_eq, o1, o2, o3]
end Go.Proofs.Ytfgkglbhbdfpfaa
