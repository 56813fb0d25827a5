/- The algebra of a decade. Plain Lean; no program. -/
import Derived.Test.YtoalpihlflifmaaFracA
import Derived.Test.YtoalpihlflifmaaSumFLaws
import Derived.Test.YtoalpihlflifmaaHd
import Derived.Test.YtoalpihlflifmaaDec
namespace Go.Proofs.Ytoalpihlflifmaa
set_option linter.unusedSimpArgs false
set_option linter.unusedVariables false
theorem sum_next {z : Nat → Int} {k : Nat} {N x y T B : Int} (hs : st z k = (T, B, true)) (h : Rep N x T B) (hy : Rep N y (z (k * 2)) (z (k * 2 + 1))) (hN : 0 < N) (hN6 : N ≤ 1000000) (hx : -1000000 ≤ x + y ∧ x + y ≤ 1000000) :
    ∃ T' B', st z (k + 1) = (T', B', true) ∧ Rep N (x + y) T' B' := by
  obtain ⟨h1, h2⟩ := h.add hy hN hN6 hx
  exact ⟨_, _, by rw [st_next hs, h1], h2⟩
theorem sum_start (z : Nat → Int) (N : Int) : st z 0 = (0, 1, true) ∧ Rep N 0 0 1 := ⟨rfl, Rep.zero N⟩
/-- What the law on decades asks of the values. -/
structure DecF (a b : Int) (v : Nat → Int) (P Q X4 Y4 X5 Y5 X7 Y7 : Int) (zh : Nat → Int) (s1 s2 r1 r2 w1 w2 x1 x2 y1 y2 : Int) : Prop where
  sumH : sumV 5 zh = .tuple #[.agg #[.int .i64 a, .int .i64 b], .bool true]
  sumW : sumV 4 (zz P Q X4 Y4 X5 Y5 X7 Y7) = .tuple #[.agg #[.int .i64 s1, .int .i64 s2], .bool true]
  addW : addV s1 s2 (v 0) (v 1) = .tuple #[.agg #[.int .i64 a, .int .i64 b], .bool true]
  sumR : sumV 3 (fun j => zz P Q X4 Y4 X5 Y5 X7 Y7 (j + 2)) = .tuple #[.agg #[.int .i64 r1, .int .i64 r2], .bool true]
  addR : addV r1 r2 (v 2) (v 3) = .tuple #[.agg #[.int .i64 P, .int .i64 Q], .bool true]
  addC : addV X5 Y5 (v 4) (v 5) = .tuple #[.agg #[.int .i64 X4, .int .i64 Y4], .bool true]
  addT : addV X7 Y7 X7 Y7 = .tuple #[.agg #[.int .i64 w1, .int .i64 w2], .bool true]
  addE : addV w1 w2 (v 6) (v 7) = .tuple #[.agg #[.int .i64 X4, .int .i64 Y4], .bool true]
  half : hvV a b (v 0) (v 1) = .tuple #[.agg #[.int .i64 x1, .int .i64 x2], .agg #[.int .i64 y1, .int .i64 y2], .bool true]
  addZ : addV y1 y2 (v 0) (v 1) = .tuple #[.agg #[.int .i64 x1, .int .i64 x2], .bool true]
theorem addV_rep {N x y a b c d p q : Int} (h : Rep N x a b) (k : Rep N y c d) (r : Rep N (x + y) p q) (hN : 0 < N) (hN6 : N ≤ 1000000) (hx : -1000000 ≤ x + y ∧ x + y ≤ 1000000) : addV a b c d = .tuple #[.agg #[.int .i64 p, .int .i64 q], .bool true] := by
  obtain ⟨h1, h2⟩ := h.add k hN hN6 hx
  obtain ⟨e1, e2⟩ := h2.eq r hN
  rw [addV_eq, h1, e1, e2]
theorem sum_h {N x0 x1 x2 x3 x4 p0 q0 p1 q1 p2 q2 p3 q3 p4 q4 a b : Int} (r0 : Rep N x0 p0 q0) (r1 : Rep N x1 p1 q1) (r2 : Rep N x2 p2 q2) (r3 : Rep N x3 p3 q3) (r4 : Rep N x4 p4 q4) (hN : 0 < N) (hN6 : N ≤ 1000000)
    (b0 : -1000000 ≤ 0 + x0 ∧ 0 + x0 ≤ 1000000) (b1 : -1000000 ≤ 0 + x0 + x1 ∧ 0 + x0 + x1 ≤ 1000000) (b2 : -1000000 ≤ 0 + x0 + x1 + x2 ∧ 0 + x0 + x1 + x2 ≤ 1000000) (b3 : -1000000 ≤ 0 + x0 + x1 + x2 + x3 ∧ 0 + x0 + x1 + x2 + x3 ≤ 1000000) (b4 : -1000000 ≤ 0 + x0 + x1 + x2 + x3 + x4 ∧ 0 + x0 + x1 + x2 + x3 + x4 ≤ 1000000) (hr : Rep N (0 + x0 + x1 + x2 + x3 + x4) a b) :
    sumV 5 (fun j => ([] ++ [p0, q0] ++ [p1, q1] ++ [p2, q2] ++ [p3, q3] ++ [p4, q4]).getD j 0) = .tuple #[.agg #[.int .i64 a, .int .i64 b], .bool true] := by
  obtain ⟨g0, f0⟩ := sum_start (fun j => ([] ++ [p0, q0] ++ [p1, q1] ++ [p2, q2] ++ [p3, q3] ++ [p4, q4]).getD j 0) N
  obtain ⟨T1, B1, g1, f1⟩ := sum_next g0 f0 (y := x0) r0 hN hN6 b0
  obtain ⟨T2, B2, g2, f2⟩ := sum_next g1 f1 (y := x1) r1 hN hN6 b1
  obtain ⟨T3, B3, g3, f3⟩ := sum_next g2 f2 (y := x2) r2 hN hN6 b2
  obtain ⟨T4, B4, g4, f4⟩ := sum_next g3 f3 (y := x3) r3 hN hN6 b3
  obtain ⟨T5, B5, g5, f5⟩ := sum_next g4 f4 (y := x4) r4 hN hN6 b4
  obtain ⟨e1, e2⟩ := f5.eq hr hN
  rw [sumV_yes (by decide) g5, e1, e2]
theorem sum_w {N x0 x1 x2 x3 P Q X4 Y4 X5 Y5 X7 Y7 : Int} (r0 : Rep N x0 P Q) (r1 : Rep N x1 X4 Y4) (r2 : Rep N x2 X5 Y5) (r3 : Rep N x3 X7 Y7) (hN : 0 < N) (hN6 : N ≤ 1000000)
    (b0 : -1000000 ≤ 0 + x0 ∧ 0 + x0 ≤ 1000000) (b1 : -1000000 ≤ 0 + x0 + x1 ∧ 0 + x0 + x1 ≤ 1000000) (b2 : -1000000 ≤ 0 + x0 + x1 + x2 ∧ 0 + x0 + x1 + x2 ≤ 1000000) (b3 : -1000000 ≤ 0 + x0 + x1 + x2 + x3 ∧ 0 + x0 + x1 + x2 + x3 ≤ 1000000) :
    ∃ s1 s2, sumV 4 (zz P Q X4 Y4 X5 Y5 X7 Y7) = .tuple #[.agg #[.int .i64 s1, .int .i64 s2], .bool true] ∧ Rep N (0 + x0 + x1 + x2 + x3) s1 s2 := by
  obtain ⟨g0, f0⟩ := sum_start (zz P Q X4 Y4 X5 Y5 X7 Y7) N
  obtain ⟨T1, B1, g1, f1⟩ := sum_next g0 f0 (y := x0) r0 hN hN6 b0
  obtain ⟨T2, B2, g2, f2⟩ := sum_next g1 f1 (y := x1) r1 hN hN6 b1
  obtain ⟨T3, B3, g3, f3⟩ := sum_next g2 f2 (y := x2) r2 hN hN6 b2
  obtain ⟨T4, B4, g4, f4⟩ := sum_next g3 f3 (y := x3) r3 hN hN6 b3
  exact ⟨T4, B4, sumV_yes (by decide) g4, f4⟩
theorem sum_r {N x1 x2 x3 P Q X4 Y4 X5 Y5 X7 Y7 : Int} (r1 : Rep N x1 X4 Y4) (r2 : Rep N x2 X5 Y5) (r3 : Rep N x3 X7 Y7) (hN : 0 < N) (hN6 : N ≤ 1000000)
    (b1 : -1000000 ≤ 0 + x1 ∧ 0 + x1 ≤ 1000000) (b2 : -1000000 ≤ 0 + x1 + x2 ∧ 0 + x1 + x2 ≤ 1000000) (b3 : -1000000 ≤ 0 + x1 + x2 + x3 ∧ 0 + x1 + x2 + x3 ≤ 1000000) :
    ∃ s1 s2, sumV 3 (fun j => zz P Q X4 Y4 X5 Y5 X7 Y7 (j + 2)) = .tuple #[.agg #[.int .i64 s1, .int .i64 s2], .bool true] ∧ Rep N (0 + x1 + x2 + x3) s1 s2 := by
  obtain ⟨g0, f0⟩ := sum_start (fun j => zz P Q X4 Y4 X5 Y5 X7 Y7 (j + 2)) N
  obtain ⟨T2, B2, g2, f2⟩ := sum_next g0 f0 (y := x1) r1 hN hN6 b1
  obtain ⟨T3, B3, g3, f3⟩ := sum_next g2 f2 (y := x2) r2 hN hN6 b2
  obtain ⟨T4, B4, g4, f4⟩ := sum_next g3 f3 (y := x3) r3 hN hN6 b3
  exact ⟨T4, B4, sumV_yes (by decide) g4, f4⟩
theorem dec_alg {a b u X : Int} {v : Nat → Int} {D0 D1 D2 D3 : Int} (hu : 1 ≤ u ∧ u ≤ 12) (hX : -1200 ≤ X ∧ X ≤ 1200) (h0 : Rep (60 * u) X a b)
    (b0 : -7200 ≤ D0 ∧ D0 ≤ 7200) (b1 : -7200 ≤ D1 ∧ D1 ≤ 7200) (b2 : -7200 ≤ D2 ∧ D2 ≤ 7200) (b3 : -7200 ≤ D3 ∧ D3 ≤ 7200)
    (d0 : Rep (60 * u) D0 (v 0) (v 1)) (d1 : Rep (60 * u) D1 (v 2) (v 3)) (d2 : Rep (60 * u) D2 (v 4) (v 5)) (d3 : Rep (60 * u) D3 (v 6) (v 7)) :
    ∃ (P Q P' Q' S T X4 Y4 X5 Y5 X6 Y6 X7 Y7 X0 Y0 : Int) (m : List Int) (t t' : Int),
      (aO a b (ng (v 0)) (v 1) = true ∧ aT a b (ng (v 0)) (v 1) = X0 ∧ aB a b (ng (v 0)) (v 1) = Y0) ∧
      hvV X0 Y0 (v 2) (v 3) = .tuple #[.agg #[.int .i64 P, .int .i64 Q], .agg #[.int .i64 P', .int .i64 Q'], .bool true] ∧
      sumV 5 (lz v P' Q') = .tuple #[.agg #[.int .i64 S, .int .i64 T], .bool true] ∧
      (tO S T 1 5 = true ∧ tT S T 1 5 = X4 ∧ tB S T 1 5 = Y4) ∧
      (aO X4 Y4 (ng (v 4)) (v 5) = true ∧ aT X4 Y4 (ng (v 4)) (v 5) = X5 ∧ aB X4 Y4 (ng (v 4)) (v 5) = Y5) ∧
      (aO X4 Y4 (ng (v 6)) (v 7) = true ∧ aT X4 Y4 (ng (v 6)) (v 7) = X6 ∧ aB X4 Y4 (ng (v 6)) (v 7) = Y6) ∧
      (tO X6 Y6 1 2 = true ∧ tT X6 Y6 1 2 = X7 ∧ tB X6 Y6 1 2 = Y7) ∧
      hs a b v 4 = some (m, t, t') ∧
      ∃ (s1 s2 r1 r2 w1 w2 x1 x2 y1 y2 : Int), DecF a b v P Q X4 Y4 X5 Y5 X7 Y7 (fun j => (m ++ [t, t']).getD j 0) s1 s2 r1 r2 w1 w2 x1 x2 y1 y2 := by
  obtain ⟨N, hN⟩ : ∃ N, N = 60 * u := ⟨_, rfl⟩
  rw [← hN] at h0 d0 d1 d2 d3
  have hN1 : 60 ≤ N ∧ N ≤ 720 := by omega
  clear hN
  -- the decade
  obtain ⟨p1, p2⟩ := h0.add d0.neg (by omega) (by omega) (by omega)
  obtain ⟨q1, q2, q3⟩ := p2.halve d1 (by omega) (by omega) (by omega) (by omega)
  have e2 : Rep (N * 2) (D2 * 2) (v 4) (v 5) := d2.scale 2
  have e3 : Rep (N * 2) (D3 * 2) (v 6) (v 7) := d3.scale 2
  obtain ⟨g0, f0⟩ := sum_start (lz v (hT (aT a b (ng (v 0)) (v 1)) (aB a b (ng (v 0)) (v 1)) (ng (v 2)) (v 3)) (hB' (aT a b (ng (v 0)) (v 1)) (aB a b (ng (v 0)) (v 1)) (ng (v 2)) (v 3))) (N * 2)
  obtain ⟨T1, B1, g1, f1⟩ := sum_next g0 f0 (y := X + -D0 - D1) q3 (by omega) (by omega) (by omega)
  obtain ⟨T2, B2, g2, f2⟩ := sum_next g1 f1 (y := X + -D0 - D1) q3 (by omega) (by omega) (by omega)
  obtain ⟨T3, B3, g3, f3⟩ := sum_next g2 f2 (y := D2 * 2) e2 (by omega) (by omega) (by omega)
  obtain ⟨T4, B4, g4, f4⟩ := sum_next g3 f3 (y := D2 * 2) e2 (by omega) (by omega) (by omega)
  obtain ⟨S, T, g5, f5⟩ := sum_next g4 f4 (y := D3 * 2) e3 (by omega) (by omega) (by omega)
  obtain ⟨A, hA⟩ : ∃ A, A = 0 + (X + -D0 - D1) + (X + -D0 - D1) + D2 * 2 + D2 * 2 + D3 * 2 := ⟨_, rfl⟩
  rw [← hA] at f5
  obtain ⟨k1, k2⟩ := f5.part 5 (by omega) (by omega) (by omega) (by omega)
  have e2' : Rep (N * 2 * 5) (D2 * 10) (v 4) (v 5) := (d2.scale 10).of (by omega) rfl
  have e3' : Rep (N * 2 * 5) (D3 * 10) (v 6) (v 7) := (d3.scale 10).of (by omega) rfl
  obtain ⟨l1, l2⟩ := k2.add e2'.neg (by omega) (by omega) (by omega)
  obtain ⟨m1, m2⟩ := k2.add e3'.neg (by omega) (by omega) (by omega)
  obtain ⟨n1, n2⟩ := m2.part 2 (by omega) (by omega) (by omega) (by omega)
  -- the halves
  obtain ⟨a1, a2, a3⟩ := h0.halve d0 (by omega) (by omega) (by omega) (by omega)
  obtain ⟨c1, c2, c3⟩ := a3.halve (d1.scale 2) (by omega) (by omega) (by omega) (by omega)
  obtain ⟨i1, i2, i3⟩ := c3.halve ((d2.scale 4).of (show N * 4 = N * 2 * 2 by omega) rfl) (by omega) (by omega) (by omega) (by omega)
  obtain ⟨j1, j2, j3⟩ := i3.halve ((d3.scale 8).of (show N * 8 = N * 2 * 2 * 2 by omega) rfl) (by omega) (by omega) (by omega) (by omega)
  have hs1 := hs_yes (a := a) (b := b) (v := v) (k := 0) rfl a1
  have hs2 := hs_yes hs1 c1
  have hs3 := hs_yes hs2 i1
  have hs4 := hs_yes hs3 j1
  -- the sums
  have y0 : Rep (N * 16) ((X + D0) * 8) _ _ := (a2.scale 8).of (by omega) rfl
  have y1 : Rep (N * 16) ((X - D0 + D1 * 2) * 4) _ _ := (c2.scale 4).of (by omega) rfl
  have y2 : Rep (N * 16) ((X - D0 - D1 * 2 + D2 * 4) * 2) _ _ := (i2.scale 2).of (by omega) rfl
  have y3 : Rep (N * 16) (X - D0 - D1 * 2 - D2 * 4 + D3 * 8) _ _ := j2.of (by omega) rfl
  have y4 : Rep (N * 16) (X - D0 - D1 * 2 - D2 * 4 - D3 * 8) _ _ := j3.of (by omega) rfl
  have hy : Rep (N * 16) (X * 16) a b := h0.scale 16
  have z0 : Rep (N * 20) ((X + -D0 + D1) * 10) _ _ := (q2.scale 10).of (by omega) rfl
  have z1 : Rep (N * 20) (A * 2) _ _ := (k2.scale 2).of (by omega) rfl
  have z2 : Rep (N * 20) ((A + -(D2 * 10)) * 2) _ _ := (l2.scale 2).of (by omega) rfl
  have z3 : Rep (N * 20) (A + -(D3 * 10)) _ _ := n2.of (by omega) rfl
  have w0 : Rep (N * 20) (D0 * 20) (v 0) (v 1) := d0.scale 20
  have w1 : Rep (N * 20) (D1 * 20) (v 2) (v 3) := d1.scale 20
  have w3 : Rep (N * 20) (D3 * 20) (v 6) (v 7) := d3.scale 20
  have ht : Rep (N * 20) (X * 20) a b := h0.scale 20
  refine ⟨_, _, _, _, S, T, _, _, _, _, _, _, _, _, _, _, _, _, _, ⟨p1, rfl, rfl⟩, hvV_yes q1, sumV_yes (by decide) g5, ⟨k1, rfl, rfl⟩, ⟨l1, rfl, rfl⟩, ⟨m1, rfl, rfl⟩, ⟨n1, rfl, rfl⟩, hs4, ?_⟩
  have HA := Lib.hid hA
  obtain ⟨s1, s2, gs, fs⟩ := sum_w z0 z1 z2 z3 (by omega) (by omega) (by omega) (by omega) (by omega) (by omega)
  obtain ⟨r1, r2, gr, fr⟩ := sum_r (P := 0) (Q := 0) z1 z2 z3 (by omega) (by omega) (by omega) (by omega) (by omega)
  obtain ⟨o1, o2⟩ := z3.add z3 (by omega) (by omega) (by omega)
  obtain ⟨W1, W2, gt, ft⟩ : ∃ W1 W2, addV (tT (aT (tT S T 1 5) (tB S T 1 5) (ng (v 6)) (v 7)) (aB (tT S T 1 5) (tB S T 1 5) (ng (v 6)) (v 7)) 1 2) (tB (aT (tT S T 1 5) (tB S T 1 5) (ng (v 6)) (v 7)) (aB (tT S T 1 5) (tB S T 1 5) (ng (v 6)) (v 7)) 1 2) (tT (aT (tT S T 1 5) (tB S T 1 5) (ng (v 6)) (v 7)) (aB (tT S T 1 5) (tB S T 1 5) (ng (v 6)) (v 7)) 1 2) (tB (aT (tT S T 1 5) (tB S T 1 5) (ng (v 6)) (v 7)) (aB (tT S T 1 5) (tB S T 1 5) (ng (v 6)) (v 7)) 1 2) = .tuple #[.agg #[.int .i64 W1, .int .i64 W2], .bool true] ∧ Rep (N * 20) (A + -(D3 * 10) + (A + -(D3 * 10))) W1 W2 := ⟨_, _, by rw [addV_eq, o1], o2⟩
  refine ⟨s1, s2, r1, r2, W1, W2, hT a b (v 0) (v 1), hB' a b (v 0) (v 1), hT a b (ng (v 0)) (v 1), hB' a b (ng (v 0)) (v 1), ?_⟩
  exact {
    sumH := sum_h y0 y1 y2 y3 y4 (by omega) (by omega) (by omega) (by omega) (by omega) (by omega) (by omega) (hy.of rfl (by omega))
    sumW := gs
    addW := addV_rep fs w0 (ht.of rfl (by omega)) (by omega) (by omega) (by omega)
    sumR := gr
    addR := addV_rep fr w1 (z0.of rfl (by omega)) (by omega) (by omega) (by omega)
    addC := addV_rep l2 e2' (k2.of rfl (by omega)) (by omega) (by omega) (by omega)
    addT := gt
    addE := addV_rep ft w3 (z1.of rfl (by omega)) (by omega) (by omega) (by omega)
    half := hvV_yes a1
    addZ := addV_rep a3 (d0.scale 2) (a2.of rfl (by omega)) (by omega) (by omega) (by omega) }
end Go.Proofs.Ytoalpihlflifmaa
