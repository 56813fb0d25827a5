/- FnDecades: the law's walk. -/
import Derived.Test.YtoalpihlflifmaaDec4
import Derived.Test.YtoalpihlflifmaaDrawF
namespace Go.Proofs.Ytoalpihlflifmaa
open Go.RowKit
set_option linter.unusedSimpArgs false
set_option linter.unusedVariables false
set_option maxHeartbeats 8000000
theorem small_rep {u u' t' p q : Int} (h : Rep u' t' p q) (hu : 1 ≤ u ∧ u ≤ 12) (hu' : 1 ≤ u' ∧ u' ≤ 6) (ht : -10 ≤ t' ∧ t' ≤ 10) : ∃ D, (-7200 ≤ D ∧ D ≤ 7200) ∧ Rep (60 * u) D p q := by
  have h1 : u = 1 ∨ u = 2 ∨ u = 3 ∨ u = 4 ∨ u = 5 ∨ u = 6 ∨ u = 7 ∨ u = 8 ∨ u = 9 ∨ u = 10 ∨ u = 11 ∨ u = 12 := by omega
  have h2 : u' = 1 ∨ u' = 2 ∨ u' = 3 ∨ u' = 4 ∨ u' = 5 ∨ u' = 6 := by omega
  rcases h1 with rfl | rfl | rfl | rfl | rfl | rfl | rfl | rfl | rfl | rfl | rfl | rfl <;> rcases h2 with rfl | rfl | rfl | rfl | rfl | rfl
  · exact ⟨t' * 60, by omega, (h.scale 60).of (by omega) rfl⟩
  · exact ⟨t' * 30, by omega, (h.scale 30).of (by omega) rfl⟩
  · exact ⟨t' * 20, by omega, (h.scale 20).of (by omega) rfl⟩
  · exact ⟨t' * 15, by omega, (h.scale 15).of (by omega) rfl⟩
  · exact ⟨t' * 12, by omega, (h.scale 12).of (by omega) rfl⟩
  · exact ⟨t' * 10, by omega, (h.scale 10).of (by omega) rfl⟩
  · exact ⟨t' * 120, by omega, (h.scale 120).of (by omega) rfl⟩
  · exact ⟨t' * 60, by omega, (h.scale 60).of (by omega) rfl⟩
  · exact ⟨t' * 40, by omega, (h.scale 40).of (by omega) rfl⟩
  · exact ⟨t' * 30, by omega, (h.scale 30).of (by omega) rfl⟩
  · exact ⟨t' * 24, by omega, (h.scale 24).of (by omega) rfl⟩
  · exact ⟨t' * 20, by omega, (h.scale 20).of (by omega) rfl⟩
  · exact ⟨t' * 180, by omega, (h.scale 180).of (by omega) rfl⟩
  · exact ⟨t' * 90, by omega, (h.scale 90).of (by omega) rfl⟩
  · exact ⟨t' * 60, by omega, (h.scale 60).of (by omega) rfl⟩
  · exact ⟨t' * 45, by omega, (h.scale 45).of (by omega) rfl⟩
  · exact ⟨t' * 36, by omega, (h.scale 36).of (by omega) rfl⟩
  · exact ⟨t' * 30, by omega, (h.scale 30).of (by omega) rfl⟩
  · exact ⟨t' * 240, by omega, (h.scale 240).of (by omega) rfl⟩
  · exact ⟨t' * 120, by omega, (h.scale 120).of (by omega) rfl⟩
  · exact ⟨t' * 80, by omega, (h.scale 80).of (by omega) rfl⟩
  · exact ⟨t' * 60, by omega, (h.scale 60).of (by omega) rfl⟩
  · exact ⟨t' * 48, by omega, (h.scale 48).of (by omega) rfl⟩
  · exact ⟨t' * 40, by omega, (h.scale 40).of (by omega) rfl⟩
  · exact ⟨t' * 300, by omega, (h.scale 300).of (by omega) rfl⟩
  · exact ⟨t' * 150, by omega, (h.scale 150).of (by omega) rfl⟩
  · exact ⟨t' * 100, by omega, (h.scale 100).of (by omega) rfl⟩
  · exact ⟨t' * 75, by omega, (h.scale 75).of (by omega) rfl⟩
  · exact ⟨t' * 60, by omega, (h.scale 60).of (by omega) rfl⟩
  · exact ⟨t' * 50, by omega, (h.scale 50).of (by omega) rfl⟩
  · exact ⟨t' * 360, by omega, (h.scale 360).of (by omega) rfl⟩
  · exact ⟨t' * 180, by omega, (h.scale 180).of (by omega) rfl⟩
  · exact ⟨t' * 120, by omega, (h.scale 120).of (by omega) rfl⟩
  · exact ⟨t' * 90, by omega, (h.scale 90).of (by omega) rfl⟩
  · exact ⟨t' * 72, by omega, (h.scale 72).of (by omega) rfl⟩
  · exact ⟨t' * 60, by omega, (h.scale 60).of (by omega) rfl⟩
  · exact ⟨t' * 420, by omega, (h.scale 420).of (by omega) rfl⟩
  · exact ⟨t' * 210, by omega, (h.scale 210).of (by omega) rfl⟩
  · exact ⟨t' * 140, by omega, (h.scale 140).of (by omega) rfl⟩
  · exact ⟨t' * 105, by omega, (h.scale 105).of (by omega) rfl⟩
  · exact ⟨t' * 84, by omega, (h.scale 84).of (by omega) rfl⟩
  · exact ⟨t' * 70, by omega, (h.scale 70).of (by omega) rfl⟩
  · exact ⟨t' * 480, by omega, (h.scale 480).of (by omega) rfl⟩
  · exact ⟨t' * 240, by omega, (h.scale 240).of (by omega) rfl⟩
  · exact ⟨t' * 160, by omega, (h.scale 160).of (by omega) rfl⟩
  · exact ⟨t' * 120, by omega, (h.scale 120).of (by omega) rfl⟩
  · exact ⟨t' * 96, by omega, (h.scale 96).of (by omega) rfl⟩
  · exact ⟨t' * 80, by omega, (h.scale 80).of (by omega) rfl⟩
  · exact ⟨t' * 540, by omega, (h.scale 540).of (by omega) rfl⟩
  · exact ⟨t' * 270, by omega, (h.scale 270).of (by omega) rfl⟩
  · exact ⟨t' * 180, by omega, (h.scale 180).of (by omega) rfl⟩
  · exact ⟨t' * 135, by omega, (h.scale 135).of (by omega) rfl⟩
  · exact ⟨t' * 108, by omega, (h.scale 108).of (by omega) rfl⟩
  · exact ⟨t' * 90, by omega, (h.scale 90).of (by omega) rfl⟩
  · exact ⟨t' * 600, by omega, (h.scale 600).of (by omega) rfl⟩
  · exact ⟨t' * 300, by omega, (h.scale 300).of (by omega) rfl⟩
  · exact ⟨t' * 200, by omega, (h.scale 200).of (by omega) rfl⟩
  · exact ⟨t' * 150, by omega, (h.scale 150).of (by omega) rfl⟩
  · exact ⟨t' * 120, by omega, (h.scale 120).of (by omega) rfl⟩
  · exact ⟨t' * 100, by omega, (h.scale 100).of (by omega) rfl⟩
  · exact ⟨t' * 660, by omega, (h.scale 660).of (by omega) rfl⟩
  · exact ⟨t' * 330, by omega, (h.scale 330).of (by omega) rfl⟩
  · exact ⟨t' * 220, by omega, (h.scale 220).of (by omega) rfl⟩
  · exact ⟨t' * 165, by omega, (h.scale 165).of (by omega) rfl⟩
  · exact ⟨t' * 132, by omega, (h.scale 132).of (by omega) rfl⟩
  · exact ⟨t' * 110, by omega, (h.scale 110).of (by omega) rfl⟩
  · exact ⟨t' * 720, by omega, (h.scale 720).of (by omega) rfl⟩
  · exact ⟨t' * 360, by omega, (h.scale 360).of (by omega) rfl⟩
  · exact ⟨t' * 240, by omega, (h.scale 240).of (by omega) rfl⟩
  · exact ⟨t' * 180, by omega, (h.scale 180).of (by omega) rfl⟩
  · exact ⟨t' * 144, by omega, (h.scale 144).of (by omega) rfl⟩
  · exact ⟨t' * 120, by omega, (h.scale 120).of (by omega) rfl⟩
/-- What the calls of the law on decades return. -/
structure DecC (a b : Int) (v zh : Nat → Int) (P Q X4 Y4 X5 Y5 X7 Y7 s1 s2 r1 r2 w1 w2 x1 x2 y1 y2 : Int) : Prop where
  dec : ∀ A c w, Fl w A 4 2 v → Calls Try.prog 28 #[.agg #[.int .i64 a, .int .i64 b], .slice A 4 c] w (FR4 w (zz P Q X4 Y4 X5 Y5 X7 Y7))
  hd : ∀ A c w, Fl w A 4 2 v → Calls Try.prog 24 #[.agg #[.int .i64 a, .int .i64 b], .slice A 4 c] w (FR1 w 5 zh true)
  sh : ∀ A c w, Fl w A 5 2 zh → Calls Try.prog 18 #[.slice A 5 c] w fun e w' => e = .returned (.tuple #[.agg #[.int .i64 a, .int .i64 b], .bool true]) ∧ Below w.heap.size w w'
  sw : ∀ A c w, Fl w A 4 2 (zz P Q X4 Y4 X5 Y5 X7 Y7) → Calls Try.prog 18 #[.slice A 4 c] w fun e w' => e = .returned (.tuple #[.agg #[.int .i64 s1, .int .i64 s2], .bool true]) ∧ Below w.heap.size w w'
  sr : ∀ A c w, Fl w A 3 2 (fun j => (zz P Q X4 Y4 X5 Y5 X7 Y7) (j + 2)) → Calls Try.prog 18 #[.slice A 3 c] w fun e w' => e = .returned (.tuple #[.agg #[.int .i64 r1, .int .i64 r2], .bool true]) ∧ Below w.heap.size w w'
  a1 : ∀ w, Calls Try.prog 31 #[.agg #[.int .i64 s1, .int .i64 s2], .agg #[.int .i64 (v 0), .int .i64 (v 1)]] w fun e w' => e = .returned (.tuple #[.agg #[.int .i64 a, .int .i64 b], .bool true]) ∧ Below w.heap.size w w'
  a2 : ∀ w, Calls Try.prog 31 #[.agg #[.int .i64 r1, .int .i64 r2], .agg #[.int .i64 (v 2), .int .i64 (v 3)]] w fun e w' => e = .returned (.tuple #[.agg #[.int .i64 P, .int .i64 Q], .bool true]) ∧ Below w.heap.size w w'
  a3 : ∀ w, Calls Try.prog 31 #[.agg #[.int .i64 X5, .int .i64 Y5], .agg #[.int .i64 (v 4), .int .i64 (v 5)]] w fun e w' => e = .returned (.tuple #[.agg #[.int .i64 X4, .int .i64 Y4], .bool true]) ∧ Below w.heap.size w w'
  a4 : ∀ w, Calls Try.prog 31 #[.agg #[.int .i64 X7, .int .i64 Y7], .agg #[.int .i64 X7, .int .i64 Y7]] w fun e w' => e = .returned (.tuple #[.agg #[.int .i64 w1, .int .i64 w2], .bool true]) ∧ Below w.heap.size w w'
  a5 : ∀ w, Calls Try.prog 31 #[.agg #[.int .i64 w1, .int .i64 w2], .agg #[.int .i64 (v 6), .int .i64 (v 7)]] w fun e w' => e = .returned (.tuple #[.agg #[.int .i64 X4, .int .i64 Y4], .bool true]) ∧ Below w.heap.size w w'
  hv : ∀ w, Calls Try.prog 22 #[.agg #[.int .i64 a, .int .i64 b], .agg #[.int .i64 (v 0), .int .i64 (v 1)]] w fun e w' => e = .returned (.tuple #[.agg #[.int .i64 x1, .int .i64 x2], .agg #[.int .i64 y1, .int .i64 y2], .bool true]) ∧ Below w.heap.size w w'
  a6 : ∀ w, Calls Try.prog 31 #[.agg #[.int .i64 y1, .int .i64 y2], .agg #[.int .i64 (v 0), .int .i64 (v 1)]] w fun e w' => e = .returned (.tuple #[.agg #[.int .i64 x1, .int .i64 x2], .bool true]) ∧ Below w.heap.size w w'
theorem dec_pack {a b t u : Int} {l : List Int} {v : Nat → Int} (hvl : v = fun j => l.getD j 0) (ht : -20 ≤ t ∧ t ≤ 20) (hu : 1 ≤ u ∧ u ≤ 12) (hr : Rep u t a b) (hok : okF 4 l) :
    ∃ (zh : Nat → Int) (P Q X4 Y4 X5 Y5 X7 Y7 s1 s2 r1 r2 w1 w2 x1 x2 y1 y2 : Int), DecC a b v zh P Q X4 Y4 X5 Y5 X7 Y7 s1 s2 r1 r2 w1 w2 x1 x2 y1 y2 := by
  subst hvl
  have hd : ∀ k, k < 4 → frB (l.getD (k * 2) 0) (l.getD (k * 2 + 1) 0) = true := fun k hk => by
    obtain ⟨_, _, _, _, h⟩ := hok k hk
    exact h.1
  obtain ⟨t0, u0, h01, h02, h03⟩ := hok 0 (by omega)
  obtain ⟨t1, u1, h11, h12, h13⟩ := hok 1 (by omega)
  obtain ⟨t2, u2, h21, h22, h23⟩ := hok 2 (by omega)
  obtain ⟨t3, u3, h31, h32, h33⟩ := hok 3 (by omega)
  obtain ⟨D0, b0, d0⟩ := small_rep h03 hu h02 h01
  obtain ⟨D1, b1, d1⟩ := small_rep h13 hu h12 h11
  obtain ⟨D2, b2, d2⟩ := small_rep h23 hu h22 h21
  obtain ⟨D3, b3, d3⟩ := small_rep h33 hu h32 h31
  obtain ⟨P, Q, P', Q', S, T, X4, Y4, X5, Y5, X6, Y6, X7, Y7, X0, Y0, m, tt, tt', ⟨o1, e1, f1⟩, hv, hsum, ⟨o4, e4, f4⟩, ⟨o5, e5, f5⟩, ⟨o6, e6, f6⟩, ⟨o7, e7, f7⟩, hhs, s1, s2, r1, r2, w1, w2, x1, x2, y1, y2, F⟩ :=
    dec_alg (v := fun j => l.getD j 0) (X := t * 60) hu (by omega) ((hr.scale 60).of (by omega) rfl) b0 b1 b2 b3 d0 d1 d2 d3
  refine ⟨fun j => (m ++ [tt, tt']).getD j 0, P, Q, X4, Y4, X5, Y5, X7, Y7, s1, s2, r1, r2, w1, w2, x1, x2, y1, y2, ?_⟩
  exact {
    dec := fun A c w f => by
      have := impl_Decade4 a b A c (fun j => l.getD j 0) w hr.1 hd f X0 Y0 P Q P' Q' S T X4 Y4 X5 Y5 X6 Y6 X7 Y7 true true true true true true true
        (fun w => by rw [← o1, ← e1, ← f1]; exact impl_minus _ _ _ _ w) (fun w => by rw [← hv]; exact impl_Halve _ _ _ _ w) (fun g w ow => by rw [← hsum]; exact impl_Sum _ 5 5 _ w (by decide) (ow.fl (Nat.le_refl _)))
        (fun w => by rw [← o4, ← e4, ← f4]; exact impl_timesPart _ _ _ w) (fun w => by rw [← o5, ← e5, ← f5]; exact impl_minus _ _ _ _ w) (fun w => by rw [← o6, ← e6, ← f6]; exact impl_minus _ _ _ _ w) (fun w => by rw [← o7, ← e7, ← f7]; exact impl_timesPart _ _ _ w)
      exact this
    hd := fun A c w f => by
      have := impl_HalveDown a b A 4 c (fun j => l.getD j 0) w hr.1 (by decide) f
      rw [hhs] at this
      exact this
    sh := fun A c w f => by rw [← F.sumH]; exact impl_Sum A 5 c _ w (by decide) f
    sw := fun A c w f => by rw [← F.sumW]; exact impl_Sum A 4 c _ w (by decide) f
    sr := fun A c w f => by rw [← F.sumR]; exact impl_Sum A 3 c _ w (by decide) f
    a1 := fun w => by rw [← F.addW]; exact impl_Add _ _ _ _ w
    a2 := fun w => by rw [← F.addR]; exact impl_Add _ _ _ _ w
    a3 := fun w => by rw [← F.addC]; exact impl_Add _ _ _ _ w
    a4 := fun w => by rw [← F.addT]; exact impl_Add _ _ _ _ w
    a5 := fun w => by rw [← F.addE]; exact impl_Add _ _ _ _ w
    hv := fun w => by rw [← F.half]; exact impl_Halve _ _ _ _ w
    a6 := fun w => by rw [← F.addZ]; exact impl_Add _ _ _ _ w }
end Go.Proofs.Ytoalpihlflifmaa
