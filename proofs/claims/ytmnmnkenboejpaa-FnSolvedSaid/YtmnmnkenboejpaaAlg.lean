/- Plain linear algebra: a matrix of one to four rows times its adjugate is its determinant. -/
import Derived.Test.YtmnmnkenboejpaaBnd
namespace Go.Proofs.Ytmnmnkenboejpaa
open Go.RowKit
set_option linter.unusedSimpArgs false
set_option linter.unusedVariables false
theorem adj_mul1 (a : Int) (i k : Nat) (hi : i < 1) (hk : k < 1) : dotZ (gl (([[a]] : List (List Int)).getD i [])) (fun j => adjZ 1 [[a]] j k) 1 = if i = k then detZ 1 [[a]] else 0 := by
  match i, hi, k, hk with
  | 0, _, 0, _ => simp [detZ, dsZ, wo, altS, adjZ, dotZ, gl, List.eraseIdx]
theorem adj_mul2 (a b c d : Int) (i k : Nat) (hi : i < 2) (hk : k < 2) : dotZ (gl (([[a, b], [c, d]] : List (List Int)).getD i [])) (fun j => adjZ 2 [[a, b], [c, d]] j k) 2 = if i = k then detZ 2 [[a, b], [c, d]] else 0 := by
  rcases (show i = 0 ∨ i = 1 by omega) with rfl | rfl <;> rcases (show k = 0 ∨ k = 1 by omega) with rfl | rfl
  all_goals
    simp [detZ, dsZ, wo, altS, adjZ, dotZ, gl, List.eraseIdx]
    try grind
theorem adj_mul3 (a b c d e f g h p : Int) (i k : Nat) (hi : i < 3) (hk : k < 3) : dotZ (gl (([[a, b, c], [d, e, f], [g, h, p]] : List (List Int)).getD i [])) (fun j => adjZ 3 [[a, b, c], [d, e, f], [g, h, p]] j k) 3 = if i = k then detZ 3 [[a, b, c], [d, e, f], [g, h, p]] else 0 := by
  rcases (show i = 0 ∨ i = 1 ∨ i = 2 by omega) with rfl | rfl | rfl <;> rcases (show k = 0 ∨ k = 1 ∨ k = 2 by omega) with rfl | rfl | rfl
  all_goals
    simp [detZ, dsZ, wo, altS, adjZ, dotZ, gl, List.eraseIdx]
    try grind
set_option maxHeartbeats 4000000 in
theorem adj_mul4 (a0 a1 a2 a3 b0 b1 b2 b3 c0 c1 c2 c3 d0 d1 d2 d3 : Int) (i k : Nat) (hi : i < 4) (hk : k < 4) : dotZ (gl (([[a0, a1, a2, a3], [b0, b1, b2, b3], [c0, c1, c2, c3], [d0, d1, d2, d3]] : List (List Int)).getD i [])) (fun j => adjZ 4 [[a0, a1, a2, a3], [b0, b1, b2, b3], [c0, c1, c2, c3], [d0, d1, d2, d3]] j k) 4 = if i = k then detZ 4 [[a0, a1, a2, a3], [b0, b1, b2, b3], [c0, c1, c2, c3], [d0, d1, d2, d3]] else 0 := by
  rcases (show i = 0 ∨ i = 1 ∨ i = 2 ∨ i = 3 by omega) with rfl | rfl | rfl | rfl <;> rcases (show k = 0 ∨ k = 1 ∨ k = 2 ∨ k = 3 by omega) with rfl | rfl | rfl | rfl
  all_goals
    simp [detZ, dsZ, wo, altS, adjZ, dotZ, gl, List.eraseIdx]
    try grind
set_option maxHeartbeats 4000000 in
theorem mul_adj1 (a : Int) (i k : Nat) (hi : i < 1) (hk : k < 1) : dotZ (adjZ 1 [[a]] i) (fun j => gl (([[a]] : List (List Int)).getD j []) k) 1 = if i = k then detZ 1 [[a]] else 0 := by
  rcases (show i = 0 by omega) with rfl <;> rcases (show k = 0 by omega) with rfl
  all_goals
    simp [detZ, dsZ, wo, altS, adjZ, dotZ, gl, List.eraseIdx]
    try grind
set_option maxHeartbeats 4000000 in
theorem mul_adj2 (a b c d : Int) (i k : Nat) (hi : i < 2) (hk : k < 2) : dotZ (adjZ 2 [[a, b], [c, d]] i) (fun j => gl (([[a, b], [c, d]] : List (List Int)).getD j []) k) 2 = if i = k then detZ 2 [[a, b], [c, d]] else 0 := by
  rcases (show i = 0 ∨ i = 1 by omega) with rfl | rfl <;> rcases (show k = 0 ∨ k = 1 by omega) with rfl | rfl
  all_goals
    simp [detZ, dsZ, wo, altS, adjZ, dotZ, gl, List.eraseIdx]
    try grind
set_option maxHeartbeats 4000000 in
theorem mul_adj3 (a b c d e f g h p : Int) (i k : Nat) (hi : i < 3) (hk : k < 3) : dotZ (adjZ 3 [[a, b, c], [d, e, f], [g, h, p]] i) (fun j => gl (([[a, b, c], [d, e, f], [g, h, p]] : List (List Int)).getD j []) k) 3 = if i = k then detZ 3 [[a, b, c], [d, e, f], [g, h, p]] else 0 := by
  rcases (show i = 0 ∨ i = 1 ∨ i = 2 by omega) with rfl | rfl | rfl <;> rcases (show k = 0 ∨ k = 1 ∨ k = 2 by omega) with rfl | rfl | rfl
  all_goals
    simp [detZ, dsZ, wo, altS, adjZ, dotZ, gl, List.eraseIdx]
    try grind
set_option maxHeartbeats 4000000 in
theorem mul_adj4 (a0 a1 a2 a3 b0 b1 b2 b3 c0 c1 c2 c3 d0 d1 d2 d3 : Int) (i k : Nat) (hi : i < 4) (hk : k < 4) : dotZ (adjZ 4 [[a0, a1, a2, a3], [b0, b1, b2, b3], [c0, c1, c2, c3], [d0, d1, d2, d3]] i) (fun j => gl (([[a0, a1, a2, a3], [b0, b1, b2, b3], [c0, c1, c2, c3], [d0, d1, d2, d3]] : List (List Int)).getD j []) k) 4 = if i = k then detZ 4 [[a0, a1, a2, a3], [b0, b1, b2, b3], [c0, c1, c2, c3], [d0, d1, d2, d3]] else 0 := by
  rcases (show i = 0 ∨ i = 1 ∨ i = 2 ∨ i = 3 by omega) with rfl | rfl | rfl | rfl <;> rcases (show k = 0 ∨ k = 1 ∨ k = 2 ∨ k = 3 by omega) with rfl | rfl | rfl | rfl
  all_goals
    simp [detZ, dsZ, wo, altS, adjZ, dotZ, gl, List.eraseIdx]
    try grind
theorem len1 {α : Type} {l : List α} (h : l.length = 1) : ∃ a, l = [a] := by
  match l, h with
  | [a], _ => exact ⟨a, rfl⟩
theorem len2 {α : Type} {l : List α} (h : l.length = 2) : ∃ a b, l = [a, b] := by
  match l, h with
  | [a, b], _ => exact ⟨a, b, rfl⟩
theorem len3 {α : Type} {l : List α} (h : l.length = 3) : ∃ a b c, l = [a, b, c] := by
  match l, h with
  | [a, b, c], _ => exact ⟨a, b, c, rfl⟩
theorem len4 {α : Type} {l : List α} (h : l.length = 4) : ∃ a b c d, l = [a, b, c, d] := by
  match l, h with
  | [a, b, c, d], _ => exact ⟨a, b, c, d, rfl⟩
theorem adj_mul {m : Nat} {G : List (List Int)} (hG : Sq m G) {i k : Nat} (hi : i < m) (hk : k < m) :
    dotZ (gl (G.getD i [])) (fun j => adjZ m G j k) m = (if i = k then detZ m G else 0) ∧ dotZ (adjZ m G i) (fun j => gl (G.getD j []) k) m = if i = k then detZ m G else 0 := by
  obtain ⟨h1, h4, hl, hr, _⟩ := hG
  rcases (show m = 1 ∨ m = 2 ∨ m = 3 ∨ m = 4 by omega) with rfl | rfl | rfl | rfl
  · obtain ⟨r0, rfl⟩ := len1 hl
    obtain ⟨a, rfl⟩ := len1 (hr r0 (by simp))
    exact ⟨adj_mul1 _ _ _ hi hk, mul_adj1 _ _ _ hi hk⟩
  · obtain ⟨r0, r1, rfl⟩ := len2 hl
    obtain ⟨a, b, rfl⟩ := len2 (hr r0 (by simp))
    obtain ⟨c, d, rfl⟩ := len2 (hr r1 (by simp))
    exact ⟨adj_mul2 _ _ _ _ _ _ hi hk, mul_adj2 _ _ _ _ _ _ hi hk⟩
  · obtain ⟨r0, r1, r2, rfl⟩ := len3 hl
    obtain ⟨a, b, c, rfl⟩ := len3 (hr r0 (by simp))
    obtain ⟨d, e, f, rfl⟩ := len3 (hr r1 (by simp))
    obtain ⟨g, h, p, rfl⟩ := len3 (hr r2 (by simp))
    exact ⟨adj_mul3 _ _ _ _ _ _ _ _ _ _ _ hi hk, mul_adj3 _ _ _ _ _ _ _ _ _ _ _ hi hk⟩
  · obtain ⟨r0, r1, r2, r3, rfl⟩ := len4 hl
    obtain ⟨a0, a1, a2, a3, rfl⟩ := len4 (hr r0 (by simp))
    obtain ⟨b0, b1, b2, b3, rfl⟩ := len4 (hr r1 (by simp))
    obtain ⟨c0, c1, c2, c3, rfl⟩ := len4 (hr r2 (by simp))
    obtain ⟨d0, d1, d2, d3, rfl⟩ := len4 (hr r3 (by simp))
    exact ⟨adj_mul4 _ _ _ _ _ _ _ _ _ _ _ _ _ _ _ _ _ _ hi hk, mul_adj4 _ _ _ _ _ _ _ _ _ _ _ _ _ _ _ _ _ _ hi hk⟩
end Go.Proofs.Ytmnmnkenboejpaa
