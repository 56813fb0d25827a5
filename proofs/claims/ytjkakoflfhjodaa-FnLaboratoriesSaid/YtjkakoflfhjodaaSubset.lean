/- Plain law: the greatest number of spans of a set that are apart, over all sets, is the number of points that the greedy choice takes. No program in sight. -/
import Derived.Test.YtjkakoflfhjodaaFew
import Derived.Lib.RabinKarpLaws
namespace Go.Proofs.Ytjkakoflfhjodaa
open Go.RowKit
set_option linter.unusedSimpArgs false
set_option linter.unusedVariables false

/-- Does s have the bit k? -/
def bt (s k : Nat) : Bool := s / 2 ^ k % 2 == 1
theorem bt_bits {s k : Nat} (hs : s < 9223372036854775808) : bits BinOp.and IntKind.i64 ((s : Int) / 2 ^ k) 1 = ((s / 2 ^ k % 2 : Nat) : Int) := by
  have e : ((s : Int) / 2 ^ k) = ((s / 2 ^ k : Nat) : Int) := by push_cast; rfl
  rw [e]
  exact and_one _ (Nat.lt_of_le_of_lt (Nat.div_le_self _ _) hs)
theorem bt_yes {s k : Nat} (hs : s < 9223372036854775808) (h : bt s k = true) : (bits BinOp.and IntKind.i64 ((s : Int) / 2 ^ k) 1 == 0) = false ∧ (bits BinOp.and IntKind.i64 ((s : Int) / 2 ^ k) 1 == 1) = true := by
  rw [bt_bits hs]
  have h1 : s / 2 ^ k % 2 = 1 := by simpa [bt] using h
  rw [h1]
  exact ⟨by decide, by decide⟩
theorem bt_no {s k : Nat} (hs : s < 9223372036854775808) (h : bt s k = false) : (bits BinOp.and IntKind.i64 ((s : Int) / 2 ^ k) 1 == 0) = true ∧ (bits BinOp.and IntKind.i64 ((s : Int) / 2 ^ k) 1 == 1) = false := by
  rw [bt_bits hs]
  have h1 : s / 2 ^ k % 2 = 0 := by
    have : s / 2 ^ k % 2 ≠ 1 := by simpa [bt] using h
    omega
  rw [h1]
  exact ⟨by decide, by decide⟩
theorem bt_test (s k : Nat) : bt s k = s.testBit k := by
  rw [Nat.testBit_eq_decide_div_mod_eq]
  unfold bt
  cases h : decide (s / 2 ^ k % 2 = 1) <;> simpa using h

/-- How many of the first k are in the set σ. -/
def cntP (σ : Nat → Bool) : Nat → Nat
  | 0 => 0
  | k + 1 => cntP σ k + if σ k = true then 1 else 0
theorem cntP_le (σ : Nat → Bool) (k : Nat) : cntP σ k ≤ k := by
  induction k with
  | zero => simp [cntP]
  | succ k ih => simp only [cntP]; split <;> omega
theorem cntP_congr {σ τ : Nat → Bool} {k : Nat} (h : ∀ j, j < k → σ j = τ j) : cntP σ k = cntP τ k := by
  induction k with
  | zero => rfl
  | succ k ih => simp only [cntP]; rw [ih fun j hj => h j (by omega), h k (by omega)]
theorem cntP_zero {σ : Nat → Bool} {k : Nat} (h : ∀ j, j < k → σ j = false) : cntP σ k = 0 := by
  induction k with
  | zero => rfl
  | succ k ih => simp only [cntP]; rw [ih fun j hj => h j (by omega), h k (by omega)]; simp
theorem cntP_split (σ h : Nat → Bool) (k : Nat) : cntP σ k = cntP (fun j => σ j && !h j) k + cntP (fun j => σ j && h j) k := by
  induction k with
  | zero => rfl
  | succ k ih => simp only [cntP]; rw [ih]; rcases Bool.eq_false_or_eq_true (σ k) with e | e <;> rcases Bool.eq_false_or_eq_true (h k) with e2 | e2 <;> simp [e, e2] <;> omega
theorem cntP_one {σ : Nat → Bool} {k : Nat} (h : ∀ a b, a < k → b < a → σ a = true → σ b = true → False) : cntP σ k ≤ 1 := by
  induction k with
  | zero => simp [cntP]
  | succ k ih =>
    simp only [cntP]
    by_cases e : σ k = true
    · rw [if_pos e, cntP_zero fun j hj => by
        cases h1 : σ j with
        | false => rfl
        | true => exact (h k j (by omega) hj e h1).elim]
      omega
    · rw [if_neg e]; exact ih fun a b ha hb => h a b (by omega) hb
theorem cntP_add {σ : Nat → Bool} {k I : Nat} (hI : I < k) (h : σ I = false) : cntP (fun j => (j == I) || σ j) k = cntP σ k + 1 := by
  induction k with
  | zero => omega
  | succ k ih =>
    simp only [cntP]
    rcases Nat.lt_or_ge I k with h1 | h1
    · rw [ih h1]
      have : (k == I) = false := by simp; omega
      simp only [this, Bool.false_or]; omega
    · obtain rfl : I = k := by omega
      rw [cntP_congr (τ := σ) fun j hj => by have : (j == I) = false := by simp; omega
                                             rw [this, Bool.false_or]]
      simp [h]
/-- Do the spans a and b have a point in common? -/
def ov (v : Nat → Int) (a b : Nat) : Bool := decide (max (v (a * 2)) (v (b * 2)) ≤ min (v (a * 2 + 1)) (v (b * 2 + 1)))
/-- The spans of the set σ below n are apart. -/
def apartP (v : Nat → Int) (n : Nat) (σ : Nat → Bool) : Prop := ∀ a b, a < n → b < a → σ a = true → σ b = true → ov v a b = false
theorem nx_none {v : Nat → Int} {d : Nat → Bool} {k : Nat} (h : nx v d k < 0) : ∀ j, j < k → d j = true := by
  induction k with
  | zero => intro j hj; omega
  | succ k ih =>
    intro j hj
    simp only [nx] at h
    split at h
    · omega
    · rename_i h1
      have h2 := ih h
      rcases Nat.lt_or_ge j k with h3 | h3
      · exact h2 j h3
      · obtain rfl : j = k := by omega
        cases e : d j with
        | true => rfl
        | false => exact absurd ⟨e, Or.inl h⟩ h1
theorem nx_min {v : Nat → Int} {d : Nat → Bool} {k I : Nat} (h : nx v d k = I) : ∀ j, j < k → d j = false → v (I * 2 + 1) ≤ v (j * 2 + 1) := by
  induction k generalizing I with
  | zero => intro j hj; omega
  | succ k ih =>
    intro j hj hd
    simp only [nx] at h
    split at h
    · rename_i h1
      obtain rfl : k = I := by omega
      rcases Nat.lt_or_ge j k with h3 | h3
      · rcases h1.2 with h4 | h4
        · have := nx_none h4 j h3; rw [hd] at this; cases this
        · have h0 := nx_bd v d k
          rcases Int.lt_or_le (nx v d k) 0 with h5 | h5
          · have := nx_none h5 j h3; rw [hd] at this; cases this
          · have := ih (I := (nx v d k).toNat) (by omega) j h3 hd
            omega
      · obtain rfl : j = k := by omega
        omega
    · rename_i h1
      rcases Nat.lt_or_ge j k with h3 | h3
      · exact ih h j h3 hd
      · obtain rfl : j = k := by omega
        have : ¬ (v (j * 2 + 1) < v (I * 2 + 1)) := fun h4 => h1 ⟨hd, Or.inr (by rw [h]; exact h4)⟩
        omega
theorem few_ub {v : Nat → Int} {n : Nat} (hv : ∀ k, k < n → v (k * 2) ≤ v (k * 2 + 1)) : ∀ (f : Nat) (d σ : Nat → Bool), und d n < f → (∀ j, j < n → σ j = true → d j = false) → apartP v n σ → cntP σ n ≤ (few v n f d).length := by
  intro f
  induction f with
  | zero => intro d σ h; omega
  | succ f ih =>
    intro d σ hu hs ha
    rcases Int.lt_or_le (nx v d n) 0 with h | h
    · rw [cntP_zero fun j hj => by
        cases e : σ j with
        | false => rfl
        | true => have := hs j hj e; rw [nx_none h j hj] at this; cases this]
      omega
    · obtain ⟨I, hI⟩ : ∃ I : Nat, nx v d n = I := ⟨(nx v d n).toNat, by omega⟩
      have hb := nx_bd v d n
      rw [few_go hI]
      generalize hp : v (I * 2 + 1) = p
      have h1 := und_hit hI (hv I (by omega))
      rw [hp] at h1
      have h2 := ih (hit v p d n) (fun j => σ j && !inB p (v (j * 2)) (v (j * 2 + 1))) (by omega)
        (fun j hj e => by
          simp only [Bool.and_eq_true, Bool.not_eq_true'] at e
          simp only [hit, hj, if_true, Bool.or_eq_false_iff]
          exact ⟨hs j hj e.1, e.2⟩)
        (fun a b ha1 hb1 e1 e2 => by
          simp only [Bool.and_eq_true] at e1 e2
          exact ha a b ha1 hb1 e1.1 e2.1)
      have h3 : cntP (fun j => σ j && inB p (v (j * 2)) (v (j * 2 + 1))) n ≤ 1 := cntP_one fun a b ha1 hb1 e1 e2 => by
        simp only [Bool.and_eq_true, inB_iff] at e1 e2
        have := ha a b ha1 hb1 e1.1 e2.1
        simp only [ov, decide_eq_false_iff_not] at this
        omega
      have h4 := cntP_split σ (fun j => inB p (v (j * 2)) (v (j * 2 + 1))) n
      simp only [List.length_cons]
      omega
theorem few_at {v : Nat → Int} {n : Nat} (hv : ∀ k, k < n → v (k * 2) ≤ v (k * 2 + 1)) : ∀ (f : Nat) (d : Nat → Bool), und d n < f → ∃ σ : Nat → Bool, (∀ j, σ j = true → j < n ∧ d j = false) ∧ apartP v n σ ∧ cntP σ n = (few v n f d).length := by
  intro f
  induction f with
  | zero => intro d h; omega
  | succ f ih =>
    intro d hu
    rcases Int.lt_or_le (nx v d n) 0 with h | h
    · exact ⟨fun _ => false, fun j e => by simp at e, fun a b _ _ e => by simp at e, by rw [few_stop h, cntP_zero fun _ _ => rfl]; rfl⟩
    · obtain ⟨I, hI⟩ : ∃ I : Nat, nx v d n = I := ⟨(nx v d n).toNat, by omega⟩
      have hb := nx_bd v d n
      have hIn : I < n := by omega
      have hmin := nx_min hI
      have hvI := hv I hIn
      have h1 := und_hit hI (hv I (by omega))
      rw [few_go hI]
      generalize hp : v (I * 2 + 1) = p at *
      obtain ⟨σ, s1, s2, s3⟩ := ih (hit v p d n) (by omega)
      have sI : σ I = false := by
        cases e : σ I with
        | false => rfl
        | true =>
          have := (s1 I e).2
          simp only [hit, hIn, if_true, Bool.or_eq_false_iff] at this
          have h9 : inB p (v (I * 2)) (v (I * 2 + 1)) = true := inB_iff.2 (by omega)
          rw [h9] at this
          exact absurd this.2 (by simp)
      have far : ∀ j, σ j = true → j < n ∧ d j = false ∧ p < v (j * 2) := by
        intro j e
        obtain ⟨hj, e2⟩ := s1 j e
        simp only [hit, hj, if_true, Bool.or_eq_false_iff] at e2
        have h5 := hmin j hj e2.1
        have h6 := inB_not.1 e2.2
        exact ⟨hj, e2.1, by omega⟩
      refine ⟨fun j => (j == I) || σ j, ?_, ?_, ?_⟩
      · intro j e
        simp only [Bool.or_eq_true, beq_iff_eq] at e
        rcases e with rfl | e
        · exact ⟨hIn, by have := hb.2.2 (by omega); rw [hI] at this; simpa using this⟩
        · exact ⟨(far j e).1, (far j e).2.1⟩
      · intro a b ha1 hb1 e1 e2
        simp only [Bool.or_eq_true, beq_iff_eq] at e1 e2
        rcases e1 with rfl | e1
        · rcases e2 with rfl | e2
          · omega
          · have := (far b e2).2.2
            simp only [ov, decide_eq_false_iff_not]
            omega
        · rcases e2 with rfl | e2
          · have := (far a e1).2.2
            simp only [ov, decide_eq_false_iff_not]
            omega
          · exact s2 a b ha1 hb1 e1 e2
      · rw [cntP_add hIn sI, s3]; rfl
/-- The number whose bits are the set σ below k. -/
def mk (σ : Nat → Bool) : Nat → Nat
  | 0 => 0
  | k + 1 => (if σ k = true then 2 ^ k else 0) + mk σ k
theorem mk_lt (σ : Nat → Bool) (k : Nat) : mk σ k < 2 ^ k := by
  induction k with
  | zero => simp [mk]
  | succ k ih =>
    have : 2 ^ (k + 1) = 2 ^ k + 2 ^ k := by rw [Nat.pow_succ]; omega
    simp only [mk]; split <;> omega
theorem mk_bt (σ : Nat → Bool) : ∀ (k j : Nat), j < k → bt (mk σ k) j = σ j := by
  intro k
  induction k with
  | zero => intro j hj; omega
  | succ k ih =>
    intro j hj
    have h0 := mk_lt σ k
    rw [bt_test]
    simp only [mk]
    rcases Nat.lt_or_ge j k with h1 | h1
    · rw [← ih j h1, bt_test]
      split
      · exact Nat.testBit_two_pow_add_gt h1 _
      · rw [Nat.zero_add]
    · obtain rfl : j = k := by omega
      split
      · rename_i h2; rw [Nat.testBit_two_pow_add_eq, Nat.testBit_lt_two_pow h0, h2]; rfl
      · rename_i h2; rw [Nat.zero_add, Nat.testBit_lt_two_pow h0]; cases e : σ j with
        | false => rfl
        | true => exact absurd e h2
/-- What the reference counts: no two of the spans below a that are in s overlap. -/
def freeB (v : Nat → Int) (s a b : Nat) : Bool := allN (fun j => !(bt s j && ov v a j)) b
def freeU (v : Nat → Int) (s k : Nat) : Bool := allN (fun a => !bt s a || freeB v s a a) k
theorem freeU_iff {v : Nat → Int} {s n : Nat} : freeU v s n = true ↔ apartP v n (bt s) := by
  unfold freeU apartP
  rw [allN_iff]
  constructor
  · intro h a b ha hb e1 e2
    have h1 := h a ha
    rw [e1] at h1
    simp only [Bool.not_true, Bool.false_or, freeB] at h1
    have h2 := allN_iff.1 h1 b hb
    rw [e2] at h2
    simpa using h2
  · intro h a ha
    cases e : bt s a with
    | false => rfl
    | true =>
      simp only [Bool.not_true, Bool.false_or, freeB]
      refine allN_iff.2 fun b hb => ?_
      cases e2 : bt s b with
      | false => rfl
      | true => simp [h a b ha hb e e2]
def bestN (v : Nat → Int) (n : Nat) : Nat → Nat
  | 0 => 0
  | s + 1 => if freeU v s n = true then max (bestN v n s) (cntP (bt s) n) else bestN v n s
theorem bestN_ub {v : Nat → Int} {n s t : Nat} (h : t < s) (hf : freeU v t n = true) : cntP (bt t) n ≤ bestN v n s := by
  induction s with
  | zero => omega
  | succ s ih =>
    simp only [bestN]
    rcases Nat.lt_or_ge t s with h1 | h1
    · have := ih h1; split <;> omega
    · obtain rfl : t = s := by omega
      rw [if_pos hf]; omega
theorem bestN_at (v : Nat → Int) (n s : Nat) : bestN v n s = 0 ∨ ∃ t, freeU v t n = true ∧ cntP (bt t) n = bestN v n s := by
  induction s with
  | zero => exact Or.inl rfl
  | succ s ih =>
    simp only [bestN]
    split
    · rename_i h
      rcases Nat.lt_or_ge (bestN v n s) (cntP (bt s) n) with h1 | h1
      · exact Or.inr ⟨s, h, by omega⟩
      · rw [Nat.max_eq_left h1]; exact ih
    · exact ih
theorem bestN_le (v : Nat → Int) (n s : Nat) : bestN v n s ≤ n := by
  rcases bestN_at v n s with h | ⟨t, _, h⟩
  · omega
  · rw [← h]; exact cntP_le _ _
theorem best_few {v : Nat → Int} {n : Nat} (hn : n ≤ 12) (hv : ∀ k, k < n → v (k * 2) ≤ v (k * 2 + 1)) : bestN v n (2 ^ n) = (few v n 13 fun _ => false).length := by
  have hu : und (fun _ => false) n < 13 := by have := und_le (fun _ => false) n; omega
  apply Nat.le_antisymm
  · rcases bestN_at v n (2 ^ n) with h | ⟨t, hf, h⟩
    · omega
    · rw [← h]; exact few_ub hv 13 _ _ hu (fun _ _ _ => rfl) (freeU_iff.1 hf)
  · obtain ⟨σ, s1, s2, s3⟩ := few_at hv 13 _ hu
    have hb := mk_bt σ n
    rw [← s3, ← cntP_congr hb]
    exact bestN_ub (mk_lt σ n) (freeU_iff.2 fun a b ha hb1 e1 e2 => s2 a b ha hb1 (by rw [← hb a ha]; exact e1) (by rw [← hb b (by omega)]; exact e2))
end Go.Proofs.Ytjkakoflfhjodaa
