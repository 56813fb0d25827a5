/- Plain laws on chains of copies: what two copies have in common does not count between them. -/
import Derived.Test.YtgmfpdnjeengoaaWays
namespace Go.Proofs.Ytgmfpdnjeengoaa
open Go.RowKit
set_option linter.unusedSimpArgs false
set_option linter.unusedVariables false
theorem sumN_le {f g : Nat → Int} : ∀ n, (∀ i, i < n → f i ≤ g i) → sumN f n ≤ sumN g n
  | 0, _ => by simp [sumN]
  | n + 1, h => by
    simp only [sumN]
    have h1 := sumN_le n (fun i hi => h i (by omega))
    have h2 := h n (by omega)
    omega
theorem sumN_add (f g : Nat → Int) : ∀ n, sumN (fun j => f j + g j) n = sumN f n + sumN g n
  | 0 => by simp [sumN]
  | n + 1 => by
    simp only [sumN]
    rw [sumN_add f g n]
    omega
theorem sumN_nil : ∀ n, sumN (fun _ => 0) n = 0
  | 0 => rfl
  | n + 1 => by
    simp only [sumN]
    rw [sumN_nil n]
    rfl
theorem sumN_only (f : Nat → Int) (a : Nat) : ∀ n, sumN (fun i => if i = a then f i else 0) n = if a < n then f a else 0
  | 0 => by simp [sumN]
  | n + 1 => by
    simp only [sumN]
    rw [sumN_only f a n]
    (repeat' split) <;> first | omega | (subst_vars; omega)
theorem sumN_shift (f : Nat → Int) : ∀ n, sumN f (n + 1) = f 0 + sumN (fun j => f (j + 1)) n
  | 0 => by simp [sumN]
  | n + 1 => by
    rw [sumN, sumN_shift f n, sumN]
    omega
/-- hasN is membership. -/
theorem hasN_iff {z : Nat → Int} {x : Int} : ∀ {N : Nat}, hasN z x N = true ↔ ∃ j, j < N ∧ z j = x
  | 0 => by simp [hasN]
  | N + 1 => by
    simp only [hasN, Bool.or_eq_true, hasN_iff (N := N), beq_iff_eq, decide_eq_true_eq]
    constructor
    · rintro (⟨j, h1, h2⟩ | h)
      · exact ⟨j, by omega, h2⟩
      · exact ⟨N, by omega, h⟩
    · rintro ⟨j, h1, h2⟩
      rcases Nat.lt_or_ge j N with h | h
      · exact Or.inl ⟨j, h, h2⟩
      · obtain rfl : j = N := by omega
        exact Or.inr h2
theorem hasL_iff {l : List Int} {x : Int} : hasN (fun j => l.getD j 0) x l.length = true ↔ x ∈ l := by
  rw [hasN_iff, List.mem_iff_getElem]
  constructor
  · rintro ⟨j, h1, h2⟩
    exact ⟨j, h1, by simpa [List.getD, List.getElem?_eq_getElem h1] using h2⟩
  · rintro ⟨j, h1, h2⟩
    exact ⟨j, h1, by simpa [List.getD, List.getElem?_eq_getElem h1] using h2⟩
/-- The sum over a list. -/
theorem sumL_cons (v : Nat → Int) (d : Nat) (x : Int) (l : List Int) : sumN (fieldT v (fun j => (x :: l).getD j 0) d) (x :: l).length = v (x.toNat * 3 + d) + sumN (fieldT v (fun j => l.getD j 0) d) l.length := by
  rw [List.length_cons, sumN_shift]
  rfl
def inT (v : Nat → Int) (l : List Int) (i : Nat) : Int := if hasN (fun j => l.getD j 0) i l.length = true then v (i * 3 + 2) else 0
theorem inS_le {v : Nat → Int} {n : Nat} (hv : ∀ i, i < n → 0 ≤ v (i * 3 + 2)) : ∀ l : List Int, (∀ x ∈ l, 0 ≤ x ∧ x < n) → sumN (inT v l) n ≤ sumN (fieldT v (fun j => l.getD j 0) 2) l.length
  | [], _ => by
    have e : sumN (inT v []) n = 0 := by
      rw [← sumN_nil n]
      exact sumN_congr fun j _ => by simp [inT, hasN]
    rw [e]; simp [sumN]
  | x :: l, h => by
    rw [sumL_cons]
    have ih := inS_le hv l (fun y hy => h y (by simp [hy]))
    have hx := h x (by simp)
    have h1 : sumN (inT v (x :: l)) n ≤ sumN (fun i => inT v l i + (if i = x.toNat then v (i * 3 + 2) else 0)) n := by
      refine sumN_le n fun i hi => ?_
      have hvi := hv i hi
      simp only [inT, hasL_iff, List.mem_cons]
      by_cases h2 : (i : Int) ∈ l
      · simp only [h2, or_true, if_true]; split <;> omega
      · by_cases h3 : (i : Int) = x
        · rw [if_pos (Or.inl h3), if_neg h2, if_pos (by omega)]; omega
        · rw [if_neg (by simp [h2, h3]), if_neg h2, if_neg (by omega)]; omega
    rw [sumN_add, sumN_only (fun i => v (i * 3 + 2))] at h1
    rw [if_pos (by omega)] at h1
    omega
theorem abv_le {n : Nat} {v : Nat → Int} (h : ∀ k, k < n → v (k * 3) ≤ (k : Int) - 1) : ∀ (f : Nat) (k : Int), k < n → ∀ x ∈ abv v f k, x ≤ k
  | 0, k, _, x, hx => by simp [abv] at hx
  | f + 1, k, hk, x, hx => by
    rcases (by omega : k < 0 ∨ 0 ≤ k) with h0 | h0
    · rw [abv_stop h0] at hx; simp at hx
    · obtain ⟨K, rfl⟩ := Int.eq_ofNat_of_zero_le h0
      have hK := h K (by omega)
      rw [abv_go] at hx
      rcases List.mem_cons.1 hx with h1 | h1
      · omega
      · have := abv_le h f _ (by omega) x h1
        omega
theorem abv_fuel {n : Nat} {v : Nat → Int} (h : ∀ k, k < n → v (k * 3) ≤ (k : Int) - 1) : ∀ (f : Nat) (k : Int), k < n → k < f → abv v f k = abv v (f + 1) k
  | 0, k, _, hk => by rw [abv_stop (by omega), abv_stop (by omega)]
  | f + 1, k, hn, hk => by
    rcases (by omega : k < 0 ∨ 0 ≤ k) with h0 | h0
    · rw [abv_stop h0, abv_stop h0]
    · obtain ⟨K, rfl⟩ := Int.eq_ofNat_of_zero_le h0
      have hK := h K (by omega)
      rw [abv_go, abv_go, abv_fuel h f _ (by omega) (by omega)]
section
variable {n : Nat} {v : Nat → Int} (h : chainB n v = true)
include h
theorem way_in {a : Nat} (ha : a < n) : abvL n v a = (a : Int) :: abv v 12 (v (a * 3)) := by
  rw [abvL_in h (by rw [inB_iff]; omega), abv_go]
theorem way_parent {a : Nat} (ha : a < n) (hp : 0 ≤ v (a * 3)) : abvL n v a = (a : Int) :: abvL n v (v (a * 3)) := by
  obtain ⟨_, h12, hv⟩ := chainB_inv h
  have hva := hv a ha
  rw [way_in h ha, abvL_in h (by rw [inB_iff]; omega), abv_fuel (n := n) (fun k hk => by have := hv k hk; omega) 12 _ (by omega) (by omega)]
theorem way_root {a : Nat} (ha : a < n) (hp : v (a * 3) < 0) : abvL n v a = [(a : Int)] := by
  rw [way_in h ha, abv_stop hp]
theorem way_mem {a : Nat} (ha : a < n) : ∀ x ∈ abvL n v a, 0 ≤ x ∧ x < n := by
  obtain ⟨_, _, hv⟩ := chainB_inv h
  rw [abvL_in h (by rw [inB_iff]; omega)]
  exact abv_el (fun k hk => by have := hv k hk; omega) 13 a (by omega)
theorem df_eq {a b : Nat} (ha : a < n) (hb : b < n) : dfV n v a b = sumN (dfT v (zL n v a) (zL n v b) (abvL n v a).length (abvL n v b).length) n := by
  unfold dfV
  rw [if_neg]
  rw [way_in h ha, way_in h hb]
  simp
theorem df_nonneg {a b : Nat} (ha : a < n) (hb : b < n) : 0 ≤ dfV n v a b ∧ dfV n v a b ≤ 12000 := by
  obtain ⟨_, h12, hv⟩ := chainB_inv h
  rw [df_eq h ha hb]
  have := dfS_bd (v := v) (x := zL n v a) (y := zL n v b) (N := (abvL n v a).length) (M := (abvL n v b).length) (n := n) (fun i hi => by have := hv i hi; omega) (Nat.le_refl n)
  omega
theorem df_sym {a b : Nat} (ha : a < n) (hb : b < n) : dfV n v a b = dfV n v b a := by
  rw [df_eq h ha hb, df_eq h hb ha]
  exact sumN_congr fun i _ => by simp only [dfT, eq_comm]
theorem df_self {a : Nat} (ha : a < n) : dfV n v a a = 0 := by
  rw [df_eq h ha ha, ← sumN_nil n]
  exact sumN_congr fun i _ => by simp [dfT]
theorem df_tri {a b c : Nat} (ha : a < n) (hb : b < n) (hc : c < n) : dfV n v a b ≤ dfV n v a c + dfV n v c b := by
  obtain ⟨_, h12, hv⟩ := chainB_inv h
  rw [df_eq h ha hb, df_eq h ha hc, df_eq h hc hb, ← sumN_add]
  refine sumN_le n fun i hi => ?_
  have := hv i hi
  simp only [dfT]
  generalize hasN (zL n v a) i (abvL n v a).length = x
  generalize hasN (zL n v b) i (abvL n v b).length = y
  generalize hasN (zL n v c) i (abvL n v c).length = z
  cases x <;> cases y <;> cases z <;> simp <;> omega
theorem df_le {a b : Nat} (ha : a < n) (hb : b < n) : dfV n v a b ≤ erV n v a + erV n v b := by
  obtain ⟨_, h12, hv⟩ := chainB_inv h
  have e : ∀ c, c < n → sumN (inT v (abvL n v c)) n ≤ erV n v c := fun c hc => by
    unfold erV
    rw [if_neg (by rw [way_in h hc]; simp)]
    exact inS_le (fun i hi => by have := hv i hi; omega) _ (way_mem h hc)
  have e1 := e a ha
  have e2 := e b hb
  have e3 : dfV n v a b ≤ sumN (inT v (abvL n v a)) n + sumN (inT v (abvL n v b)) n := by
    rw [df_eq h ha hb, ← sumN_add]
    refine sumN_le n fun i hi => ?_
    have := hv i hi
    simp only [dfT, inT]
    rw [show zL n v a = fun j => (abvL n v a).getD j 0 from rfl, show zL n v b = fun j => (abvL n v b).getD j 0 from rfl]
    generalize hasN (fun j => (abvL n v a).getD j 0) i (abvL n v a).length = x
    generalize hasN (fun j => (abvL n v b).getD j 0) i (abvL n v b).length = y
    cases x <;> cases y <;> simp <;> omega
  omega
theorem df_parent {a : Nat} (ha : a < n) (hp : 0 ≤ v (a * 3)) : dfV n v a (v (a * 3)) = v (a * 3 + 2) := by
  obtain ⟨_, h12, hv⟩ := chainB_inv h
  have hva := hv a ha
  obtain ⟨P, hP⟩ := Int.eq_ofNat_of_zero_le hp
  have hw := way_parent h ha hp
  rw [hP] at hw hva ⊢
  rw [df_eq h ha (by omega)]
  have hn : ¬ (a : Int) ∈ abvL n v (P : Int) := by
    intro hm
    rw [abvL_in h (by rw [inB_iff]; omega)] at hm
    have := abv_le (n := n) (fun k hk => by have := hv k hk; omega) 13 (P : Int) (by omega) _ hm
    omega
  have e : sumN (dfT v (zL n v a) (zL n v P) (abvL n v a).length (abvL n v P).length) n = sumN (fun i => if i = a then v (i * 3 + 2) else 0) n := by
    refine sumN_congr fun i hi => ?_
    simp only [dfT]
    have i1 : hasN (zL n v a) i (abvL n v a).length = true ↔ (i : Int) ∈ abvL n v a := hasL_iff
    have i2 : hasN (zL n v P) i (abvL n v P).length = true ↔ (i : Int) ∈ abvL n v (P : Int) := hasL_iff
    rw [hw, List.mem_cons] at i1
    by_cases hia : i = a
    · subst hia
      rw [if_pos rfl, if_neg]
      intro e
      have := i1.2 (Or.inl rfl)
      rw [← hw, e] at this
      exact hn (i2.1 this)
    · rw [if_neg hia, if_pos]
      rw [Bool.eq_iff_iff, i2, hw, i1]
      constructor
      · rintro (h1 | h1)
        · omega
        · exact h1
      · exact Or.inr
  rw [e, sumN_only (fun i => v (i * 3 + 2)), if_pos ha]
theorem wt_parent {a : Nat} (ha : a < n) (hp : 0 ≤ v (a * 3)) : wtV n v a = wtV n v (v (a * 3)) + v (a * 3 + 1) := by
  unfold wtV
  rw [show zL n v a = fun j => (abvL n v a).getD j 0 from rfl, show zL n v (v (a * 3)) = fun j => (abvL n v (v (a * 3))).getD j 0 from rfl, way_parent h ha hp, sumL_cons]
  simp only [Int.toNat_natCast]
  omega
theorem wt_root {a : Nat} (ha : a < n) (hp : v (a * 3) < 0) : wtV n v a = v (a * 3 + 1) := by
  unfold wtV
  rw [show zL n v a = fun j => (abvL n v a).getD j 0 from rfl, way_root h ha hp, sumL_cons]
  simp [sumN]
omit h in
theorem dep_ge : ∀ (m a : Nat), a < m → (abvL n v a).length ≤ depN n v m
  | 0, a, h => by omega
  | m + 1, a, h => by
    simp only [depN]
    rcases Nat.lt_or_ge a m with h1 | h1
    · have := dep_ge m a h1; omega
    · obtain rfl : a = m := by omega
      omega
theorem er_bd {a : Nat} (ha : a < n) : 0 ≤ erV n v a ∧ erV n v a ≤ 13000 := by
  obtain ⟨_, h12, hv⟩ := chainB_inv h
  unfold erV
  rw [if_neg (by rw [way_in h ha]; simp)]
  have hb := abvL_bd n v a
  have he := abvL_el n v a
  have := sumN_bd (f := fieldT v (zL n v a) 2) (n := (abvL n v a).length) (a := 0) (b := 1000) (fun j hj => by
    have h1 := he j hj
    have h2 := hv (zL n v a j).toNat (by omega)
    simp only [fieldT]
    omega)
  omega
theorem wt_bd {a : Nat} (ha : a < n) : -13000000 ≤ wtV n v a ∧ wtV n v a ≤ 13000000 := by
  obtain ⟨_, h12, hv⟩ := chainB_inv h
  unfold wtV
  have hb := abvL_bd n v a
  have he := abvL_el n v a
  have := sumN_bd (f := fieldT v (zL n v a) 1) (n := (abvL n v a).length) (a := -1000000) (b := 1000000) (fun j hj => by
    have h1 := he j hj
    have h2 := hv (zL n v a j).toNat (by omega)
    simp only [fieldT]
    omega)
  omega
end
end Go.Proofs.Ytgmfpdnjeengoaa
