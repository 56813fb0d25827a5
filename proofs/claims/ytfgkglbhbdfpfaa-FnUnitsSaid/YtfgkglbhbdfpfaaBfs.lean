/- A search in width over the units: what its records say at each moment. Plain Lean; no program. -/
import Derived.Test.YtfgkglbhbdfpfaaRatios
namespace Go.Proofs.Ytfgkglbhbdfpfaa
set_option linter.unusedSimpArgs false
set_option linter.unusedVariables false
/-- A unit that was found: the unit, the way to it, the place of the unit that it was found from, the ratio. -/
structure Rec where
  x : Int
  p : List Int
  q : Nat
  e : Nat
/-- The other end of ratio i, seen from a unit. -/
def nxt (v : Nat → Int) (y : Int) (i : Nat) : Option Int := if v (i * 4 + 1) = y then some (v (i * 4)) else if v (i * 4) = y then some (v (i * 4 + 1)) else none
/-- The records before ratio i is looked at from the unit at place h. -/
structure Bfs (v : Nat → Int) (n : Nat) (a : Int) (h i : Nat) (R : List Rec) : Prop where
  head : R[0]? = some ⟨a, [], 0, 0⟩
  key : ∀ (j k : Nat) (r s : Rec), R[j]? = some r → R[k]? = some s → r.x = s.x → j = k
  dom : ∀ (j : Nat) (r : Rec), R[j]? = some r → 0 ≤ r.x ∧ r.x ≤ 9
  par : ∀ (j : Nat) (r : Rec), R[j]? = some r → 0 < j → ∃ s, R[r.q]? = some s ∧ r.q < j ∧ r.e < n ∧ (r.q < h ∨ r.q = h ∧ r.e < i) ∧ nxt v s.x r.e = some r.x ∧ r.p = s.p ++ [(r.e : Int)]
  ord : ∀ (j k : Nat) (r s : Rec), 0 < j → j < k → R[j]? = some r → R[k]? = some s → r.q < s.q ∨ r.q = s.q ∧ r.e < s.e
  full : ∀ (q e : Nat) (s : Rec) (x : Int), R[q]? = some s → e < n → (q < h ∨ q = h ∧ e < i) → nxt v s.x e = some x → ∃ j r, R[j]? = some r ∧ r.x = x ∧ (j = 0 ∨ r.q < q ∨ r.q = q ∧ r.e ≤ e)
theorem Bfs.start (v : Nat → Int) (n : Nat) {a : Int} (ha : 0 ≤ a ∧ a ≤ 9) : Bfs v n a 0 0 [⟨a, [], 0, 0⟩] := by
  refine ⟨rfl, ?_, ?_, ?_, ?_, ?_⟩
  · intro j k r s hj hk _
    have := (List.getElem?_eq_some_iff.1 hj).1
    have := (List.getElem?_eq_some_iff.1 hk).1
    simp at *; omega
  · intro j r hj
    match j, hj with
    | 0, hj => simp at hj; subst hj; exact ha
  · intro j r hj h0
    have := (List.getElem?_eq_some_iff.1 hj).1
    simp at this; omega
  · intro j k r s h0 hjk hj hk
    have := (List.getElem?_eq_some_iff.1 hk).1
    simp at this; omega
  · intro q e s x hq he h; omega
theorem Bfs.next {v : Nat → Int} {n : Nat} {a : Int} {h : Nat} {R : List Rec} (H : Bfs v n a h n R) : Bfs v n a (h + 1) 0 R := by
  refine ⟨H.head, H.key, H.dom, fun j r hj h0 => ?_, H.ord, fun q e s x hq he hl hn => ?_⟩
  · obtain ⟨s, h1, h2, h3, h4, h5⟩ := H.par j r hj h0
    exact ⟨s, h1, h2, h3, by omega, h5⟩
  · exact H.full q e s x hq he (by omega) hn
/-- Ratio i leads nowhere, or to a unit that is known. -/
theorem Bfs.skip {v : Nat → Int} {n : Nat} {a : Int} {h i : Nat} {R : List Rec} (H : Bfs v n a h i R) {r : Rec} (hr : R[h]? = some r) (hk : ∀ x, nxt v r.x i = some x → ∃ (j : Nat) (s : Rec), R[j]? = some s ∧ s.x = x) : Bfs v n a h (i + 1) R := by
  refine ⟨H.head, H.key, H.dom, fun j s hj h0 => ?_, H.ord, fun q e s x hq he hl hn => ?_⟩
  · obtain ⟨s, h1, h2, h3, h4, h5⟩ := H.par j s hj h0
    exact ⟨s, h1, h2, h3, by omega, h5⟩
  · by_cases hc : q < h ∨ q = h ∧ e < i
    · exact H.full q e s x hq he hc hn
    · have h1 : q = h := by omega
      have h2 : e = i := by omega
      subst h1
      subst h2
      have : s = r := Option.some.inj (hq.symm.trans hr)
      subst this
      obtain ⟨j, t, hj, hx⟩ := hk x hn
      refine ⟨j, t, hj, hx, ?_⟩
      rcases Nat.eq_zero_or_pos j with h0 | h0
      · exact Or.inl h0
      · obtain ⟨s', _, _, _, h4, _⟩ := H.par j t hj h0
        omega
/-- Ratio i leads to a new unit. -/
theorem Bfs.found {v : Nat → Int} {n : Nat} {a : Int} {h i : Nat} {R : List Rec} (H : Bfs v n a h i R) {r : Rec} (hr : R[h]? = some r) {x : Int} (hx : nxt v r.x i = some x) (hd : 0 ≤ x ∧ x ≤ 9) (hi : i < n) (hk : ∀ (j : Nat) (s : Rec), R[j]? = some s → s.x ≠ x) :
    Bfs v n a h (i + 1) (R ++ [⟨x, r.p ++ [(i : Int)], h, i⟩]) := by
  have hh : h < R.length := (List.getElem?_eq_some_iff.1 hr).1
  have old : ∀ (j : Nat) (s : Rec), R[j]? = some s → (R ++ [⟨x, r.p ++ [(i : Int)], h, i⟩])[j]? = some s := fun j s hj => by
    rw [List.getElem?_append_left (List.getElem?_eq_some_iff.1 hj).1]; exact hj
  have new : ∀ (j : Nat) (s : Rec), (R ++ [⟨x, r.p ++ [(i : Int)], h, i⟩])[j]? = some s → R[j]? = some s ∨ j = R.length ∧ s = ⟨x, r.p ++ [(i : Int)], h, i⟩ := fun j s hj => by
    rcases Nat.lt_or_ge j R.length with h1 | h1
    · left; rw [List.getElem?_append_left h1] at hj; exact hj
    · right
      rw [List.getElem?_append_right h1] at hj
      have := (List.getElem?_eq_some_iff.1 hj).1
      simp at this
      have h2 : j = R.length := by omega
      subst h2
      simp at hj
      exact ⟨rfl, hj.symm⟩
  refine ⟨old _ _ H.head, ?_, ?_, ?_, ?_, ?_⟩
  · intro j k s t hj hk' hst
    rcases new j s hj with h1 | ⟨h1, rfl⟩ <;> rcases new k t hk' with h2 | ⟨h2, rfl⟩
    · exact H.key j k s t h1 h2 hst
    · exact absurd hst (hk j s h1)
    · exact absurd hst.symm (hk k t h2)
    · omega
  · intro j s hj
    rcases new j s hj with h1 | ⟨h1, rfl⟩
    · exact H.dom j s h1
    · exact hd
  · intro j s hj h0
    rcases new j s hj with h1 | ⟨h1, rfl⟩
    · obtain ⟨t, g1, g2, g3, g4, g5⟩ := H.par j s h1 h0
      exact ⟨t, old _ _ g1, g2, g3, by omega, g5⟩
    · exact ⟨r, old _ _ hr, by simp only; omega, hi, Or.inr ⟨rfl, by simp only; omega⟩, hx, rfl⟩
  · intro j k s t h0 hjk hj hk'
    rcases new k t hk' with h2 | ⟨h2, rfl⟩
    · rcases new j s hj with h1 | ⟨h1, rfl⟩
      · exact H.ord j k s t h0 hjk h1 h2
      · have := (List.getElem?_eq_some_iff.1 h2).1; omega
    · rcases new j s hj with h1 | ⟨h1, rfl⟩
      · obtain ⟨t, _, _, _, g4, _⟩ := H.par j s h1 h0
        simp only; omega
      · omega
  · intro q e s y hq he hl hn
    rcases new q s hq with h1 | ⟨h1, rfl⟩
    · by_cases hc : q < h ∨ q = h ∧ e < i
      · obtain ⟨j, t, g1, g2, g3⟩ := H.full q e s y h1 he hc hn
        exact ⟨j, t, old _ _ g1, g2, g3⟩
      · have e1 : q = h := by omega
        have e2 : e = i := by omega
        subst e1
        subst e2
        have : s = r := Option.some.inj (h1.symm.trans hr)
        subst this
        have : x = y := Option.some.inj (hx.symm.trans hn)
        subst this
        exact ⟨R.length, ⟨x, s.p ++ [(e : Int)], q, e⟩, by simp, rfl, Or.inr (Or.inr ⟨rfl, Nat.le_refl _⟩)⟩
    · omega
/-- A list of different numbers below m has at most m numbers. -/
theorem inj_le : ∀ (m n : Nat) (f : Nat → Nat), (∀ i, i < n → f i < m) → (∀ i j, i < n → j < n → f i = f j → i = j) → n ≤ m
  | 0, n, f, h1, h2 => by
    rcases Nat.eq_zero_or_pos n with h | h
    · omega
    · exact absurd (h1 0 h) (by omega)
  | m + 1, n, f, h1, h2 => by
    by_cases he : ∃ k, k < n ∧ f k = m
    · obtain ⟨k, hk, hf⟩ := he
      have := inj_le m (n - 1) (fun i => if i < k then f i else f (i + 1)) (fun i hi => by
        show (if i < k then f i else f (i + 1)) < m
        split
        · have := h1 i (by omega); have : f i ≠ m := fun e => by have := h2 i k (by omega) hk (by omega); omega
          omega
        · have := h1 (i + 1) (by omega); have : f (i + 1) ≠ m := fun e => by have := h2 (i + 1) k (by omega) hk (by omega); omega
          omega) (fun i j hi hj e => by
        have e : (if i < k then f i else f (i + 1)) = (if j < k then f j else f (j + 1)) := e
        split at e <;> split at e
        · exact h2 i j (by omega) (by omega) e
        · have := h2 i (j + 1) (by omega) (by omega) e; omega
        · have := h2 (i + 1) j (by omega) (by omega) e; omega
        · have := h2 (i + 1) (j + 1) (by omega) (by omega) e; omega)
      omega
    · have := inj_le m n f (fun i hi => by
        have := h1 i hi
        have : f i ≠ m := fun e => he ⟨i, hi, e⟩
        omega) h2
      omega
theorem Bfs.short {v : Nat → Int} {n : Nat} {a : Int} {h i : Nat} {R : List Rec} (H : Bfs v n a h i R) : R.length ≤ 10 := by
  refine inj_le 10 R.length (fun j => ((R[j]?).map fun r => r.x.toNat).getD 0) (fun j hj => ?_) (fun j k hj hk e => ?_)
  · have := H.dom j R[j] (List.getElem?_eq_getElem hj)
    simp [List.getElem?_eq_getElem hj]; omega
  · simp [List.getElem?_eq_getElem hj, List.getElem?_eq_getElem hk] at e
    have h1 := H.dom j R[j] (List.getElem?_eq_getElem hj)
    have h2 := H.dom k R[k] (List.getElem?_eq_getElem hk)
    exact H.key j k _ _ (List.getElem?_eq_getElem hj) (List.getElem?_eq_getElem hk) (by omega)
theorem Bfs.plen {v : Nat → Int} {n : Nat} {a : Int} {h i : Nat} {R : List Rec} (H : Bfs v n a h i R) : ∀ (j : Nat) (r : Rec), R[j]? = some r → r.p.length ≤ j := by
  intro j
  induction j using Nat.strongRecOn with
  | _ j ih =>
    intro r hj
    rcases Nat.eq_zero_or_pos j with h0 | h0
    · subst h0
      rw [H.head] at hj
      injection hj with hj
      rw [← hj]; simp
    · obtain ⟨s, h1, h2, _, _, _, h5⟩ := H.par j r hj h0
      have := ih r.q h2 s h1
      rw [h5]; simp; omega
end Go.Proofs.Ytfgkglbhbdfpfaa
