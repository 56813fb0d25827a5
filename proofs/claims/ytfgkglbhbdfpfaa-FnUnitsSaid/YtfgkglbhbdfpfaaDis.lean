/- The distances of units: what they say at each moment, and how they meet the search in width. Plain Lean; no program. -/
import Derived.Test.YtfgkglbhbdfpfaaBfs
namespace Go.Proofs.Ytfgkglbhbdfpfaa
set_option linter.unusedSimpArgs false
set_option linter.unusedVariables false
/-- Is a unit. -/
def U9 (x : Int) : Prop := 0 ≤ x ∧ x ≤ 9
structure DInv (v : Nat → Int) (n : Nat) (t : Int) (m k : Nat) (d : Nat → Int) : Prop where
  zero : d t.toNat = 0
  rng : ∀ x, U9 x → -1 ≤ d x.toNat ∧ d x.toNat ≤ (m : Int) + 1
  uniq : ∀ x, U9 x → d x.toNat = 0 → x = t
  back : ∀ x (l : Nat), U9 x → d x.toNat = (l : Int) + 1 → l ≤ m ∧ ∃ e y, e < n ∧ nxt v x e = some y ∧ U9 y ∧ d y.toNat = l
  full : ∀ x e y, U9 x → e < n → nxt v x e = some y → 0 ≤ d x.toNat → (d x.toNat < m ∨ d x.toNat = m ∧ e < k) → 0 ≤ d y.toNat ∧ d y.toNat ≤ d x.toNat + 1
theorem DInv.start (v : Nat → Int) (n : Nat) {t : Int} (ht : U9 t) {d : Nat → Int} (h : ∀ j, j < 10 → d j = if j = t.toNat then 0 else -1) : DInv v n t 0 0 d := by
  have hx : ∀ x, U9 x → d x.toNat = if x = t then 0 else -1 := fun x hx => by
    unfold U9 at hx ht
    rw [h x.toNat (by omega)]
    by_cases e : x = t
    · simp [e]
    · rw [if_neg (by omega), if_neg e]
  refine ⟨by rw [hx t ht]; simp, fun x h1 => ?_, fun x h1 h2 => ?_, fun x l h1 h2 => ?_, fun x e y h1 h2 h3 h4 h5 => ?_⟩
  · rw [hx x h1]; split <;> omega
  · rw [hx x h1] at h2; split at h2
    · assumption
    · omega
  · rw [hx x h1] at h2; split at h2 <;> omega
  · omega
theorem DInv.next {v : Nat → Int} {n : Nat} {t : Int} {m : Nat} {d : Nat → Int} (H : DInv v n t m n d) : DInv v n t (m + 1) 0 d := by
  refine ⟨H.zero, fun x h => by have := H.rng x h; omega, H.uniq, fun x l h1 h2 => ?_, fun x e y h1 h2 h3 h4 h5 => ?_⟩
  · obtain ⟨a, b⟩ := H.back x l h1 h2
    exact ⟨by omega, b⟩
  · exact H.full x e y h1 h2 h3 h4 (by omega)
theorem DInv.same {v : Nat → Int} {n : Nat} {t : Int} {m k : Nat} {d : Nat → Int} (H : DInv v n t m k d) (hs : ∀ x y, nxt v x k = some y → d x.toNat = m → 0 ≤ d y.toNat ∧ U9 y) : DInv v n t m (k + 1) d := by
  refine ⟨H.zero, H.rng, H.uniq, H.back, fun x e y h1 h2 h3 h4 h5 => ?_⟩
  by_cases hc : d x.toNat < m ∨ d x.toNat = m ∧ e < k
  · exact H.full x e y h1 h2 h3 h4 hc
  · have he : e = k := by omega
    subst he
    have hm : d x.toNat = m := by omega
    obtain ⟨h6, h7⟩ := hs x y h3 hm
    have := H.rng y h7
    exact ⟨h6, by omega⟩
theorem nxt_sym {v : Nat → Int} {x y : Int} {k : Nat} (h : nxt v x k = some y) : nxt v y k = some x ∧ (x = v (k * 4) ∧ y = v (k * 4 + 1) ∨ x = v (k * 4 + 1) ∧ y = v (k * 4)) := by
  unfold nxt at h ⊢
  split at h
  · rename_i h1
    injection h with h
    by_cases h2 : v (k * 4 + 1) = y
    · rw [if_pos h2]; exact ⟨by rw [← h1, h, h2], by omega⟩
    · rw [if_neg h2, if_pos h, h1]; exact ⟨rfl, by omega⟩
  · split at h
    · rename_i h1 h2
      injection h with h
      rw [if_pos h, h2]; exact ⟨rfl, by omega⟩
    · cases h
theorem DInv.set {v : Nat → Int} {n : Nat} {t : Int} {m k : Nat} {d d' : Nat → Int} (H : DInv v n t m k d) (hk : k < n) {z y : Int} (hz : U9 z) (hy : U9 y) (hn : nxt v z k = some y) (hdz : d z.toNat < 0) (hdy : d y.toNat = m)
    (e1 : d' z.toNat = (m : Int) + 1) (e2 : ∀ x, U9 x → x ≠ z → d' x.toNat = d x.toNat) (hU : ∀ x e y, U9 x → e < n → nxt v x e = some y → U9 y) (ht : U9 t) : DInv v n t m (k + 1) d' := by
  have hzt : t ≠ z := fun e => by have := H.zero; rw [e] at this; omega
  refine ⟨?_, fun x h1 => ?_, fun x h1 h2 => ?_, fun x l h1 h2 => ?_, fun x e w h1 h2 h3 h4 h5 => ?_⟩
  · rw [e2 t ht hzt]; exact H.zero
  · by_cases h : x = z
    · subst h; rw [e1]; omega
    · rw [e2 x h1 h]; exact H.rng x h1
  · by_cases h : x = z
    · subst h; rw [e1] at h2; omega
    · rw [e2 x h1 h] at h2; exact H.uniq x h1 h2
  · by_cases h : x = z
    · subst h
      rw [e1] at h2
      have hl : l = m := by omega
      subst hl
      have hyx : y ≠ x := fun e => by rw [e] at hdy; omega
      exact ⟨Nat.le_refl _, k, y, hk, hn, hy, by rw [e2 y hy hyx]; exact hdy⟩
    · rw [e2 x h1 h] at h2
      obtain ⟨a, e, w, b1, b2, b3, b4⟩ := H.back x l h1 h2
      have hwz : w ≠ z := fun e => by rw [e] at b4; omega
      exact ⟨a, e, w, b1, b2, b3, by rw [e2 w b3 hwz]; exact b4⟩
  · have hw := hU x e w h1 h2 h3
    by_cases h : x = z
    · subst h; rw [e1] at h5; omega
    · rw [e2 x h1 h] at h4 h5 ⊢
      by_cases hc : d x.toNat < m ∨ d x.toNat = m ∧ e < k
      · have h6 := H.full x e w h1 h2 h3 h4 hc
        have hwz : w ≠ z := fun e => by rw [e] at h6; omega
        rw [e2 w hw hwz]; exact h6
      · have he : e = k := by omega
        subst he
        by_cases hwz : w = z
        · subst hwz; rw [e1]; omega
        · rw [e2 w hw hwz]
          have h7 := (nxt_sym h3).2
          have h8 := (nxt_sym hn).2
          exfalso
          omega
theorem DInv.least {v : Nat → Int} {n : Nat} {t : Int} {m k : Nat} {d : Nat → Int} (H : DInv v n t m k d) : ∀ (q : Nat) x, U9 x → d x.toNat = q → ∀ l, l ≤ q → ∃ y, U9 y ∧ d y.toNat = (l : Int)
  | 0, x, hx, hd, l, hl => ⟨x, hx, by rw [hd]; omega⟩
  | q + 1, x, hx, hd, l, hl => by
    rcases Nat.lt_or_ge l (q + 1) with h | h
    · obtain ⟨_, e, y, _, _, hy, hdy⟩ := H.back x q hx (by rw [hd]; omega)
      exact H.least q y hy hdy l (by omega)
    · exact ⟨x, hx, by rw [hd]; omega⟩
theorem DInv.nine {v : Nat → Int} {n : Nat} {t : Int} {m k : Nat} {d : Nat → Int} (H : DInv v n t m k d) {x : Int} (hx : U9 x) : d x.toNat ≤ 9 := by
  rcases Int.lt_or_le 9 (d x.toNat) with h | h
  · exfalso
    have h10 := H.least (d x.toNat).toNat x hx (by omega)
    have hf : ∀ l : Nat, l < 11 → ∃ y, U9 y ∧ d y.toNat = (l : Int) := fun l hl => h10 l (by omega)
    have := inj_le 10 11 (fun l => if h : l < 11 then (Classical.choose (hf l h)).toNat else 0) (fun l hl => by
      have h1 := (Classical.choose_spec (hf l hl)).1
      show (if h : l < 11 then (Classical.choose (hf l h)).toNat else 0) < 10
      rw [dif_pos hl]
      generalize Classical.choose (hf l hl) = y at h1
      unfold U9 at h1; omega) (fun i j hi hj e => by
      have h1 := (Classical.choose_spec (hf i hi)).2
      have h2 := (Classical.choose_spec (hf j hj)).2
      have e : (if h : i < 11 then (Classical.choose (hf i h)).toNat else 0) = (if h : j < 11 then (Classical.choose (hf j h)).toNat else 0) := e
      rw [dif_pos hi, dif_pos hj] at e
      rw [e] at h1
      omega)
    omega
  · exact h
/-- The distances of all units from t. -/
structure Dist (v : Nat → Int) (n : Nat) (t : Int) (d : Nat → Int) : Prop where
  zero : d t.toNat = 0
  rng : ∀ x, U9 x → -1 ≤ d x.toNat ∧ d x.toNat ≤ 9
  uniq : ∀ x, U9 x → d x.toNat = 0 → x = t
  back : ∀ x (l : Nat), U9 x → d x.toNat = (l : Int) + 1 → ∃ e y, e < n ∧ nxt v x e = some y ∧ U9 y ∧ d y.toNat = l
  full : ∀ x e y, U9 x → e < n → nxt v x e = some y → 0 ≤ d x.toNat → 0 ≤ d y.toNat ∧ d y.toNat ≤ d x.toNat + 1
theorem DInv.done {v : Nat → Int} {n : Nat} {t : Int} {d : Nat → Int} (H : DInv v n t 10 0 d) : Dist v n t d :=
  ⟨H.zero, fun x h => ⟨(H.rng x h).1, H.nine h⟩, H.uniq, fun x l h1 h2 => (H.back x l h1 h2).2, fun x e y h1 h2 h3 h4 => H.full x e y h1 h2 h3 h4 (by have := H.nine h1; omega)⟩
theorem Dist.iff {v : Nat → Int} {n : Nat} {a t : Int} {d : Nat → Int} {R : List Rec} (D : Dist v n t d) (H : Bfs v n a R.length 0 R) (ha : U9 a) (ht : U9 t) : (∃ (j : Nat) (r : Rec), R[j]? = some r ∧ r.x = t) ↔ 0 ≤ d a.toNat := by
  constructor
  · rintro ⟨j, r, hj, hx⟩
    have key : ∀ (j : Nat) (r : Rec), R[j]? = some r → 0 ≤ d r.x.toNat → 0 ≤ d a.toNat := by
      intro j
      induction j using Nat.strongRecOn with
      | _ j ih =>
        intro r hj hd
        rcases Nat.eq_zero_or_pos j with h0 | h0
        · subst h0
          rw [H.head] at hj
          injection hj with hj
          rw [← hj] at hd; exact hd
        · obtain ⟨s, h1, h2, h3, _, h4, _⟩ := H.par j r hj h0
          exact ih r.q h2 s h1 (D.full r.x r.e s.x (H.dom j r hj) h3 (nxt_sym h4).1 hd).1
    exact key j r hj (by rw [hx, D.zero]; exact Int.le_refl _)
  · intro h
    have key : ∀ (l : Nat) (q : Nat) (s : Rec), R[q]? = some s → d s.x.toNat = (l : Int) → ∃ (j : Nat) (r : Rec), R[j]? = some r ∧ r.x = t := by
      intro l
      induction l with
      | zero => intro q s hq hd; exact ⟨q, s, hq, D.uniq s.x (H.dom q s hq) (by simpa using hd)⟩
      | succ l ih =>
        intro q s hq hd
        obtain ⟨e, y, he, hn, hy, hdy⟩ := D.back s.x l (H.dom q s hq) (by rw [hd]; omega)
        obtain ⟨j, r, hj, hx, _⟩ := H.full q e s y hq he (Or.inl (List.getElem?_eq_some_iff.1 hq).1) hn
        exact ih j r hj (by rw [hx]; exact hdy)
    exact key (d a.toNat).toNat 0 _ H.head (by simp only; omega)
theorem Dist.half {v : Nat → Int} {n : Nat} {t : Int} {d d' : Nat → Int} (D : Dist v n t d) (D' : Dist v n t d') : ∀ (l : Nat) x, U9 x → d x.toNat = (l : Int) → 0 ≤ d' x.toNat
  | 0, x, hx, h => by rw [D.uniq x hx (by simpa using h), D'.zero]; exact Int.le_refl _
  | l + 1, x, hx, h => by
    obtain ⟨e, y, he, hn, hy, hd⟩ := D.back x l hx (by rw [h]; omega)
    exact (D'.full y e x hy he (nxt_sym hn).1 (D.half D' l y hy hd)).1
theorem DInv.step {v : Nat → Int} {n : Nat} {t : Int} {m k : Nat} {d : Nat → Int} (H : DInv v n t m k d) (hk : k < n) (hU : ∀ x e y, U9 x → e < n → nxt v x e = some y → U9 y) (hU2 : ∀ x e y, e < n → nxt v x e = some y → U9 x) (ht : U9 t) : ∃ d', DInv v n t m (k + 1) d' := by
  by_cases h : ∃ z y, U9 z ∧ nxt v z k = some y ∧ d z.toNat < 0 ∧ d y.toNat = m
  · obtain ⟨z, y, hz, hn, h1, h2⟩ := h
    exact ⟨fun j => if j = z.toNat then (m : Int) + 1 else d j, H.set hk hz (hU z k y hz hk hn) hn h1 h2 (by simp) (fun x hx hne => by unfold U9 at hx hz; show (if x.toNat = z.toNat then (m : Int) + 1 else d x.toNat) = d x.toNat; rw [if_neg (by omega)]) hU ht⟩
  · refine ⟨d, H.same fun x y hn hx => ?_⟩
    have hxx := hU2 x k y hk hn
    have hy := hU x k y hxx hk hn
    refine ⟨?_, hy⟩
    rcases Int.lt_or_le (d y.toNat) 0 with h1 | h1
    · exact absurd ⟨y, x, hy, (nxt_sym hn).1, h1, hx⟩ h
    · exact h1
theorem DInv.some {v : Nat → Int} {n : Nat} {t : Int} (hU : ∀ x e y, U9 x → e < n → nxt v x e = some y → U9 y) (hU2 : ∀ x e y, e < n → nxt v x e = some y → U9 x) (ht : U9 t) : ∀ m, (∃ d, DInv v n t m 0 d) ∧ ∀ k, k ≤ n → ∃ d, DInv v n t m k d
  | 0 => by
    have h0 : ∃ d, DInv v n t 0 0 d := ⟨fun j => if j = t.toNat then 0 else -1, DInv.start v n ht fun j _ => rfl⟩
    refine ⟨h0, fun k => ?_⟩
    induction k with
    | zero => exact fun _ => h0
    | succ k ih => intro hk; obtain ⟨d, hd⟩ := ih (by omega); exact hd.step (by omega) hU hU2 ht
  | m + 1 => by
    obtain ⟨d, hd⟩ := (DInv.some hU hU2 ht m).2 n (Nat.le_refl _)
    have h0 : ∃ d, DInv v n t (m + 1) 0 d := ⟨d, hd.next⟩
    refine ⟨h0, fun k => ?_⟩
    induction k with
    | zero => exact fun _ => h0
    | succ k ih => intro hk; obtain ⟨d, hd⟩ := ih (by omega); exact hd.step (by omega) hU hU2 ht
/-- There is a way from a to b. -/
def Reach (v : Nat → Int) (n : Nat) (a b : Int) : Prop := ∃ d, Dist v n b d ∧ 0 ≤ d a.toNat
theorem reach_D {v : Nat → Int} {n : Nat} {a b : Int} {d : Nat → Int} (D : Dist v n b d) (ha : U9 a) : Reach v n a b ↔ 0 ≤ d a.toNat := by
  constructor
  · rintro ⟨d', D', h⟩
    exact D'.half D (d' a.toNat).toNat a ha (by omega)
  · exact fun h => ⟨d, D, h⟩
theorem reach_R {v : Nat → Int} {n : Nat} {a b : Int} {R : List Rec} (H : Bfs v n a R.length 0 R) (hU : ∀ x e y, U9 x → e < n → nxt v x e = some y → U9 y) (hU2 : ∀ x e y, e < n → nxt v x e = some y → U9 x) (ha : U9 a) (hb : U9 b) :
    Reach v n a b ↔ ∃ (j : Nat) (r : Rec), R[j]? = some r ∧ r.x = b := by
  obtain ⟨d, hd⟩ := (DInv.some hU hU2 hb 10).1
  rw [reach_D hd.done ha, hd.done.iff H ha hb]
end Go.Proofs.Ytfgkglbhbdfpfaa
