/- The way that the search in width finds is the way on which each step is the first one that comes nearer. Plain Lean; no program. -/
import Derived.Test.YtfgkglbhbdfpfaaDis
namespace Go.Proofs.Ytfgkglbhbdfpfaa
set_option linter.unusedSimpArgs false
set_option linter.unusedVariables false
/-- Step by step the first ratio that comes nearer. -/
def Gr (v : Nat → Int) (n : Nat) (t : Int) (d : Nat → Int) : Int → List Int → Prop
  | x, [] => x = t
  | x, i :: p => ∃ (e : Nat) (y : Int), i = (e : Int) ∧ e < n ∧ nxt v x e = some y ∧ U9 y ∧ d x.toNat = d y.toNat + 1 ∧ 0 ≤ d y.toNat ∧ (∀ (e' : Nat) (y' : Int), e' < e → nxt v x e' = some y' → d y'.toNat ≠ d y.toNat) ∧ Gr v n t d y p
/-- From place j by these ratios to place k. -/
def Ch (R : List Rec) : Nat → List Int → Nat → Prop
  | j, [], k => j = k
  | j, i :: p, k => ∃ (j1 : Nat) (r : Rec), R[j1]? = some r ∧ 0 < j1 ∧ r.q = j ∧ (r.e : Int) = i ∧ Ch R j1 p k
theorem Ch.snoc {R : List Rec} : ∀ {p : List Int} {j k : Nat} {k1 : Nat} {r : Rec}, Ch R j p k → R[k1]? = some r → 0 < k1 → r.q = k → Ch R j (p ++ [(r.e : Int)]) k1
  | [], j, k, k1, r, h, h1, h2, h3 => by
    have h : j = k := h
    exact ⟨k1, r, h1, h2, by rw [h, h3], rfl, rfl⟩
  | i :: p, j, k, k1, r, h, h1, h2, h3 => by
    obtain ⟨j1, s, g1, g2, g3, g4, g5⟩ := h
    exact ⟨j1, s, g1, g2, g3, g4, g5.snoc h1 h2 h3⟩
section
variable {v : Nat → Int} {n : Nat} {a t : Int} {R : List Rec} {d : Nat → Int}
theorem Bfs.chain (H : Bfs v n a R.length 0 R) : ∀ (k : Nat) (r : Rec), R[k]? = some r → Ch R 0 r.p k := by
  intro k
  induction k using Nat.strongRecOn with
  | _ k ih =>
    intro r hk
    rcases Nat.eq_zero_or_pos k with h0 | h0
    · subst h0
      rw [H.head] at hk
      injection hk with hk
      rw [← hk]; rfl
    · obtain ⟨s, h1, h2, _, _, _, h5⟩ := H.par k r hk h0
      rw [h5]
      exact (ih r.q h2 s h1).snoc hk h0 rfl
theorem Bfs.mono (H : Bfs v n a R.length 0 R) : ∀ (k j : Nat) (r s : Rec), j ≤ k → R[j]? = some r → R[k]? = some s → r.p.length ≤ s.p.length := by
  intro k
  induction k using Nat.strongRecOn with
  | _ k ih =>
    intro j r s hjk hj hk
    rcases Nat.eq_zero_or_pos j with h0 | h0
    · subst h0
      rw [H.head] at hj
      injection hj with hj
      rw [← hj]; simp
    · rcases Nat.lt_or_ge j k with h1 | h1
      · obtain ⟨r', a1, a2, _, _, _, a5⟩ := H.par j r hj h0
        obtain ⟨s', b1, b2, _, _, _, b5⟩ := H.par k s hk (by omega)
        have h2 := H.ord j k r s h0 h1 hj hk
        have := ih s.q b2 r.q r' s' (by omega) a1 b1
        rw [a5, b5]; simp; omega
      · have : j = k := by omega
        subst this
        have : r = s := Option.some.inj (hj.symm.trans hk)
        subst this; exact Nat.le_refl _
theorem Ch.len (H : Bfs v n a R.length 0 R) : ∀ {p : List Int} {j k : Nat} {r s : Rec}, Ch R j p k → R[j]? = some r → R[k]? = some s → s.p.length = r.p.length + p.length ∧ j ≤ k
  | [], j, k, r, s, h, hj, hk => by
    have h : j = k := h
    subst h
    have : r = s := Option.some.inj (hj.symm.trans hk)
    subst this; simp
  | i :: p, j, k, r, s, h, hj, hk => by
    obtain ⟨j1, r1, g1, g2, g3, g4, g5⟩ := h
    obtain ⟨h1, h2⟩ := Ch.len H g5 g1 hk
    obtain ⟨r', a1, a2, _, _, _, a5⟩ := H.par j1 r1 g1 g2
    rw [g3] at a1 a2
    have : r' = r := Option.some.inj (a1.symm.trans hj)
    subst this
    rw [a5] at h1
    simp at h1 ⊢
    omega
/-- A unit at distance l is at most l steps ahead of t. -/
theorem Dist.deep (D : Dist v n t d) (H : Bfs v n a R.length 0 R) {k : Nat} {s : Rec} (hk : R[k]? = some s) (hs : s.x = t) : ∀ (l q : Nat) (r : Rec), R[q]? = some r → d r.x.toNat = (l : Int) → s.p.length ≤ r.p.length + l
  | 0, q, r, hq, h => by
    have h1 := D.uniq r.x (H.dom q r hq) (by simpa using h)
    have : q = k := H.key q k r s hq hk (by rw [h1, hs])
    subst this
    have : r = s := Option.some.inj (hq.symm.trans hk)
    subst this; omega
  | l + 1, q, r, hq, h => by
    obtain ⟨e, y, he, hn, hy, hd⟩ := D.back r.x l (H.dom q r hq) (by rw [h]; omega)
    obtain ⟨j, u, hj, hx, hlex⟩ := H.full q e r y hq he (Or.inl (List.getElem?_eq_some_iff.1 hq).1) hn
    have h1 := D.deep H hk hs l j u hj (by rw [hx]; exact hd)
    have h2 : u.p.length ≤ r.p.length + 1 := by
      rcases Nat.eq_zero_or_pos j with h0 | h0
      · subst h0
        rw [H.head] at hj
        injection hj with hj
        rw [← hj]; simp
      · obtain ⟨u', b1, b2, _, _, _, b5⟩ := H.par j u hj h0
        have := H.mono q u.q u' r (by omega) b1 hq
        rw [b5]; simp; omega
    omega
/-- The distance along the way. -/
theorem Dist.along (D : Dist v n t d) (H : Bfs v n a R.length 0 R) {k : Nat} {s : Rec} (hk : R[k]? = some s) (hs : s.x = t) : ∀ {p : List Int} {j : Nat} {r : Rec}, Ch R j p k → R[j]? = some r → d r.x.toNat = (p.length : Int) := by
  have up : ∀ {p : List Int} {j : Nat} {r : Rec}, Ch R j p k → R[j]? = some r → 0 ≤ d r.x.toNat ∧ d r.x.toNat ≤ (p.length : Int) := by
    intro p
    induction p with
    | nil =>
      intro j r h hj
      have h : j = k := h
      subst h
      have : r = s := Option.some.inj (hj.symm.trans hk)
      subst this
      rw [hs, D.zero]; simp
    | cons i p ih =>
      intro j r h hj
      obtain ⟨j1, r1, g1, g2, g3, g4, g5⟩ := h
      have h1 := ih g5 g1
      obtain ⟨r', a1, a2, a3, _, a4, _⟩ := H.par j1 r1 g1 g2
      rw [g3] at a1
      have : r' = r := Option.some.inj (a1.symm.trans hj)
      subst this
      have := D.full r1.x r1.e r'.x (H.dom j1 r1 g1) a3 (nxt_sym a4).1 h1.1
      simp; omega
  intro p j r h hj
  obtain ⟨u1, u2⟩ := up h hj
  have h2 := (Ch.len H h hj hk).1
  have h3 := D.deep H hk hs (d r.x.toNat).toNat j r hj (by omega)
  omega
/-- What stands ahead of the way is no nearer. -/
theorem Dist.ahead (D : Dist v n t d) (H : Bfs v n a R.length 0 R) {k : Nat} {s : Rec} (hk : R[k]? = some s) (hs : s.x = t) : ∀ (p : List Int) (j j' : Nat) (r' : Rec), Ch R j p k → R[j']? = some r' → j' < j → d r'.x.toNat = (p.length : Int) → False
  | [], j, j', r', h, hj', hlt, hd => by
    have h : j = k := h
    subst h
    have h1 := D.uniq r'.x (H.dom j' r' hj') (by simpa using hd)
    have := H.key j' j r' s hj' hk (by rw [h1, hs])
    omega
  | i :: p, j, j', r', h, hj', hlt, hd => by
    obtain ⟨j1, r1, g1, g2, g3, g4, g5⟩ := h
    obtain ⟨e, y, he, hn, hy, hdy⟩ := D.back r'.x p.length (H.dom j' r' hj') (by rw [hd]; simp)
    obtain ⟨j2, u, hj2, hx, hlex⟩ := H.full j' e r' y hj' he (Or.inl (List.getElem?_eq_some_iff.1 hj').1) hn
    refine D.ahead H hk hs p j1 j2 u g5 hj2 ?_ (by rw [hx]; exact hdy)
    rcases Nat.eq_zero_or_pos j2 with h0 | h0
    · omega
    · rcases Nat.lt_or_ge j2 j1 with h1 | h1
      · exact h1
      · exfalso
        rcases Nat.lt_or_ge j1 j2 with h2 | h2
        · have := H.ord j1 j2 r1 u g2 h2 g1 hj2
          omega
        · have : j1 = j2 := by omega
          subst this
          have : r1 = u := Option.some.inj (g1.symm.trans hj2)
          subst this
          omega
theorem Dist.greedy (D : Dist v n t d) (H : Bfs v n a R.length 0 R) {k : Nat} {s : Rec} (hk : R[k]? = some s) (hs : s.x = t) : ∀ (p : List Int) (j : Nat) (r : Rec), Ch R j p k → R[j]? = some r → Gr v n t d r.x p
  | [], j, r, h, hj => by
    have h : j = k := h
    subst h
    have : r = s := Option.some.inj (hj.symm.trans hk)
    subst this; exact hs
  | i :: p, j, r, h, hj => by
    have hdr := D.along H hk hs h hj
    obtain ⟨j1, r1, g1, g2, g3, g4, g5⟩ := h
    have hd1 := D.along H hk hs g5 g1
    obtain ⟨r', a1, a2, a3, _, a4, _⟩ := H.par j1 r1 g1 g2
    rw [g3] at a1
    have : r' = r := Option.some.inj (a1.symm.trans hj)
    subst this
    refine ⟨r1.e, r1.x, g4.symm, a3, a4, H.dom j1 r1 g1, by rw [hdr, hd1]; simp, by rw [hd1]; exact Int.natCast_nonneg _, fun e' y' he' hn' hd' => ?_, D.greedy H hk hs p j1 r1 g5 g1⟩
    obtain ⟨j2, u, hj2, hx, hlex⟩ := H.full j e' r' y' hj (by omega) (Or.inl (List.getElem?_eq_some_iff.1 hj).1) hn'
    refine D.ahead H hk hs p j1 j2 u g5 hj2 ?_ (by rw [hx, hd', hd1])
    rcases Nat.eq_zero_or_pos j2 with h0 | h0
    · omega
    · rcases Nat.lt_or_ge j2 j1 with h1 | h1
      · exact h1
      · exfalso
        rcases Nat.lt_or_ge j1 j2 with h2 | h2
        · have := H.ord j1 j2 r1 u g2 h2 g1 hj2
          omega
        · have : j1 = j2 := by omega
          subst this
          have : r1 = u := Option.some.inj (g1.symm.trans hj2)
          subst this
          omega
theorem Dist.le {d' : Nat → Int} (D : Dist v n t d) (D' : Dist v n t d') : ∀ (l : Nat) x, U9 x → d x.toNat = (l : Int) → 0 ≤ d' x.toNat ∧ d' x.toNat ≤ (l : Int)
  | 0, x, hx, h => by rw [D.uniq x hx (by simpa using h), D'.zero]; simp
  | l + 1, x, hx, h => by
    obtain ⟨e, y, he, hn, hy, hd⟩ := D.back x l hx (by rw [h]; omega)
    obtain ⟨h1, h2⟩ := D.le D' l y hy hd
    have := D'.full y e x hy he (nxt_sym hn).1 h1
    omega
theorem Dist.eq {d' : Nat → Int} (D : Dist v n t d) (D' : Dist v n t d') {x : Int} (hx : U9 x) : d x.toNat = d' x.toNat := by
  have r1 := D.rng x hx
  have r2 := D'.rng x hx
  rcases Int.lt_or_le (d x.toNat) 0 with h | h
  · rcases Int.lt_or_le (d' x.toNat) 0 with h' | h'
    · omega
    · have := D'.le D (d' x.toNat).toNat x hx (by omega); omega
  · have h1 := D.le D' (d x.toNat).toNat x hx (by omega)
    have h2 := D'.le D (d' x.toNat).toNat x hx (by omega)
    omega
theorem least_of {P : Nat → Prop} : ∀ k, P k → ∃ e, P e ∧ ∀ e', e' < e → ¬ P e' := by
  intro k
  induction k using Nat.strongRecOn with
  | _ k ih =>
    intro h
    by_cases h2 : ∃ e', e' < k ∧ P e'
    · obtain ⟨e', h3, h4⟩ := h2
      exact ih e' h3 h4
    · exact ⟨k, h, fun e' h3 h4 => h2 ⟨e', h3, h4⟩⟩
theorem Dist.path (D : Dist v n t d) (hU : ∀ x e y, U9 x → e < n → nxt v x e = some y → U9 y) : ∀ (l : Nat) x, U9 x → d x.toNat = (l : Int) → ∃ p, Gr v n t d x p
  | 0, x, hx, h => ⟨[], D.uniq x hx (by simpa using h)⟩
  | l + 1, x, hx, h => by
    obtain ⟨e, y, he, hn, hy, hd⟩ := D.back x l hx (by rw [h]; omega)
    obtain ⟨e0, ⟨h1, y0, h2, h3, h4⟩, h5⟩ := least_of (P := fun e => e < n ∧ ∃ y, nxt v x e = some y ∧ U9 y ∧ d y.toNat = (l : Int)) e ⟨he, y, hn, hy, hd⟩
    obtain ⟨p, hp⟩ := D.path hU l y0 h3 h4
    refine ⟨(e0 : Int) :: p, e0, y0, rfl, h1, h2, h3, by rw [h, h4]; omega, by rw [h4]; omega, fun e' y' h6 h7 h8 => ?_, hp⟩
    have h9 := D.full x e' y' hx (by omega) h7 (by rw [h]; omega)
    refine h5 e' h6 ⟨by omega, y', h7, ?_, by rw [h8, h4]⟩
    exact hU x e' y' hx (by omega) h7
theorem Gr.len (D : Dist v n t d) : ∀ {p : List Int} {x : Int}, Gr v n t d x p → d x.toNat = (p.length : Int)
  | [], x, h => by
    have h : x = t := h
    rw [h, D.zero]; rfl
  | i :: p, x, h => by
    obtain ⟨e, y, _, _, _, _, h1, _, _, h2⟩ := h
    rw [h1, Gr.len D h2]; simp
theorem Gr.unique {d' : Nat → Int} (D : Dist v n t d) (D' : Dist v n t d') : ∀ {p p' : List Int} {x : Int}, U9 x → Gr v n t d x p → Gr v n t d' x p' → p = p'
  | [], [], _, _, _, _ => rfl
  | [], i :: p', x, hx, h, h' => by
    obtain ⟨e, y, _, _, _, _, h1, h2, _⟩ := h'
    have h : x = t := h
    rw [h, D'.zero] at h1; omega
  | i :: p, [], x, hx, h, h' => by
    obtain ⟨e, y, _, _, _, _, h1, h2, _⟩ := h
    have h' : x = t := h'
    rw [h', D.zero] at h1; omega
  | i :: p, i' :: p', x, hx, h, h' => by
    obtain ⟨e, y, a1, a2, a3, a4, a5, a6, a7, a8⟩ := h
    obtain ⟨e', y', b1, b2, b3, b4, b5, b6, b7, b8⟩ := h'
    have x1 := D.eq D' hx
    have x2 := D.eq D' a4
    have x3 := D.eq D' b4
    have hee : e = e' := by
      rcases Nat.lt_or_ge e e' with h1 | h1
      · exact absurd (by omega) (b7 e y h1 a3)
      · rcases Nat.lt_or_ge e' e with h2 | h2
        · exact absurd (by omega) (a7 e' y' h2 b3)
        · omega
    subst hee
    have : y = y' := Option.some.inj (a3.symm.trans b3)
    subst this
    rw [a1, b1, Gr.unique D D' a4 a8 b8]
end
open Classical in
/-- The way from a to b. -/
noncomputable def facP (n : Nat) (v : Nat → Int) (a b : Int) : List Int := if h : ∃ p d, Dist v n b d ∧ Gr v n b d a p then Classical.choose h else []
theorem facP_of {v : Nat → Int} {n : Nat} {a b : Int} {d : Nat → Int} {p : List Int} (D : Dist v n b d) (ha : U9 a) (h : Gr v n b d a p) : facP n v a b = p := by
  have h0 : ∃ p d, Dist v n b d ∧ Gr v n b d a p := ⟨p, d, D, h⟩
  obtain ⟨d', D', h'⟩ := Classical.choose_spec h0
  rw [facP, dif_pos h0]
  exact Gr.unique D' D ha h' h
theorem facP_at {v : Nat → Int} {n : Nat} {a b : Int} {d : Nat → Int} (D : Dist v n b d) (hU : ∀ x e y, U9 x → e < n → nxt v x e = some y → U9 y) (ha : U9 a) (h : 0 ≤ d a.toNat) : Gr v n b d a (facP n v a b) := by
  obtain ⟨p, hp⟩ := D.path hU (d a.toNat).toNat a ha (by omega)
  rw [facP_of D ha hp]; exact hp
end Go.Proofs.Ytfgkglbhbdfpfaa
