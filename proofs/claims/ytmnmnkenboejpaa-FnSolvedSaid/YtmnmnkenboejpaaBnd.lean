/- Plain laws: for a determined design and small readings nothing overflows: Gram matrix, determinant, adjugate, tops, residues and their squares are the true numbers. -/
import Derived.Test.YtmnmnkenboejpaaSqs
namespace Go.Proofs.Ytmnmnkenboejpaa
open Go.RowKit
set_option linter.unusedSimpArgs false
set_option linter.unusedVariables false
/-- The true sum of products. -/
def dotZ (x y : Nat → Int) : Nat → Int
  | 0 => 0
  | k + 1 => dotZ x y k + x k * y k
theorem dot_ex {x y : Nat → Int} {X Y : Nat} : ∀ {n : Nat}, (∀ k, k < n → (x k).natAbs ≤ X) → (∀ k, k < n → (y k).natAbs ≤ Y) → n * (X * Y) ≤ 4611686018427387904 → dotV x y n = dotZ x y n ∧ (dotZ x y n).natAbs ≤ n * (X * Y)
  | 0, _, _, _ => ⟨rfl, by simp [dotZ]⟩
  | n + 1, hx, hy, h => by
    have e : (n + 1) * (X * Y) = n * (X * Y) + X * Y := Nat.succ_mul _ _
    have ih := dot_ex (n := n) (fun k hk => hx k (by omega)) (fun k hk => hy k (by omega)) (by omega)
    have h4 : (x n * y n).natAbs ≤ X * Y := by rw [Int.natAbs_mul]; exact Nat.mul_le_mul (hx n (by omega)) (hy n (by omega))
    rw [e] at h ⊢
    simp only [dotV, dotZ]
    rw [ih.1]
    have h5 := ih.2
    generalize x n * y n = p at *
    generalize X * Y = P at *
    generalize n * P = Q at *
    rw [IntWalk.wrap64_in p (by omega), IntWalk.wrap64_in _ (by omega)]
    omega
/-- The true determinant, by the first row. -/
def dsZ (r D : Nat → Int) : Nat → Int
  | 0 => 0
  | k + 1 => dsZ r D k + altS k * r k * D k
def detZ : Nat → List (List Int) → Int
  | 0, _ => 1
  | m + 1, L => dsZ (gl (L.getD 0 [])) (fun k => detZ m (wo L 0 k)) (m + 1)
theorem altS_abs (k : Nat) : (altS k).natAbs = 1 := by unfold altS; split <;> rfl
theorem ds_ex {r D D' : Nat → Int} {X Y : Nat} (hXb : X ≤ 1048576) : ∀ {n : Nat}, (∀ k, k < n → (r k).natAbs ≤ X) → (∀ k, k < n → D k = D' k ∧ (D' k).natAbs ≤ Y) → n * (X * Y) ≤ 4611686018427387904 → dsum r D n = dsZ r D' n ∧ (dsZ r D' n).natAbs ≤ n * (X * Y)
  | 0, _, _, _ => ⟨rfl, by simp [dsZ]⟩
  | n + 1, hx, hy, h => by
    have e : (n + 1) * (X * Y) = n * (X * Y) + X * Y := Nat.succ_mul _ _
    have ih := ds_ex hXb (n := n) (fun k hk => hx k (by omega)) (fun k hk => hy k (by omega)) (by omega)
    have h3 : (altS n * r n).natAbs ≤ X := by rw [Int.natAbs_mul, altS_abs, Nat.one_mul]; exact hx n (by omega)
    have h4 : (altS n * r n * D' n).natAbs ≤ X * Y := by rw [Int.natAbs_mul]; exact Nat.mul_le_mul h3 (hy n (by omega)).2
    rw [e] at h ⊢
    simp only [dsum, dsZ]
    rw [ih.1, (hy n (by omega)).1, IntWalk.wrap64_in (altS n * r n) (by omega)]
    have h5 := ih.2
    generalize altS n * r n * D' n = p at *
    generalize X * Y = P at *
    generalize n * P = Q at *
    rw [IntWalk.wrap64_in p (by omega), IntWalk.wrap64_in _ (by omega)]
    omega
def detBd : Nat → Nat
  | 0 => 1
  | m + 1 => (m + 1) * (8 * detBd m)
theorem detBd_le : ∀ m, m ≤ 4 → detBd m ≤ 98304
  | 0, _ => by decide
  | 1, _ => by decide
  | 2, _ => by decide
  | 3, _ => by decide
  | 4, _ => by decide
  | n + 5, h => by omega
theorem gl_mem {r : List Int} {X : Nat} (h : ∀ x ∈ r, x.natAbs ≤ X) (j : Nat) : (gl r j).natAbs ≤ X := by
  unfold gl
  rw [List.getD_eq_getElem?_getD]
  rcases h1 : r[j]? with _ | x
  · simp
  · exact h x (List.mem_of_getElem? h1)
theorem gl_mem' {r : List Int} {X : Nat} {n : Nat} (hl : r.length = n) (h : ∀ j, j < n → (gl r j).natAbs ≤ X) : ∀ x ∈ r, x.natAbs ≤ X := by
  intro x hx
  obtain ⟨j, hj, rfl⟩ := List.mem_iff_getElem.1 hx
  have := h j (by omega)
  simpa [gl, List.getElem?_eq_getElem hj] using this
theorem wo_mem {L : List (List Int)} {X i k : Nat} (h : ∀ r ∈ L, ∀ x ∈ r, x.natAbs ≤ X) : ∀ r ∈ wo L i k, ∀ x ∈ r, x.natAbs ≤ X := by
  intro r hr x hx
  obtain ⟨r', h1, rfl⟩ := List.mem_map.1 hr
  exact h r' ((List.eraseIdx_sublist _ _).mem h1) x ((List.eraseIdx_sublist _ _).mem hx)
theorem det_ex : ∀ (m : Nat) (L : List (List Int)), m ≤ 4 → (∀ r ∈ L, ∀ x ∈ r, x.natAbs ≤ 8) → detF m L = detZ m L ∧ (detZ m L).natAbs ≤ detBd m
  | 0, _, _, _ => ⟨rfl, Nat.le_refl 1⟩
  | m + 1, L, hm, h => by
    have hb : detBd (m + 1) ≤ 98304 := detBd_le (m + 1) hm
    refine ds_ex (X := 8) (Y := detBd m) (by omega) (fun k _ => gl_mem ?_ k) (fun k _ => det_ex m (wo L 0 k) (by omega) (wo_mem h)) (show (m + 1) * (8 * detBd m) ≤ _ from by
      show detBd (m + 1) ≤ _
      omega)
    rcases h0 : L[0]? with _ | r
    · rw [List.getD_eq_getElem?_getD, h0]; intro x hx; cases hx
    · rw [List.getD_eq_getElem?_getD, h0]; exact h r (List.mem_of_getElem? h0)
theorem gram_mem {L : List (List Int)} (h : desB L = true) : ∀ r ∈ gramL L, ∀ x ∈ r, x.natAbs ≤ 8 := fun r hr => by
  have hs := gram_sq h
  exact gl_mem' (hs.row r hr) fun j hj => by have := hs.ent r hr j hj; omega
theorem detG_ex {L : List (List Int)} (h : desB L = true) : detG L = detZ (L.getD 0 []).length (gramL L) ∧ (detG L).natAbs ≤ 98304 := by
  have h1 := (des_at h).2.1
  have := det_ex (L.getD 0 []).length (gramL L) h1.2 (gram_mem h)
  have hb := detBd_le _ h1.2
  unfold detG
  rw [this.1]
  exact ⟨rfl, by omega⟩
/-- The true adjugate. -/
def adjZ (m : Nat) (G : List (List Int)) (i k : Nat) : Int := if (i + k) % 2 = 1 then -(detZ (m - 1) (wo G k i)) else detZ (m - 1) (wo G k i)
theorem adj_ex {L : List (List Int)} (h : desB L = true) (i k : Nat) : adjV (L.getD 0 []).length (gramL L) i k = adjZ (L.getD 0 []).length (gramL L) i k ∧ (adjZ (L.getD 0 []).length (gramL L) i k).natAbs ≤ 3072 := by
  have h1 := (des_at h).2.1
  have e := det_ex ((L.getD 0 []).length - 1) (wo (gramL L) k i) (by omega) (wo_mem (gram_mem h))
  have hb : detBd ((L.getD 0 []).length - 1) ≤ 3072 := by
    rcases (show (L.getD 0 []).length - 1 = 0 ∨ (L.getD 0 []).length - 1 = 1 ∨ (L.getD 0 []).length - 1 = 2 ∨ (L.getD 0 []).length - 1 = 3 by omega) with e | e | e | e <;> rw [e] <;> decide
  unfold adjV adjZ minV
  rw [e.1]
  have h2 := e.2
  generalize detZ ((L.getD 0 []).length - 1) (wo (gramL L) k i) = x at *
  split
  · rw [IntWalk.wrap64_in _ (by omega)]; exact ⟨rfl, by omega⟩
  · exact ⟨rfl, by omega⟩
theorem rng_at {n : Nat} {v : Nat → Int} (h : rngB n v = true) : ∀ k, k < n → (v k).natAbs ≤ 500 := fun k hk => by
  have := inB_iff.1 (allN_iff.1 h k hk)
  omega
theorem des_gl {L : List (List Int)} (h : desB L = true) {i : Nat} (hi : i < L.length) (k : Nat) : (gl (L.getD i []) k).natAbs ≤ 1 := by
  have hm : L.getD i [] ∈ L := by rw [List.getD_eq_getElem?_getD, List.getElem?_eq_getElem hi]; exact List.getElem_mem hi
  exact gl_mem (gl_mem' rfl fun j hj => by have := (des_at h).2.2.2 _ hm j hj; omega) k
theorem col_gl {L : List (List Int)} (h : desB L = true) (i : Nat) {k : Nat} (hk : k < L.length) : gl (colL L i) k = gl (L.getD k []) i ∧ (gl (colL L i) k).natAbs ≤ 1 := by
  have e : gl (colL L i) k = gl (L.getD k []) i := by
    rw [colL_at (List.getElem?_eq_getElem hk)]
    rw [List.getD_eq_getElem?_getD, List.getElem?_eq_getElem hk]; rfl
  exact ⟨e, by rw [e]; exact des_gl h hk i⟩
/-- The true right side. -/
def rightZ (L : List (List Int)) (v : Nat → Int) (k : Nat) : Int := dotZ (gl (colL L k)) v L.length
theorem right_ex {L : List (List Int)} {v : Nat → Int} (h : desB L = true) (hv : rngB L.length v = true) {k : Nat} (hk : k < (L.getD 0 []).length) : gl (rightL L v) k = rightZ L v k ∧ (rightZ L v k).natAbs ≤ 4000 := by
  have h8 := (des_at h).1.2
  have e := dot_ex (x := gl (colL L k)) (y := v) (X := 1) (Y := 500) (n := L.length) (fun j hj => (col_gl h k hj).2) (rng_at hv) (by omega)
  unfold rightL
  rw [gl_map_range _ hk, e.1]
  exact ⟨rfl, Nat.le_trans e.2 (by omega)⟩
/-- The true tops. -/
def topZ (L : List (List Int)) (v : Nat → Int) (i : Nat) : Int := dotZ (adjZ (L.getD 0 []).length (gramL L) i) (rightZ L v) (L.getD 0 []).length
theorem dotV_congr {x x' y y' : Nat → Int} : ∀ {n : Nat}, (∀ k, k < n → x k = x' k) → (∀ k, k < n → y k = y' k) → dotV x y n = dotV x' y' n
  | 0, _, _ => rfl
  | n + 1, hx, hy => by simp only [dotV]; rw [dotV_congr (n := n) (fun k hk => hx k (by omega)) (fun k hk => hy k (by omega)), hx n (by omega), hy n (by omega)]
theorem dotZ_congr {x x' y y' : Nat → Int} : ∀ {n : Nat}, (∀ k, k < n → x k = x' k) → (∀ k, k < n → y k = y' k) → dotZ x y n = dotZ x' y' n
  | 0, _, _ => rfl
  | n + 1, hx, hy => by simp only [dotZ]; rw [dotZ_congr (n := n) (fun k hk => hx k (by omega)) (fun k hk => hy k (by omega)), hx n (by omega), hy n (by omega)]
theorem top_ex {L : List (List Int)} {v : Nat → Int} (h : desB L = true) (hv : rngB L.length v = true) {i : Nat} (hi : i < (L.getD 0 []).length) : gl (topsL L v) i = topZ L v i ∧ (topZ L v i).natAbs ≤ 49152000 := by
  have h4 := (des_at h).2.1.2
  have e := dot_ex (x := adjZ (L.getD 0 []).length (gramL L) i) (y := rightZ L v) (X := 3072) (Y := 4000) (n := (L.getD 0 []).length) (fun j hj => (adj_ex h i j).2) (fun j hj => (right_ex h hv hj).2) (by omega)
  unfold topsL
  rw [gl_map_range _ hi, dotV_congr (x' := adjZ (L.getD 0 []).length (gramL L) i) (y' := rightZ L v) (fun k hk => by unfold adjR; rw [gl_map_range _ hk, (adj_ex h i k).1]) (fun k hk => (right_ex h hv hk).1), e.1]
  exact ⟨rfl, Nat.le_trans e.2 (by omega)⟩
/-- The true residues. -/
def resZ (L : List (List Int)) (v : Nat → Int) (i : Nat) : Int := detG L * v i - dotZ (gl (L.getD i [])) (topZ L v) (L.getD 0 []).length
theorem res_ex {L : List (List Int)} {v : Nat → Int} (h : desB L = true) (hv : rngB L.length v = true) {i : Nat} (hi : i < L.length) : gl (resT L L.length v) i = resZ L v i ∧ (resZ L v i).natAbs ≤ 268435456 := by
  have h4 := (des_at h).2.1.2
  have e := dot_ex (x := gl (L.getD i [])) (y := topZ L v) (X := 1) (Y := 49152000) (n := (L.getD 0 []).length) (fun j hj => des_gl h hi j) (fun j hj => (top_ex h hv hj).2) (by omega)
  have hd := (detG_ex h).2
  have h5 : (detG L * v i).natAbs ≤ 98304 * 500 := by rw [Int.natAbs_mul]; exact Nat.mul_le_mul hd (rng_at hv i hi)
  have h6 : (dotZ (gl (L.getD i [])) (topZ L v) (L.getD 0 []).length).natAbs ≤ 196608000 := Nat.le_trans e.2 (by omega)
  unfold resT
  rw [gl_map_range _ hi, dotV_congr (x' := gl (L.getD i [])) (y' := topZ L v) (fun _ _ => rfl) (fun k hk => (top_ex h hv hk).1), e.1]
  unfold resZ
  generalize detG L * v i = p at *
  generalize dotZ (gl (L.getD i [])) (topZ L v) (L.getD 0 []).length = q at *
  rw [IntWalk.wrap64_in p (by omega), IntWalk.wrap64_in _ (by omega)]
  exact ⟨rfl, by omega⟩
theorem dotZ_sq (x : Nat → Int) : ∀ n, 0 ≤ dotZ x x n
  | 0 => Int.le_refl _
  | n + 1 => by
    have := dotZ_sq x n
    have h2 : 0 ≤ x n * x n := by
      rcases Int.le_total 0 (x n) with h | h
      · exact Int.mul_nonneg h h
      · exact Int.mul_nonneg_of_nonpos_of_nonpos h h
    simp only [dotZ]
    omega
theorem rdB_all {L : List (List Int)} {n : Nat} {v : Nat → Int} (h : rdB L n v = true) : desB L = true ∧ detG L ≠ 0 ∧ n = L.length ∧ rngB n v = true := by
  simp only [rdB, detB, Bool.and_eq_true, decide_eq_true_eq, bne_iff_ne] at h
  exact ⟨h.1.1.1, h.1.1.2, h.1.2, h.2⟩
theorem sq_ex {L : List (List Int)} {n : Nat} {v : Nat → Int} (h : rdB L n v = true) : sqV L n v = dotZ (resZ L v) (resZ L v) n ∧ 0 ≤ sqV L n v := by
  obtain ⟨hd, hne, rfl, hv⟩ := rdB_all h
  have h8 := (des_at hd).1.2
  have e := dot_ex (x := resZ L v) (y := resZ L v) (X := 268435456) (Y := 268435456) (n := L.length) (fun j hj => (res_ex hd hv hj).2) (fun j hj => (res_ex hd hv hj).2) (by omega)
  have e2 : sqV L L.length v = dotZ (resZ L v) (resZ L v) L.length := by
    unfold sqV
    rw [if_pos h, res_len h]
    unfold resV
    rw [if_pos h, dotV_congr (x' := resZ L v) (y' := resZ L v) (fun k hk => (res_ex hd hv hk).1) (fun k hk => (res_ex hd hv hk).1), e.1]
  exact ⟨e2, by rw [e2]; exact dotZ_sq _ _⟩
end Go.Proofs.Ytmnmnkenboejpaa
