/- HalveDown: the contracts of both functions. -/
import Derived.Test.YtoalpihlflifmaaHalveS
import Derived.Test.YtoalpihlflifmaaLawF
import Derived.Laws.AppendOwn
import Derived.WalkSmall
import Derived.IntWalk
import Derived.Deep.RegionHeld3
import Derived.Deep.AppendLies
namespace Go.Proofs.Ytoalpihlflifmaa
open Go.RowKit
set_option linter.unusedSimpArgs false
set_option linter.unusedVariables false
set_option maxHeartbeats 4000000
/-- The weights but the last, and the last. -/
def hs (a b : Int) (v : Nat → Int) : Nat → Option (List Int × Int × Int)
  | 0 => some ([], a, b)
  | k + 1 => match hs a b v k with
    | none => none
    | some (m, t, u) => if hvO t u (v (k * 2)) (v (k * 2 + 1)) = true then some (m ++ [hT t u (v (k * 2)) (v (k * 2 + 1)), hB' t u (v (k * 2)) (v (k * 2 + 1))], hT t u (ng (v (k * 2))) (v (k * 2 + 1)), hB' t u (ng (v (k * 2))) (v (k * 2 + 1))) else none
theorem hs_yes {a b : Int} {v : Nat → Int} {k : Nat} {m : List Int} {t u : Int} (h : hs a b v k = some (m, t, u)) (ho : hvO t u (v (k * 2)) (v (k * 2 + 1)) = true) :
    hs a b v (k + 1) = some (m ++ [hT t u (v (k * 2)) (v (k * 2 + 1)), hB' t u (v (k * 2)) (v (k * 2 + 1))], hT t u (ng (v (k * 2))) (v (k * 2 + 1)), hB' t u (ng (v (k * 2))) (v (k * 2 + 1))) := by
  simp only [hs, h, ho, if_true]
theorem hs_no {a b : Int} {v : Nat → Int} {k : Nat} {m : List Int} {t u : Int} (h : hs a b v k = some (m, t, u)) (ho : hvO t u (v (k * 2)) (v (k * 2 + 1)) = false) : hs a b v (k + 1) = none := by
  simp [hs, h, ho]
theorem hs_none {a b : Int} {v : Nat → Int} {k n : Nat} (hk : k ≤ n) (h : hs a b v k = none) : hs a b v n = none := by
  induction n with
  | zero => obtain rfl : k = 0 := by omega
            exact h
  | succ n ih =>
    rcases Nat.lt_or_ge k (n + 1) with h1 | h1
    · simp [hs, ih (by omega)]
    · obtain rfl : k = n + 1 := by omega
      exact h
theorem hs_len {a b : Int} {v : Nat → Int} : ∀ {k : Nat} {m : List Int} {t u : Int}, hs a b v k = some (m, t, u) → m.length = k * 2
  | 0, m, t, u, h => by simp [hs] at h; simp [← h.1]
  | k + 1, m, t, u, h => by
    simp only [hs] at h
    split at h
    · cases h
    · rename_i m' t' u' h'
      split at h
      · injection h with h; injection h with h1 h2
        rw [← h1]; simp [hs_len h']; omega
      · cases h
theorem hvV_yes {a b c d : Int} (h : hvO a b c d = true) : hvV a b c d = .tuple #[.agg #[.int .i64 (hT a b c d), .int .i64 (hB' a b c d)], .agg #[.int .i64 (hT a b (ng c) d), .int .i64 (hB' a b (ng c) d)], .bool true] := if_pos h
theorem hvV_no {a b c d : Int} (h : hvO a b c d = false) : hvV a b c d = .tuple #[.agg #[.int .i64 0, .int .i64 0], .agg #[.int .i64 0, .int .i64 0], .bool false] := if_neg (by simp [h])
theorem hvO_left {a b c d : Int} (h : frB a b = false) : hvO a b c d = false := by simp [hvO, hO_left h]

/-- A slice of n fractions of the call's own, which holds the numbers l, two a fraction. -/
def OwnS (w : World) (B : Nat) (s : Value) (n : Nat) (l : List Int) : Prop := w.ownsRow B 25 2 s n (l.map (Value.int .i64))
theorem OwnS.below {w w' : World} {B n : Nat} {s : Value} {l : List Int} (h : OwnS w B s n l) (hb : Below w.heap.size w w') : OwnS w' B s n l :=
  World.ownsRow.kept h (row := none) ⟨hb.os, hb.tape, hb.output, hb.size, fun k hk _ => hb.block k hk⟩ (by
    cases s.ownBlock with
    | none => exact Or.inl rfl
    | some q => right; simp)
theorem OwnS.one {w : World} {B : Nat} {x y : Int} (hB : B ≤ w.heap.size) : OwnS (w.alloc (.cells #[.int .i64 x, .int .i64 y] 25)) B (.slice (some ⟨w.heap.size, 0, none⟩) 1 1) 1 [x, y] :=
  ⟨by simp, Or.inr ⟨w.heap.size, 1, #[.int .i64 x, .int .i64 y], rfl, hB, heap_alloc_new w _, Nat.le_refl _, by unfold maxLen; omega, by simp, by simp⟩⟩
theorem OwnS.at {w : World} {B n : Nat} {s : Value} {l : List Int} (h : OwnS w B s (n + 1) l) : ∃ g c, s = .slice (some ⟨g, 0, none⟩) (n + 1) c ∧ (B ≤ g ∧ n + 1 ≤ c) ∧ Own w g 25 ((n + 1) * 2) (fun j => l.getD j 0) := by
  obtain ⟨hl, h2⟩ := h
  rcases h2 with ⟨rfl, h0⟩ | ⟨g, cap, cur, rfl, hb, hh, hl2, hm, hsz, ht⟩
  · omega
  · refine ⟨g, cap, rfl, ⟨hb, hl2⟩, cur, hh, fun j hj => ?_⟩
    have hlen : l.length = (n + 1) * 2 := by simpa using hl
    have hj' : j < l.length := by omega
    have h1 : (cur.toList.take ((n + 1) * 2))[j]? = (l.map (Value.int .i64))[j]? := by rw [ht]
    rw [List.getElem?_take] at h1
    simp only [hj, if_true, Array.getElem?_toList, List.getElem?_map, List.getElem?_eq_getElem hj', Option.map_some] at h1
    simp [h1, List.getElem?_eq_getElem hj']
theorem OwnS.pop {w : World} {B n g c : Nat} {l : List Int} {t u : Int} (h : OwnS w B (.slice (some ⟨g, 0, none⟩) (n + 1) c) (n + 1) (l ++ [t, u])) (hl : l.length = n * 2) : OwnS w B (.slice (some ⟨g, 0, none⟩) n c) n l := by
  refine ownsRow_pop (last := [.int .i64 t, .int .i64 u]) (by simpa using hl) ?_
  have := h
  unfold OwnS at this
  simpa using this
/-- Two fractions appended to a slice of the call's own. -/
theorem push_two {ops : Array Oper} {rest : List Oper} {o : Oper} {a : Act} {Q : Exit → Act → World → Prop} {wr : World} (hgd : o.guard = none) (s x : Operand)
    (ho : o.op = .call { callee := .builtin .append, args := #[s, x], argTypes := #[35, 35] }) (B : Nat) (sv : Value) (n : Nat) (l : List Int) (y0 y1 y2 y3 : Int) (hs : a.eval s = sv)
    (hx : a.eval x = .slice (some ⟨wr.heap.size, 0, none⟩) 2 2) (hown : OwnS wr B sv n l) (hlen : n ≤ 1048576) (hB : B ≤ wr.heap.size)
    (h : ∀ v' w', OwnS w' B v' (n + 2) (l ++ [y0, y1, y2, y3]) → wr.grownBy w' sv.ownBlock → wpList Try.prog ops Q rest (a.put o.dst v') w') :
    wpList Try.prog ops Q (o :: rest) a (wr.alloc (.cells #[.int .i64 y0, .int .i64 y1, .int .i64 y2, .int .i64 y3] 25)) := by
  obtain ⟨i0, hi, hz0, hz1, hz2⟩ := info_parts infoFraction
  refine wpList_append_own _ hgd s x 35 ho B 25 i0 (.agg #[.int .i64 0, .int .i64 0]) 2 16 Try.underlying35 hi hz0 hz1 hz2 rfl (by decide) sv n (l.map (Value.int .i64)) hs (World.ownsRow.alloc hown _) ⟨wr.heap.size, 0, none⟩ 2 2 [.int .i64 y0, .int .i64 y1, .int .i64 y2, .int .i64 y3] hx rfl
    ?_ ?_ ?_ ?_ ?_ ?_
  · intro j u hj
    match j, hj with
    | 0, hj => simp at hj; subst hj; simp [Addr.add]
    | 1, hj => simp at hj; subst hj; simp [Addr.add]
    | 2, hj => simp at hj; subst hj; simp [Addr.add]
    | 3, hj => simp at hj; subst hj; simp [Addr.add]
  · intro u hu
    simp at hu
    rcases hu with rfl | rfl | rfl | rfl <;> rfl
  · unfold maxLen; omega
  · omega
  · simp; omega
  · intro v' w' h1 h2 _
    refine h v' w' ?_ ?_
    · unfold OwnS; simpa using h1
    · have h3 : wr.grownBy (wr.alloc (.cells #[.int .i64 y0, .int .i64 y1, .int .i64 y2, .int .i64 y3] 25)) none := World.grownBy_alloc wr _ none
      refine ⟨h2.os.trans h3.os, h2.tape.trans h3.tape, h2.output.trans h3.output, Nat.le_trans h3.size h2.size, fun k hk hne => ?_⟩
      rw [h2.block k (Nat.lt_of_lt_of_le hk h3.size) hne, h3.block k hk (by simp)]
theorem getD_app0 {m : List Int} {k : Nat} {t u : Int} (h : m.length = k * 2) : (m ++ [t, u]).getD (k * 2) 0 = t := by
  simp only [List.getD]; rw [List.getElem?_append_right (by omega), h]; simp
theorem getD_app1 {m : List Int} {k : Nat} {t u : Int} (h : m.length = k * 2) : (m ++ [t, u]).getD (k * 2 + 1) 0 = u := by
  simp only [List.getD]; rw [List.getElem?_append_right (by omega), h]; simp [show k * 2 + 1 - k * 2 = 1 by omega]
/-- What a call of HalveDown leaves. -/
def HR (n : Nat) (w : World) : Option (List Int × Int × Int) → Ending → World → Prop
  | none, e, w' => FR0 w false e w'
  | some (m, t, u), e, w' => FR1 w (n + 1) (fun j => (m ++ [t, u]).getD j 0) true e w'
theorem impl_HalveDown (a b : Int) (A : Option Addr) (n c : Nat) (v : Nat → Int) (w : World) (h0 : frB a b = true) (h8 : n ≤ 8) (f0 : Fl w A n 2 v) :
    Calls Try.prog 24 #[.agg #[.int .i64 a, .int .i64 b], .slice A n c] w (HR n w (hs a b v n)) := by
  have hF := fun w => impl_FracOk a b w
  rw [h0] at hF
  clear h0
  have HF := Lib.hid f0; clear f0
  obtain ⟨W, hW⟩ : ∃ W, W = (w.alloc (.cells #[.int .i64 a, .int .i64 b] 25)) := ⟨_, rfl⟩
  have c0 : W.cell? ⟨w.heap.size, 0, none⟩ = some (.int .i64 a) := by rw [hW]; simp [go_sem]
  have c1 : W.cell? ⟨w.heap.size, 1, none⟩ = some (.int .i64 b) := by rw [hW]; simp [go_sem]
  have hB : Below w.heap.size w W := by rw [hW]; exact ((Below.refl _ _).alloc (by simp <;> omega) _)
  subst hW
  go_enter Try.func24, Try.ntmps24
  ((go_wp2_with fail); (with_reducible refine (hF _).mono ?_); rintro _ w1 ⟨rfl, hb⟩; replace c0 := below_cell hb c0; replace c1 := below_cell hb c1; replace hB := below_step hB hb; clear hb)
  go_wp2_with fail
  have k0 : OwnS (w1.alloc (.cells #[.int .i64 a, .int .i64 b] 25)) w.heap.size (.slice (some ⟨w1.heap.size, 0, none⟩) 1 1) 1 ([] ++ [a, b]) := OwnS.one hB.size
  have hb := below_alloc (Below.refl w1.heap.size w1) (.cells #[.int .i64 a, .int .i64 b] 25)
  replace hB := below_step hB hb
  clear hb c0 c1
  go_wp2_with fail
  go_loopw [6, 24] (fun s i wr => ∃ (k : Nat) (m : List Int) (t u : Int), k ≤ n ∧ i = .int .i64 k ∧ hs a b v k = some (m, t, u) ∧ OwnS wr w.heap.size s (k + 1) (m ++ [t, u]) ∧ Below w.heap.size w wr) (fun _ i _ => n - (intOf i).toNat)
  case atStart => exact ⟨0, [], a, b, by omega, rfl, rfl, k0, hB⟩
  case round =>
    clear k0 hB hF
    obtain ⟨k, m, t, u, hk, rfl, hst, p0, hB⟩ := hrel
    have hl := hs_len hst
    by_cases hkn : k < n
    · obtain ⟨blk, off, rfl, hc⟩ := (HF.out.below hB) (by omega)
      have c0 := hc (k * 2) (by omega)
      have c1 := hc (k * 2 + 1) (by omega)
      rw [← Nat.add_assoc] at c1
      clear hc
      obtain ⟨g, cap, rfl, ⟨hg, hcap⟩, o0⟩ := p0.at
      have c2 : wr.cell? ⟨g, k * 2, none⟩ = some (.int .i64 t) := (o0.cell (by omega)).trans (by rw [getD_app0 hl])
      have c3 : wr.cell? ⟨g, k * 2 + 1, none⟩ = some (.int .i64 u) := (o0.cell (by omega)).trans (by rw [getD_app1 hl])
      have lg : g < wr.heap.size := o0.lt
      clear o0
      have hH := fun w => impl_Halve t u (v (k * 2)) (v (k * 2 + 1)) w
      have hb := below_alloc (Below.refl wr.heap.size wr) (.cells #[.int .i64 (v (k * 2)), .int .i64 (v (k * 2 + 1))] 25)
      have c4 : (wr.alloc (.cells #[.int .i64 (v (k * 2)), .int .i64 (v (k * 2 + 1))] 25)).cell? ⟨wr.heap.size, 0, none⟩ = some (.int .i64 (v (k * 2))) := by simp [go_sem]
      have c5 : (wr.alloc (.cells #[.int .i64 (v (k * 2)), .int .i64 (v (k * 2 + 1))] 25)).cell? ⟨wr.heap.size, 1, none⟩ = some (.int .i64 (v (k * 2 + 1))) := by simp [go_sem]
      have HL := Lib.hid hl; clear hl
      cases hvo : hvO t u (v (k * 2)) (v (k * 2 + 1))
      · simp only [hvV_no hvo] at hH
        have HN := Lib.hid (hs_none (n := n) (show k + 1 ≤ n from hkn) (hs_no hst hvo))
        clear hst hvo
        go_wp2_with fail
        (skip; replace c0 := below_cell hb c0; replace c1 := below_cell hb c1; replace c2 := below_cell hb c2; replace c3 := below_cell hb c3; replace p0 := OwnS.below p0 hb; replace hB := below_step hB hb; clear hb)
        apply region_made
        case hm => kernel_rfl
        case hok => kernel_rfl
        case hsz => rfl
        case hal => kernel_rfl
        case H =>
          intro u hu
          have Ec0 := ext_cell (below_cell hu c0)
          have Ec1 := ext_cell (below_cell hu c1)
          have Ec2 := ext_cell (below_cell hu c2)
          have Ec3 := ext_cell (below_cell hu c3)
          have Ec4 := ext_cell (below_cell hu c4)
          have Ec5 := ext_cell (below_cell hu c5)
          dsimp only [List.map, tame]
          (repeat (first | go_big_quiet_step (((go_at_call 22; with_reducible exact calm_of (hH _)))) | simp only [TF]))
          exact wpQuiet_nil rfl
        case hst => simp only [storesOk, true_and, and_true]; exact ⟨⟨_, rfl, sizeFraction, by simp [Value.oneCell']⟩, ⟨_, rfl, sizeFraction, by simp [Value.oneCell']⟩⟩
        intro G w1 hb hf hd
        simp only [madeFacts, true_and, and_true] at hf
        obtain ⟨⟨hg9, hh9⟩, ⟨hg10, hh10⟩⟩ := hf
        have hd9_10 := hd 9 (by decide) 10 (by decide) (by decide)
        clear hd
        dsimp only [alSlots, List.filterMap, putAll]
        have c6 : w1.cell? ⟨G 9, 0, none⟩ = some (.int .i64 0) := made_cell hh9 rfl
        have c7 : w1.cell? ⟨G 9, 1, none⟩ = some (.int .i64 0) := made_cell hh9 rfl
        clear hh9
        have c8 : w1.cell? ⟨G 10, 0, none⟩ = some (.int .i64 0) := made_cell hh10 rfl
        have c9 : w1.cell? ⟨G 10, 1, none⟩ = some (.int .i64 0) := made_cell hh10 rfl
        clear hh10
        generalize G 9 = g9 at *
        generalize G 10 = g10 at *
        simp only [Act.put, List.setIfInBounds_toArray, List.set_cons_succ, List.set_cons_zero]
        (replace c0 := below_cell hb c0; replace c1 := below_cell hb c1; replace c2 := below_cell hb c2; replace c3 := below_cell hb c3; replace c4 := below_cell hb c4; replace c5 := below_cell hb c5; replace p0 := OwnS.below p0 hb; replace hB := below_step hB hb; clear hb)
        go_wp2_with fail
        refine bodyPost_ret (by first | (simp [results, Try.results24, go_sem, *]; done) | (simp [results, Try.results24, go_sem, *]; rfl)) rfl ?_
        rw [HN.out]
        exact ⟨none, 0, rfl, hB⟩
      · simp only [hvV_yes hvo] at hH
        have HS := Lib.hid (hs_yes hst hvo)
        clear hst hvo
        revert hH HS
        generalize hT t u (v (k * 2)) (v (k * 2 + 1)) = X
        generalize hB' t u (v (k * 2)) (v (k * 2 + 1)) = Y
        generalize hT t u (ng (v (k * 2))) (v (k * 2 + 1)) = P
        generalize hB' t u (ng (v (k * 2))) (v (k * 2 + 1)) = Q
        intro hH HS
        go_wp2_with fail
        (skip; replace c0 := below_cell hb c0; replace c1 := below_cell hb c1; replace c2 := below_cell hb c2; replace c3 := below_cell hb c3; replace p0 := OwnS.below p0 hb; replace hB := below_step hB hb; clear hb)
        apply region_made
        case hm => kernel_rfl
        case hok => kernel_rfl
        case hsz => rfl
        case hal => kernel_rfl
        case H =>
          intro u hu
          have Ec0 := ext_cell (below_cell hu c0)
          have Ec1 := ext_cell (below_cell hu c1)
          have Ec2 := ext_cell (below_cell hu c2)
          have Ec3 := ext_cell (below_cell hu c3)
          have Ec4 := ext_cell (below_cell hu c4)
          have Ec5 := ext_cell (below_cell hu c5)
          dsimp only [List.map, tame]
          (repeat (first | go_big_quiet_step (((go_at_call 22; with_reducible exact calm_of (hH _)))) | simp only [TF]))
          exact wpQuiet_nil rfl
        case hst => simp only [storesOk, true_and, and_true]; exact ⟨⟨_, rfl, sizeFraction, by simp [Value.oneCell']⟩, ⟨_, rfl, sizeFraction, by simp [Value.oneCell']⟩⟩
        intro G w1 hb hf hd
        simp only [madeFacts, true_and, and_true] at hf
        obtain ⟨⟨hg9, hh9⟩, ⟨hg10, hh10⟩⟩ := hf
        have hd9_10 := hd 9 (by decide) 10 (by decide) (by decide)
        clear hd
        dsimp only [alSlots, List.filterMap, putAll]
        have c6 : w1.cell? ⟨G 9, 0, none⟩ = some (.int .i64 X) := made_cell hh9 rfl
        have c7 : w1.cell? ⟨G 9, 1, none⟩ = some (.int .i64 Y) := made_cell hh9 rfl
        clear hh9
        have c8 : w1.cell? ⟨G 10, 0, none⟩ = some (.int .i64 P) := made_cell hh10 rfl
        have c9 : w1.cell? ⟨G 10, 1, none⟩ = some (.int .i64 Q) := made_cell hh10 rfl
        clear hh10
        generalize G 9 = g9 at *
        generalize G 10 = g10 at *
        simp only [Act.put, List.setIfInBounds_toArray, List.set_cons_succ, List.set_cons_zero]
        (replace c0 := below_cell hb c0; replace c1 := below_cell hb c1; replace c2 := below_cell hb c2; replace c3 := below_cell hb c3; replace c4 := below_cell hb c4; replace c5 := below_cell hb c5; replace p0 := OwnS.below p0 hb; replace hB := below_step hB hb; clear hb)
        go_wp2_with fail
        have p0 := OwnS.pop p0 HL.out
        have n9 : g9 ≠ g := by simp only [World.size_alloc] at hg9; omega
        have n10 : g10 ≠ g := by simp only [World.size_alloc] at hg10; omega
        have hBs : w.heap.size ≤ w1.heap.size := hB.size
        have hba : ∀ X, Below w1.heap.size w1 ((w1.alloc X).drew) := fun X => (below_alloc (Below.refl _ _) X).drew
        have HBA := Lib.hid hba; clear hba
        have b0 : (0 : Int) ≤ (k : Int) := Int.natCast_nonneg _
        have b1 : (k : Int) ≤ (cap : Int) := by omega
        have e1 : IntKind.i64.wrap ((k : Int) + 1 - 1) = (k : Int) := by rw [IntWalk.i64_in _ (by omega)]; omega
        have e2 : IntKind.i64.wrap (k : Int) = (k : Int) := IntWalk.i64_in _ (by omega)
        obtain ⟨i0, hi0, hz0, hz1, hz2⟩ := info_parts infoFraction
        go_region_held3 (fun w' => w'.cell? ⟨g9, 0, none⟩ = some (.int .i64 X) ∧ w'.cell? ⟨g9, 1, none⟩ = some (.int .i64 Y) ∧ w'.cell? ⟨g10, 0, none⟩ = some (.int .i64 P) ∧ w'.cell? ⟨g10, 1, none⟩ = some (.int .i64 Q))
          (first
            | go_keep
            | (exact ⟨only_cell hgrow (below_cell (HBA.out _) c6) n9, only_cell hgrow (below_cell (HBA.out _) c7) n9, only_cell hgrow (below_cell (HBA.out _) c8) n10, only_cell hgrow (below_cell (HBA.out _) c9) n10⟩))
          ((refine step_append_lies _ (by rfl) _ _ _ (by rfl) w.heap.size 25 i0 _ 2 16 Try.underlying35 hi0 hz0 hz1 hz2 rfl (by omega) _ k (m.map (Value.int .i64)) (by rfl) ((World.ownsRow.alloc p0 _).drew)
                ⟨w1.heap.size, 0, none⟩ 2 2 [.int .i64 X, .int .i64 Y, .int .i64 P, .int .i64 Q] (by rfl) (by rfl) (World.news_of_block (cs := #[.int .i64 X, .int .i64 Y, .int .i64 P, .int .i64 Q]) (t := 25) (fr := (0, 0)) (heap_alloc_new w1 _)) (by simp [Value.oneCell'])
                (by omega) (by unfold maxLen; omega) (by omega) (by simp; omega) (w1.heap.size + 1) (by simp) ?_; intro gg cap1 w2 hown1 hgrow hat hlt))
        clear e1 e2 b0 b1
        go_wp2
        go_roundw
        case rel =>
          refine ⟨k + 1, _, P, Q, by omega, by go_num, HS.out, ?_, ?_⟩
          · unfold OwnS
            simpa using hown1
          · refine Below.grown (below_step hB (HBA.out _)) hgrow (by simp; omega) ?_
            intro q hq
            have hq' : some g = some q := hq
            injection hq' with hq'
            omega
        case measure => simp [intOf]; omega
    · obtain rfl : k = n := by omega
      go_wp2_with fail
      refine bodyPost_ret (by first | (simp [results, Try.results24, go_sem, *]; done) | (simp [results, Try.results24, go_sem, *]; rfl)) rfl ?_
      rw [hst]
      obtain ⟨g, cap, rfl, ⟨hg, hcap⟩, o0⟩ := p0.at
      exact ⟨g, cap, rfl, hg, o0, hB⟩
theorem spec_HalveDown (a b : Int) (A : Option Addr) (n c : Nat) (v : Nat → Int) (w : World) (h0 : frB a b = true) (h8 : n ≤ 8) (f0 : Fl w A n 2 v) :
    Calls Try.prog 23 #[.agg #[.int .i64 a, .int .i64 b], .slice A n c] w (HR n w (hs a b v n)) := by
  have hF := fun w => spec_FracOk a b w
  rw [h0] at hF
  clear h0
  have HF := Lib.hid f0; clear f0
  obtain ⟨W, hW⟩ : ∃ W, W = (w.alloc (.cells #[.int .i64 a, .int .i64 b] 25)) := ⟨_, rfl⟩
  have c0 : W.cell? ⟨w.heap.size, 0, none⟩ = some (.int .i64 a) := by rw [hW]; simp [go_sem]
  have c1 : W.cell? ⟨w.heap.size, 1, none⟩ = some (.int .i64 b) := by rw [hW]; simp [go_sem]
  have hB : Below w.heap.size w W := by rw [hW]; exact ((Below.refl _ _).alloc (by simp <;> omega) _)
  subst hW
  go_enter Try.func23, Try.ntmps23
  go_wp2_with fail
  have k0 : OwnS ((w.alloc (.cells #[.int .i64 a, .int .i64 b] 25)).alloc (.cells #[.int .i64 a, .int .i64 b] 25)) w.heap.size (.slice (some ⟨w.heap.size + 1, 0, none⟩) 1 1) 1 ([] ++ [a, b]) := by
    have := OwnS.one (w := w.alloc (.cells #[.int .i64 a, .int .i64 b] 25)) (B := w.heap.size) (x := a) (y := b) (by simp)
    simpa using this
  have hb := below_alloc (Below.refl (w.alloc (.cells #[.int .i64 a, .int .i64 b] 25)).heap.size (w.alloc (.cells #[.int .i64 a, .int .i64 b] 25))) (.cells #[.int .i64 a, .int .i64 b] 25)
  replace hB := below_step hB hb
  replace c0 := below_cell hb c0
  replace c1 := below_cell hb c1
  clear hb
  go_wp2_with fail
  go_loopw [6, 7] (fun s i wr => ∃ (k : Nat) (m : List Int) (t u : Int), k ≤ n ∧ i = .int .i64 k ∧ hs a b v k = some (m, t, u) ∧ OwnS wr w.heap.size s (k + 1) (m ++ [t, u]) ∧ wr.cell? ⟨w.heap.size, 0, none⟩ = some (.int .i64 a) ∧ wr.cell? ⟨w.heap.size, 1, none⟩ = some (.int .i64 b) ∧ (∀ g n c, s = .slice (some ⟨g, 0, none⟩) n c → w.heap.size < g) ∧ Below w.heap.size w wr) (fun _ i _ => n - (intOf i).toNat)
  case atStart => exact ⟨0, [], a, b, by omega, rfl, rfl, k0, c0, c1, (fun g n c e => by injection e with e; injection e with e; injection e; omega), hB⟩
  case round =>
    clear k0 hB c0 c1
    obtain ⟨k, m, t, u, hk, rfl, hst, p0, c10, c11, hap, hB⟩ := hrel
    have hl := hs_len hst
    by_cases hkn : k < n
    · obtain ⟨blk, off, rfl, hc⟩ := (HF.out.below hB) (by omega)
      have c0 := hc (k * 2) (by omega)
      have c1 := hc (k * 2 + 1) (by omega)
      rw [← Nat.add_assoc] at c1
      clear hc
      obtain ⟨g, cap, rfl, ⟨hg, hcap⟩, o0⟩ := p0.at
      have c2 : wr.cell? ⟨g, k * 2, none⟩ = some (.int .i64 t) := (o0.cell (by omega)).trans (by rw [getD_app0 hl])
      have c3 : wr.cell? ⟨g, k * 2 + 1, none⟩ = some (.int .i64 u) := (o0.cell (by omega)).trans (by rw [getD_app1 hl])
      have lg : g < wr.heap.size := o0.lt
      have hgw := hap g _ _ rfl
      clear o0 hap
      have hH := fun w => spec_Halve t u (v (k * 2)) (v (k * 2 + 1)) w
      have HL := Lib.hid hl; clear hl
      cases hvo : hvO t u (v (k * 2)) (v (k * 2 + 1))
      · simp only [hvV_no hvo] at hH
        have HN := Lib.hid (hs_none (n := n) (show k + 1 ≤ n from hkn) (hs_no hst hvo))
        clear hst hvo
        go_wp2_with fail
        apply region_made
        case hm => kernel_rfl
        case hok => kernel_rfl
        case hsz => rfl
        case hal => kernel_rfl
        case H =>
          intro u hu
          have Ec0 := ext_cell (below_cell hu c0)
          have Ec1 := ext_cell (below_cell hu c1)
          have Ec2 := ext_cell (below_cell hu c2)
          have Ec3 := ext_cell (below_cell hu c3)
          have Ec10 := ext_cell (below_cell hu c10)
          have Ec11 := ext_cell (below_cell hu c11)
          dsimp only [List.map, tame]
          (repeat (first | go_big_quiet_step (((go_at_call 20; exact calm_of (hH _)))) | simp only [TF]))
          exact wpQuiet_nil rfl
        case hst => simp only [storesOk, true_and, and_true]; exact ⟨⟨_, rfl, sizeFraction, by simp [Value.oneCell']⟩, ⟨_, rfl, sizeFraction, by simp [Value.oneCell']⟩⟩
        intro G w1 hb hf hd
        simp only [madeFacts, true_and, and_true] at hf
        obtain ⟨⟨hg8, hh8⟩, ⟨hg9, hh9⟩⟩ := hf
        have hd8_9 := hd 8 (by decide) 9 (by decide) (by decide)
        clear hd
        dsimp only [alSlots, List.filterMap, putAll]
        have c6 : w1.cell? ⟨G 8, 0, none⟩ = some (.int .i64 0) := made_cell hh8 rfl
        have c7 : w1.cell? ⟨G 8, 1, none⟩ = some (.int .i64 0) := made_cell hh8 rfl
        clear hh8
        have c8 : w1.cell? ⟨G 9, 0, none⟩ = some (.int .i64 0) := made_cell hh9 rfl
        have c9 : w1.cell? ⟨G 9, 1, none⟩ = some (.int .i64 0) := made_cell hh9 rfl
        clear hh9
        generalize G 8 = g8 at *
        generalize G 9 = g9 at *
        simp only [Act.put, List.setIfInBounds_toArray, List.set_cons_succ, List.set_cons_zero]
        (replace c0 := below_cell hb c0; replace c1 := below_cell hb c1; replace c2 := below_cell hb c2; replace c3 := below_cell hb c3; replace c10 := below_cell hb c10; replace c11 := below_cell hb c11; replace p0 := OwnS.below p0 hb; replace hB := below_step hB hb; clear hb)
        go_wp2_with fail
        refine bodyPost_ret (by first | (simp [results, Try.results23, go_sem, *]; done) | (simp [results, Try.results23, go_sem, *]; rfl)) rfl ?_
        rw [HN.out]
        exact ⟨_, _, rfl, by (repeat (first | exact Below.refl _ _ | assumption | (refine Below.drew ?_) | (refine below_alloc ?_ _) | (refine Below.setCell ?_ (by first | (simp; done) | (simp; omega) | omega | (have hq := hB.size; (try simp at hq ⊢); omega)) _) | (refine Below.alloc ?_ (by first | (simp; done) | (simp; omega) | omega | (have hq := hB.size; (try simp at hq ⊢); omega)) _) | (refine below_step ?_ (by assumption))))⟩
      · simp only [hvV_yes hvo] at hH
        have HS := Lib.hid (hs_yes hst hvo)
        clear hst hvo
        revert hH HS
        generalize hT t u (v (k * 2)) (v (k * 2 + 1)) = X
        generalize hB' t u (v (k * 2)) (v (k * 2 + 1)) = Y
        generalize hT t u (ng (v (k * 2))) (v (k * 2 + 1)) = P
        generalize hB' t u (ng (v (k * 2))) (v (k * 2 + 1)) = Q
        intro hH HS
        go_wp2_with fail
        apply region_made
        case hm => kernel_rfl
        case hok => kernel_rfl
        case hsz => rfl
        case hal => kernel_rfl
        case H =>
          intro u hu
          have Ec0 := ext_cell (below_cell hu c0)
          have Ec1 := ext_cell (below_cell hu c1)
          have Ec2 := ext_cell (below_cell hu c2)
          have Ec3 := ext_cell (below_cell hu c3)
          have Ec10 := ext_cell (below_cell hu c10)
          have Ec11 := ext_cell (below_cell hu c11)
          dsimp only [List.map, tame]
          (repeat (first | go_big_quiet_step (((go_at_call 20; exact calm_of (hH _)))) | simp only [TF]))
          exact wpQuiet_nil rfl
        case hst => simp only [storesOk, true_and, and_true]; exact ⟨⟨_, rfl, sizeFraction, by simp [Value.oneCell']⟩, ⟨_, rfl, sizeFraction, by simp [Value.oneCell']⟩⟩
        intro G w1 hb hf hd
        simp only [madeFacts, true_and, and_true] at hf
        obtain ⟨⟨hg8, hh8⟩, ⟨hg9, hh9⟩⟩ := hf
        have hd8_9 := hd 8 (by decide) 9 (by decide) (by decide)
        clear hd
        dsimp only [alSlots, List.filterMap, putAll]
        have c6 : w1.cell? ⟨G 8, 0, none⟩ = some (.int .i64 X) := made_cell hh8 rfl
        have c7 : w1.cell? ⟨G 8, 1, none⟩ = some (.int .i64 Y) := made_cell hh8 rfl
        clear hh8
        have c8 : w1.cell? ⟨G 9, 0, none⟩ = some (.int .i64 P) := made_cell hh9 rfl
        have c9 : w1.cell? ⟨G 9, 1, none⟩ = some (.int .i64 Q) := made_cell hh9 rfl
        clear hh9
        generalize G 8 = g8 at *
        generalize G 9 = g9 at *
        simp only [Act.put, List.setIfInBounds_toArray, List.set_cons_succ, List.set_cons_zero]
        (replace c0 := below_cell hb c0; replace c1 := below_cell hb c1; replace c2 := below_cell hb c2; replace c3 := below_cell hb c3; replace c10 := below_cell hb c10; replace c11 := below_cell hb c11; replace p0 := OwnS.below p0 hb; replace hB := below_step hB hb; clear hb)
        go_wp2_with fail
        have p0 := OwnS.pop p0 HL.out
        have n9 : g8 ≠ g := by omega
        have n10 : g9 ≠ g := by omega
        have hBs : w.heap.size ≤ w1.heap.size := hB.size
        have hba : ∀ X, Below w1.heap.size w1 ((w1.alloc X).drew) := fun X => (below_alloc (Below.refl _ _) X).drew
        have HBA := Lib.hid hba; clear hba
        have b0 : (0 : Int) ≤ (k : Int) := Int.natCast_nonneg _
        have b1 : (k : Int) ≤ (cap : Int) := by omega
        have e1 : IntKind.i64.wrap ((k : Int) + 1 - 1) = (k : Int) := by rw [IntWalk.i64_in _ (by omega)]; omega
        have e2 : IntKind.i64.wrap (k : Int) = (k : Int) := IntWalk.i64_in _ (by omega)
        obtain ⟨i0, hi0, hz0, hz1, hz2⟩ := info_parts infoFraction
        go_region_held3 (fun w' => w'.cell? ⟨g8, 0, none⟩ = some (.int .i64 X) ∧ w'.cell? ⟨g8, 1, none⟩ = some (.int .i64 Y) ∧ w'.cell? ⟨g9, 0, none⟩ = some (.int .i64 P) ∧ w'.cell? ⟨g9, 1, none⟩ = some (.int .i64 Q))
          (first
            | go_keep
            | (exact ⟨only_cell hgrow (below_cell (HBA.out _) c6) n9, only_cell hgrow (below_cell (HBA.out _) c7) n9, only_cell hgrow (below_cell (HBA.out _) c8) n10, only_cell hgrow (below_cell (HBA.out _) c9) n10⟩))
          ((refine step_append_lies _ (by rfl) _ _ _ (by rfl) w.heap.size 25 i0 _ 2 16 Try.underlying35 hi0 hz0 hz1 hz2 rfl (by omega) _ k (m.map (Value.int .i64)) (by rfl) ((World.ownsRow.alloc p0 _).drew)
                ⟨w1.heap.size, 0, none⟩ 2 2 [.int .i64 X, .int .i64 Y, .int .i64 P, .int .i64 Q] (by rfl) (by rfl) (World.news_of_block (cs := #[.int .i64 X, .int .i64 Y, .int .i64 P, .int .i64 Q]) (t := 25) (fr := (0, 0)) (heap_alloc_new w1 _)) (by simp [Value.oneCell'])
                (by omega) (by unfold maxLen; omega) (by omega) (by simp; omega) (w1.heap.size + 1) (by simp) ?_; intro gg cap1 w2 hown1 hgrow hat hlt))
        clear e1 e2 b0 b1
        go_wp2
        go_roundw
        case rel =>
          have hgg : g = gg ∨ gg = w1.heap.size + 1 := by
            rcases hat with h | h
            · left; have h' : some g = some gg := h
              injection h'
            · exact Or.inr h
          refine ⟨k + 1, _, P, Q, by omega, by go_num, HS.out, ?_, ?_, ?_, ?_, ?_⟩
          · unfold OwnS
            simpa using hown1
          · exact only_cell hgrow (below_cell (HBA.out _) c10) (by simp only; omega)
          · exact only_cell hgrow (below_cell (HBA.out _) c11) (by simp only; omega)
          · intro g' n' c' e
            injection e with e; injection e with e; injection e with e
            omega
          · refine Below.grown (below_step hB (HBA.out _)) hgrow (by simp; omega) ?_
            intro q hq
            have hq' : some g = some q := hq
            injection hq' with hq'
            omega
        case measure => simp [intOf]; omega
    · obtain rfl : k = n := by omega
      ((go_wp2_with fail); (with_reducible refine (hF _).mono ?_); rintro _ w1 ⟨rfl, hb⟩; replace c10 := below_cell hb c10; replace c11 := below_cell hb c11; replace p0 := OwnS.below p0 hb; replace hB := below_step hB hb; clear hb)
      go_wp2_with fail
      refine bodyPost_ret (by first | (simp [results, Try.results23, go_sem, *]; done) | (simp [results, Try.results23, go_sem, *]; rfl)) rfl ?_
      rw [hst]
      obtain ⟨g, cap, rfl, ⟨hg, hcap⟩, o0⟩ := p0.at
      exact ⟨g, cap, rfl, hg, o0, hB⟩
end Go.Proofs.Ytoalpihlflifmaa
