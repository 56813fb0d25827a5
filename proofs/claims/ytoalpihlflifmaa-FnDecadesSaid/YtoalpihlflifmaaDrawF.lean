/- The draws of decades: a fraction and a list of fractions. -/
import Derived.Test.YtoalpihlflifmaaDraw
import Derived.Test.YtoalpihlflifmaaDecA
import Derived.Laws.AppendOwn
namespace Go.Proofs.Ytoalpihlflifmaa
open Go.RowKit
set_option linter.unusedSimpArgs false
set_option linter.unusedVariables false
set_option maxHeartbeats 4000000
theorem Cur.push {w w' : World} {D g : Nat} (h : Cur w D g) {row : Option Nat} (hg : w.grownBy w' row) (hr : ∀ q, row = some q → D ≤ q ∧ q ≠ g) : Cur w' D g := by
  cases row with
  | none => exact h.below ⟨hg.os, hg.tape, hg.output, hg.size, fun k hk => hg.block k hk (by simp)⟩
  | some q => exact h.grown hg (hr q rfl).1 (hr q rfl).2
theorem only_push {a w w' : World} {g : Nat} (h : a.grownBy w (some g)) {row : Option Nat} (hg : w.grownBy w' row) (hr : ∀ q, row = some q → a.heap.size ≤ q) : a.grownBy w' (some g) :=
  ⟨hg.os.trans h.os, hg.tape.trans h.tape, hg.output.trans h.output, Nat.le_trans h.size hg.size, fun k hk hne => (hg.block k (Nat.lt_of_lt_of_le hk h.size) (fun e => by have := hr k e.symm; omega)).trans (h.block k hk hne)⟩
theorem OwnS.base {w : World} {B g n : Nat} {s : Value} {l : List Int} (h : OwnS w B s n l) (hg : s.ownBlock = some g) : B ≤ g ∧ g < w.heap.size := by
  rcases h.2 with ⟨rfl, _⟩ | ⟨g', cap, cur, rfl, hb, hh, _⟩
  · simp [Value.ownBlock] at hg
  · simp [Value.ownBlock] at hg
    subst hg
    exact ⟨hb, (Array.getElem?_eq_some_iff.1 hh).1⟩
theorem OwnS.only {w w' : World} {B g n : Nat} {s : Value} {l : List Int} (h : OwnS w B s n l) (hg : w.grownBy w' (some g)) (hgB : g < B) : OwnS w' B s n l :=
  World.ownsRow.kept h hg (by
    cases hs : s.ownBlock with
    | none => exact Or.inl rfl
    | some q => right; have := (h.base hs).1; intro e; injection e with e; omega)
theorem OwnS.empty {w : World} {B : Nat} (hB : B ≤ w.heap.size) : OwnS (w.alloc (.cells #[] 25)) B (.slice (some ⟨w.heap.size, 0, none⟩) 0 0) 0 [] :=
  ⟨by simp, Or.inr ⟨w.heap.size, 0, #[], rfl, hB, heap_alloc_new w _, Nat.le_refl _, by unfold maxLen; omega, by simp, by simp⟩⟩
theorem OwnS.out {w : World} {B n : Nat} {s : Value} {l : List Int} (h : OwnS w B s n l) (hl : l.length = n * 2) : ∃ A c, s = .slice A n c ∧ Fl w A n 2 (fun j => l.getD j 0) ∧ ∀ b off, A = some ⟨b, off, none⟩ → B ≤ b := by
  rcases h.2 with ⟨rfl, h0⟩ | ⟨g, cap, cur, rfl, hb, hh, hl2, hm, hsz, ht⟩
  · exact ⟨none, 0, by rw [h0], by rw [h0]; exact Fl.nil, fun b off e => by cases e⟩
  · refine ⟨some ⟨g, 0, none⟩, cap, rfl, fun _ => ⟨g, 0, rfl, fun j hj => ?_⟩, fun b off e => by injection e with e; injection e with e1 e2; omega⟩
    have hj' : j < l.length := by omega
    have h1 : (cur.toList.take (n * 2))[j]? = (l.map (Value.int .i64))[j]? := by rw [ht]
    rw [List.getElem?_take] at h1
    simp only [hj, if_true, Array.getElem?_toList, List.getElem?_map, List.getElem?_eq_getElem hj', Option.map_some] at h1
    simp [World.cell?, hh, h1, List.getElem?_eq_getElem hj']
/-- One fraction appended to a slice of the call's own. -/
theorem push_frac {ops : Array Oper} {rest : List Oper} {o : Oper} {a : Act} {Q : Exit → Act → World → Prop} {wr : World} (hgd : o.guard = none) (s x : Operand)
    (ho : o.op = .call { callee := .builtin .append, args := #[s, x], argTypes := #[35, 35] }) (B : Nat) (sv : Value) (n : Nat) (l : List Int) (y0 y1 : Int) (hs : a.eval s = sv)
    (H : Nat) (hx : a.eval x = .slice (some ⟨H, 0, none⟩) 1 1) (hH : wr.heap.size = H) (hown : OwnS wr B sv n l) (hlen : n ≤ 1048576) (hB : B ≤ wr.heap.size)
    (h : ∀ v' w', OwnS w' B v' (n + 1) (l ++ [y0, y1]) → wr.grownBy w' sv.ownBlock → wpList Try.prog ops Q rest (a.put o.dst v') w') :
    wpList Try.prog ops Q (o :: rest) a (wr.alloc (.cells #[.int .i64 y0, .int .i64 y1] 25)) := by
  subst hH
  obtain ⟨i0, hi, hz0, hz1, hz2⟩ := info_parts infoFraction
  refine wpList_append_own _ hgd s x 35 ho B 25 i0 (.agg #[.int .i64 0, .int .i64 0]) 2 16 Try.underlying35 hi hz0 hz1 hz2 rfl (by decide) sv n (l.map (Value.int .i64)) hs (World.ownsRow.alloc hown _) ⟨wr.heap.size, 0, none⟩ 1 1 [.int .i64 y0, .int .i64 y1] hx rfl
    ?_ ?_ ?_ ?_ ?_ ?_
  · intro j u hj
    match j, hj with
    | 0, hj => simp at hj; subst hj; simp [Addr.add]
    | 1, hj => simp at hj; subst hj; simp [Addr.add]
  · intro u hu
    simp at hu
    rcases hu with rfl | rfl <;> rfl
  · unfold maxLen; omega
  · omega
  · simp; omega
  · intro v' w' h1 h2 _
    refine h v' w' ?_ ?_
    · unfold OwnS; simpa using h1
    · have h3 : wr.grownBy (wr.alloc (.cells #[.int .i64 y0, .int .i64 y1] 25)) none := World.grownBy_alloc wr _ none
      refine ⟨h2.os.trans h3.os, h2.tape.trans h3.tape, h2.output.trans h3.output, Nat.le_trans h3.size h2.size, fun k hk hne => ?_⟩
      rw [h2.block k (Nat.lt_of_lt_of_le hk h3.size) hne, h3.block k hk (by simp)]
theorem make_rep {t u : Int} (ht : -20 ≤ t ∧ t ≤ 20) (hu : 1 ≤ u ∧ u ≤ 12) : ∃ a b, mkV t u = .tuple #[.agg #[.int .i64 a, .int .i64 b], .bool true] ∧ Rep u t a b := by
  obtain ⟨h1, h2⟩ := red_rep (t := t) (u := u) (N := u) (x := t) (by omega) (by omega) (by omega) (by omega) rfl
  exact ⟨_, _, by rw [mkV_yes (by omega) (inB_iff.2 (by omega)) (inB_iff.2 (by omega)), redV_yes h1], h1, h2⟩
/-- The first n pairs of a list are small fractions. -/
def okF (n : Nat) (l : List Int) : Prop := ∀ k, k < n → ∃ t u, (-10 ≤ t ∧ t ≤ 10) ∧ (1 ≤ u ∧ u ≤ 6) ∧ Rep u t (l.getD (k * 2) 0) (l.getD (k * 2 + 1) 0)
theorem okF_push {n : Nat} {l : List Int} {a b t u : Int} (h : okF n l) (hl : l.length = n * 2) (ht : -10 ≤ t ∧ t ≤ 10) (hu : 1 ≤ u ∧ u ≤ 6) (hr : Rep u t a b) : okF (n + 1) (l ++ [a, b]) := by
  intro k hk
  have e : ∀ i, i < n * 2 → (l ++ [a, b]).getD i 0 = l.getD i 0 := fun i hi => by
    simp only [List.getD]
    rw [List.getElem?_append_left (by omega)]
  rcases Nat.lt_or_ge k n with h1 | h1
  · rw [e _ (by omega), e _ (by omega)]
    exact h k h1
  · obtain rfl : k = n := by omega
    rw [getD_app0 hl, getD_app1 hl]
    exact ⟨t, u, ht, hu, hr⟩
theorem spec_l02Fraction (w : World) (D g : Nat) (hc : Cur w D g) (hDw : D ≤ w.heap.size) : Calls Try.prog 58 #[.pointer (some ⟨g, 0, none⟩)] w fun e w' => ∃ (a b : Int), e = .returned (.agg #[.int .i64 a, .int .i64 b]) ∧
    (∃ t u : Int, (-20 ≤ t ∧ t ≤ 20) ∧ (1 ≤ u ∧ u ≤ 12) ∧ Rep u t a b) ∧ Cur w' D g ∧ w.grownBy w' (some g) := by
  have hgl := hc.lt
  have hO : w.grownBy w (some g) := only_refl _ _
  obtain ⟨W, hW⟩ : ∃ W, W = (w.alloc (.cells #[.int .i64 0, .int .i64 0] 25)) := ⟨_, rfl⟩
  have c0 : W.cell? ⟨w.heap.size, 0, none⟩ = some (.int .i64 0) := by rw [hW]; simp [go_sem]
  have z0 : W.frozen? ⟨w.heap.size, 0, none⟩ = false := by rw [hW]; simp [go_sem]
  have c1 : W.cell? ⟨w.heap.size, 1, none⟩ = some (.int .i64 0) := by rw [hW]; simp [go_sem]
  have z1 : W.frozen? ⟨w.heap.size, 1, none⟩ = false := by rw [hW]; simp [go_sem]
  have hB : Below w.heap.size w W := by rw [hW]; exact ((Below.refl _ _).alloc (by simp <;> omega) _)
  subst hW
  clear hB
  go_enter Try.func58, Try.ntmps58
  ((go_wp2_with fail); (with_reducible refine (spec_Below _ D g ?hcur _).mono ?_); (case hcur => (repeat (first | (with_reducible assumption) | (with_reducible refine Cur.drew ?_) | (with_reducible refine Cur.drewN ?_ _) | (with_reducible refine Cur.set ?_ (by first | (simp; done) | (simp; omega) | omega) (by first | (simp; done) | (simp; omega) | omega) _) | (with_reducible refine Cur.below ?_ (below_alloc (Below.refl _ _) _)) | (with_reducible refine Cur.below ?_ (by with_reducible assumption))))); rintro _ w1 ⟨x, rfl, ⟨hx0, hx1, _⟩, hcn, hg⟩; replace hO : w.grownBy w1 (some g) := only_trans (by (repeat (first | (with_reducible assumption) | (with_reducible exact only_refl _ _) | (with_reducible refine only_drew ?_) | (with_reducible refine only_drewN ?_ _) | (with_reducible refine only_alloc ?_ _) | (with_reducible refine only_setNew ?_ (by first | (simp; done) | (simp; omega) | omega) _) | (with_reducible refine only_set ?_ _ _) | (with_reducible refine only_step ?_ (by with_reducible assumption))))) hg; replace hc := hcn; clear hcn; (first | replace z0 := only_frozen hg (lt_of_cell c0) z0 (by first | (simp; done) | (simp; omega) | omega) | replace z0 := only_frozen hg (below_lt (below_alloc (Below.refl _ _) _) (lt_of_cell c0)) (below_frozen (below_alloc (Below.refl _ _) _) (lt_of_cell c0) z0) (by first | (simp; done) | (simp; omega) | omega)); (first | replace c0 := only_cell hg c0 (by first | (simp; done) | (simp; omega) | omega) | replace c0 := only_cell hg (below_cell (below_alloc (Below.refl _ _) _) c0) (by first | (simp; done) | (simp; omega) | omega)); (first | replace z1 := only_frozen hg (lt_of_cell c1) z1 (by first | (simp; done) | (simp; omega) | omega) | replace z1 := only_frozen hg (below_lt (below_alloc (Below.refl _ _) _) (lt_of_cell c1)) (below_frozen (below_alloc (Below.refl _ _) _) (lt_of_cell c1) z1) (by first | (simp; done) | (simp; omega) | omega)); (first | replace c1 := only_cell hg c1 (by first | (simp; done) | (simp; omega) | omega) | replace c1 := only_cell hg (below_cell (below_alloc (Below.refl _ _) _) c1) (by first | (simp; done) | (simp; omega) | omega)); clear hg)
  have hx1 := hx1 (by decide)
  ((go_wp2_with fail); (with_reducible refine (spec_Below _ D g ?hcur _).mono ?_); (case hcur => (repeat (first | (with_reducible assumption) | (with_reducible refine Cur.drew ?_) | (with_reducible refine Cur.drewN ?_ _) | (with_reducible refine Cur.set ?_ (by first | (simp; done) | (simp; omega) | omega) (by first | (simp; done) | (simp; omega) | omega) _) | (with_reducible refine Cur.below ?_ (below_alloc (Below.refl _ _) _)) | (with_reducible refine Cur.below ?_ (by with_reducible assumption))))); rintro _ w1 ⟨y, rfl, ⟨hy0, hy1, _⟩, hcn, hg⟩; replace hO : w.grownBy w1 (some g) := only_trans (by (repeat (first | (with_reducible assumption) | (with_reducible exact only_refl _ _) | (with_reducible refine only_drew ?_) | (with_reducible refine only_drewN ?_ _) | (with_reducible refine only_alloc ?_ _) | (with_reducible refine only_setNew ?_ (by first | (simp; done) | (simp; omega) | omega) _) | (with_reducible refine only_set ?_ _ _) | (with_reducible refine only_step ?_ (by with_reducible assumption))))) hg; replace hc := hcn; clear hcn; (first | replace z0 := only_frozen hg (lt_of_cell c0) z0 (by first | (simp; done) | (simp; omega) | omega) | replace z0 := only_frozen hg (below_lt (below_alloc (Below.refl _ _) _) (lt_of_cell c0)) (below_frozen (below_alloc (Below.refl _ _) _) (lt_of_cell c0) z0) (by first | (simp; done) | (simp; omega) | omega)); (first | replace c0 := only_cell hg c0 (by first | (simp; done) | (simp; omega) | omega) | replace c0 := only_cell hg (below_cell (below_alloc (Below.refl _ _) _) c0) (by first | (simp; done) | (simp; omega) | omega)); (first | replace z1 := only_frozen hg (lt_of_cell c1) z1 (by first | (simp; done) | (simp; omega) | omega) | replace z1 := only_frozen hg (below_lt (below_alloc (Below.refl _ _) _) (lt_of_cell c1)) (below_frozen (below_alloc (Below.refl _ _) _) (lt_of_cell c1) z1) (by first | (simp; done) | (simp; omega) | omega)); (first | replace c1 := only_cell hg c1 (by first | (simp; done) | (simp; omega) | omega) | replace c1 := only_cell hg (below_cell (below_alloc (Below.refl _ _) _) c1) (by first | (simp; done) | (simp; omega) | omega)); clear hg)
  have hy1 := hy1 (by decide)
  obtain ⟨a, b, hmk, hrep⟩ := make_rep (t := x - 20) (u := 1 + y) (by omega) (by omega)
  have hM := fun w => spec_Make (x - 20) (1 + y) w
  simp only [hmk] at hM
  clear hmk
  have HREP := Lib.hid hrep; clear hrep
  ((go_wp2_with fail); (with_reducible refine (hM _).mono ?_); rintro _ w1 ⟨rfl, hb⟩; have hO : w.grownBy w1 (some g) := only_step (by (repeat (first | (with_reducible assumption) | (with_reducible exact only_refl _ _) | (with_reducible refine only_drew ?_) | (with_reducible refine only_drewN ?_ _) | (with_reducible refine only_alloc ?_ _) | (with_reducible refine only_setNew ?_ (by first | (simp; done) | (simp; omega) | omega) _) | (with_reducible refine only_set ?_ _ _) | (with_reducible refine only_step ?_ (by with_reducible assumption))))) hb; have hc := Cur.below (by (repeat (first | (with_reducible assumption) | (with_reducible refine Cur.drew ?_) | (with_reducible refine Cur.drewN ?_ _) | (with_reducible refine Cur.set ?_ (by first | (simp; done) | (simp; omega) | omega) (by first | (simp; done) | (simp; omega) | omega) _) | (with_reducible refine Cur.below ?_ (below_alloc (Below.refl _ _) _)) | (with_reducible refine Cur.below ?_ (by with_reducible assumption))))) hb; (first | replace z0 := below_frozen hb (lt_of_cell c0) z0 | replace z0 := below_frozen hb (below_lt (below_alloc (Below.refl _ _) _) (lt_of_cell c0)) (below_frozen (below_alloc (Below.refl _ _) _) (lt_of_cell c0) z0)); (first | replace c0 := below_cell hb c0 | replace c0 := below_cell hb (below_cell (below_alloc (Below.refl _ _) _) c0)); (first | replace z1 := below_frozen hb (lt_of_cell c1) z1 | replace z1 := below_frozen hb (below_lt (below_alloc (Below.refl _ _) _) (lt_of_cell c1)) (below_frozen (below_alloc (Below.refl _ _) _) (lt_of_cell c1) z1)); (first | replace c1 := below_cell hb c1 | replace c1 := below_cell hb (below_cell (below_alloc (Below.refl _ _) _) c1)); clear hb)
  have l0 := lt_of_cell c0
  simp only at l0
  have hs1 := hO.size
  have hgne : g ≠ w.heap.size := by omega
  go_wp2_with fail
  refine bodyPost_ret (by first | (simp [results, Try.results58, go_sem, *]; done) | (simp [results, Try.results58, go_sem, *]; rfl)) rfl ?_
  exact ⟨a, b, rfl, ⟨x - 20, 1 + y, by omega, by omega, HREP.out⟩, by (repeat (first | (with_reducible assumption) | (with_reducible refine Cur.drew ?_) | (with_reducible refine Cur.drewN ?_ _) | (with_reducible refine Cur.set ?_ (by first | (simp; done) | (simp; omega) | omega) (by first | (simp; done) | (simp; omega) | omega) _) | (with_reducible refine Cur.below ?_ (below_alloc (Below.refl _ _) _)) | (with_reducible refine Cur.below ?_ (by with_reducible assumption)))), by (repeat (first | (with_reducible assumption) | (with_reducible exact only_refl _ _) | (with_reducible refine only_drew ?_) | (with_reducible refine only_drewN ?_ _) | (with_reducible refine only_alloc ?_ _) | (with_reducible refine only_setNew ?_ (by first | (simp; done) | (simp; omega) | omega) _) | (with_reducible refine only_set ?_ _ _) | (with_reducible refine only_step ?_ (by with_reducible assumption))))⟩
set_option maxRecDepth 100000 in
theorem spec_l26List (w : World) (D g : Nat) (hc : Cur w D g) (hDw : D ≤ w.heap.size) : Calls Try.prog 59 #[.pointer (some ⟨g, 0, none⟩), .int .i64 4] w fun e w' => ∃ (A : Option Addr) (c : Nat) (l : List Int), e = .returned (.slice A 4 c) ∧
    (Fl w' A 4 2 (fun j => l.getD j 0) ∧ (∀ b off, A = some ⟨b, off, none⟩ → w.heap.size ≤ b) ∧ okF 4 l) ∧ Cur w' D g ∧ w.grownBy w' (some g) := by
  have hgl := hc.lt
  have hO : w.grownBy w (some g) := only_refl _ _
  have k0 : OwnS (w.alloc (.cells #[] 25)) w.heap.size (.slice (some ⟨w.heap.size, 0, none⟩) 0 0) 0 [] := OwnS.empty (Nat.le_refl _)
  have hb0 := below_alloc (Below.refl w.heap.size w) (.cells #[] 25)
  replace hc := hc.below hb0
  replace hO := only_step hO hb0
  go_enter Try.func59, Try.ntmps59
  go_wp2_with fail
  go_loopw [5, 6] (fun s i wr => ∃ (j : Nat) (l : List Int), j ≤ 4 ∧ i = .int .i64 j ∧ OwnS wr w.heap.size s j l ∧ (l.length = j * 2 ∧ okF j l) ∧ Cur wr D g ∧ w.grownBy wr (some g)) (fun _ i _ => 4 - (intOf i).toNat)
  case atStart => exact ⟨0, [], by omega, rfl, k0, ⟨rfl, fun k hk => absurd hk (by omega)⟩, hc, hO⟩
  case round =>
    clear k0 hc hO hb0
    obtain ⟨j, l, hj, rfl, p0, ⟨hl, hok⟩, hc, hO⟩ := hrel
    have HL := Lib.hid hl; clear hl
    have HP := Lib.hid hok; clear hok
    by_cases hjN : j < 4
    · ((go_wp2_with fail); (with_reducible refine (spec_Below _ D g ?hcur _).mono ?_); (case hcur => (repeat (first | (with_reducible assumption) | (with_reducible refine Cur.drew ?_) | (with_reducible refine Cur.drewN ?_ _) | (with_reducible refine Cur.set ?_ (by first | (simp; done) | (simp; omega) | omega) (by first | (simp; done) | (simp; omega) | omega) _) | (with_reducible refine Cur.below ?_ (below_alloc (Below.refl _ _) _)) | (with_reducible refine Cur.below ?_ (by with_reducible assumption))))); rintro _ w1 ⟨x, rfl, ⟨hx0, hx1, _⟩, hcn, hg⟩; replace hO : w.grownBy w1 (some g) := only_trans (by (repeat (first | (with_reducible assumption) | (with_reducible exact only_refl _ _) | (with_reducible refine only_drew ?_) | (with_reducible refine only_drewN ?_ _) | (with_reducible refine only_alloc ?_ _) | (with_reducible refine only_setNew ?_ (by first | (simp; done) | (simp; omega) | omega) _) | (with_reducible refine only_set ?_ _ _) | (with_reducible refine only_step ?_ (by with_reducible assumption))))) hg; replace hc := hcn; clear hcn; replace p0 := OwnS.only p0 hg (by omega); clear hg)
      have hx1 := hx1 (by decide)
      ((go_wp2_with fail); (with_reducible refine (spec_Below _ D g ?hcur _).mono ?_); (case hcur => (repeat (first | (with_reducible assumption) | (with_reducible refine Cur.drew ?_) | (with_reducible refine Cur.drewN ?_ _) | (with_reducible refine Cur.set ?_ (by first | (simp; done) | (simp; omega) | omega) (by first | (simp; done) | (simp; omega) | omega) _) | (with_reducible refine Cur.below ?_ (below_alloc (Below.refl _ _) _)) | (with_reducible refine Cur.below ?_ (by with_reducible assumption))))); rintro _ w1 ⟨y, rfl, ⟨hy0, hy1, _⟩, hcn, hg⟩; replace hO : w.grownBy w1 (some g) := only_trans (by (repeat (first | (with_reducible assumption) | (with_reducible exact only_refl _ _) | (with_reducible refine only_drew ?_) | (with_reducible refine only_drewN ?_ _) | (with_reducible refine only_alloc ?_ _) | (with_reducible refine only_setNew ?_ (by first | (simp; done) | (simp; omega) | omega) _) | (with_reducible refine only_set ?_ _ _) | (with_reducible refine only_step ?_ (by with_reducible assumption))))) hg; replace hc := hcn; clear hcn; replace p0 := OwnS.only p0 hg (by omega); clear hg)
      have hy1 := hy1 (by decide)
      obtain ⟨a, b, hmk, hrep⟩ := make_rep (t := x - 10) (u := 1 + y) (by omega) (by omega)
      have hM := fun w => spec_Make (x - 10) (1 + y) w
      simp only [hmk] at hM
      clear hmk
      have HREP := Lib.hid hrep; clear hrep
      (go_wp2_with fail)
      with_reducible refine (hM _).mono ?_
      rintro _ w1 ⟨rfl, hb⟩
      replace hO := only_step hO hb
      replace hc := hc.below hb
      replace p0 := OwnS.below p0 hb
      clear hb
      have hb := below_alloc (Below.refl w1.heap.size w1) (.cells #[.int .i64 a, .int .i64 b] 25)
      have hO2 := only_step hO hb
      have hc2 := hc.below hb
      have p1 := OwnS.below p0 hb
      clear hO hc p0 hb
      have hs2 := hO2.size
      have hbq := fun q h => (p1.base (g := q) h).1
      have HB0 := Lib.hid hbq; clear hbq
      have HC := Lib.hid hc2; clear hc2
      have HO := Lib.hid hO2; clear hO2
      go_wp2_with (at_builtin; refine push_frac rfl (.tmp 25) (.tmp 27) rfl w.heap.size _ j l _ _ rfl _ rfl (by simp) p1 (by omega) hs2 ?_; intro s' w2 hown hgrow; have HG := Lib.hid hgrow; clear hgrow; have HW := Lib.hid hown; clear hown)
      go_roundw
      case rel =>
        refine ⟨j + 1, _, by omega, by go_num, HW.out, ⟨by simp [HL.out]; omega, okF_push HP.out HL.out (t := x - 10) (u := 1 + y) (by omega) (by omega) HREP.out⟩, HC.out.push HG.out (fun q h => ?_), only_push HO.out HG.out HB0.out⟩
        have := HB0.out q h; omega
      case measure => simp [intOf]; omega
    · obtain rfl : j = 4 := by omega
      obtain ⟨A, c, rfl, f0, hA⟩ := p0.out HL.out
      have HF := Lib.hid f0; clear f0
      have HC := Lib.hid hc; clear hc
      have HO := Lib.hid hO; clear hO
      go_wp2_with fail
      go_ret
      exact ⟨A, c, l, rfl, ⟨HF.out, hA, HP.out⟩, HC.out, HO.out⟩
theorem spec_DrawDecade (A : Option Addr) (n k : Nat) (v : Nat → Int) (w : World) (hn : n ≤ 1048576) (hF : Fb w A n v) : Calls Try.prog 30 #[.slice A n k] w fun e w' => ∃ (a b : Int) (A1 : Option Addr) (c : Nat) (l : List Int),
    e = .returned (.tuple #[.agg #[.int .i64 a, .int .i64 b], .slice A1 4 c]) ∧ ((∃ t u : Int, (-20 ≤ t ∧ t ≤ 20) ∧ (1 ≤ u ∧ u ≤ 12) ∧ Rep u t a b) ∧ Fl w' A1 4 2 (fun j => l.getD j 0) ∧ okF 4 l) ∧ Below w.heap.size w w' := by
  have HA := Lib.hid hF.lt
  have HF := Lib.hid hF; clear hF
  obtain ⟨W, hW⟩ : ∃ W, W = (w.alloc (.cells #[.int .i64 0, .int .i64 0] 25)) := ⟨_, rfl⟩
  have c0 : W.cell? ⟨w.heap.size, 0, none⟩ = some (.int .i64 0) := by rw [hW]; simp [go_sem]
  have z0 : W.frozen? ⟨w.heap.size, 0, none⟩ = false := by rw [hW]; simp [go_sem]
  have c1 : W.cell? ⟨w.heap.size, 1, none⟩ = some (.int .i64 0) := by rw [hW]; simp [go_sem]
  have z1 : W.frozen? ⟨w.heap.size, 1, none⟩ = false := by rw [hW]; simp [go_sem]
  have hB : Below w.heap.size w W := by rw [hW]; exact ((Below.refl _ _).alloc (by simp <;> omega) _)
  subst hW
  go_enter Try.func30, Try.ntmps30
  go_wp2_with fail
  with_reducible refine (spec_New A n k v _ hn (HF.out.below hB) (w.heap.size + 1) (by simp) (fun h b off e => by have := HA.out h b off e; omega)).mono ?_
  rintro _ w1 ⟨g, rfl, hg0, hc, hb⟩
  have hs0 : w.heap.size + 1 ≤ w1.heap.size := by have := hb.size; simp at this; omega
  have hO : w.grownBy w1 (some g) := only_step (only_of_below hB) hb
  replace z0 := below_frozen hb (lt_of_cell c0) z0; replace c0 := below_cell hb c0; replace z1 := below_frozen hb (lt_of_cell c1) z1; replace c1 := below_cell hb c1
  have hgw : w.heap.size < g := by simp at hg0; omega
  clear hb
  go_wp2_with fail
  with_reducible refine (spec_l02Fraction _ (w.heap.size + 1) g ?hcur hs0).mono ?_
  case hcur => (repeat (first | (with_reducible assumption) | (with_reducible refine Cur.drew ?_) | (with_reducible refine Cur.drewN ?_ _) | (with_reducible refine Cur.set ?_ (by first | (simp; done) | (simp; omega) | omega) (by first | (simp; done) | (simp; omega) | omega) _) | (with_reducible refine Cur.below ?_ (below_alloc (Below.refl _ _) _)) | (with_reducible refine Cur.below ?_ (by with_reducible assumption))))
  rintro _ w2 ⟨a, b, rfl, hrep, hcn, hg⟩
  have HREP := Lib.hid hrep; clear hrep
  replace hO : w.grownBy w2 (some g) := only_trans hO hg
  replace z0 := only_frozen hg (lt_of_cell c0) z0 (by simp only; omega); replace c0 := only_cell hg c0 (by simp only; omega); replace z1 := only_frozen hg (lt_of_cell c1) z1 (by simp only; omega); replace c1 := only_cell hg c1 (by simp only; omega)
  have hs1 := Nat.le_trans hs0 hg.size
  clear hc hg
  go_wp2_with fail
  with_reducible refine (spec_l26List _ (w.heap.size + 1) g ?hcur hs1).mono ?_
  case hcur => exact hcn
  rintro _ w3 ⟨A1, c, l, rfl, ⟨f0, hA1, hok⟩, hcn2, hg⟩
  replace hO : w.grownBy w3 (some g) := only_trans hO hg
  replace z0 := only_frozen hg (lt_of_cell c0) z0 (by simp only; omega); replace c0 := only_cell hg c0 (by simp only; omega); replace z1 := only_frozen hg (lt_of_cell c1) z1 (by simp only; omega); replace c1 := only_cell hg c1 (by simp only; omega)
  have hs2 := Nat.le_trans hs1 hg.size
  have l0 : w.heap.size < w3.heap.size := by omega
  have HP := Lib.hid hok; clear hok
  have hf2 : ∀ u0 u1, Fl ((w3.setCell ⟨w.heap.size, 0, none⟩ u0).setCell ⟨w.heap.size, 1, none⟩ u1) A1 4 2 (fun j => l.getD j 0) := fun u0 u1 =>
    f0.only (g := w.heap.size) (only_set (only_set (only_refl _ _) _ _) _ _) (fun b off e => by have := hA1 b off e; omega)
  have HF2 := Lib.hid hf2; clear hf2 f0
  have hbb : Below w.heap.size w w3 := only_below (Below.refl _ _) hO (by omega)
  have HBB := Lib.hid hbb; clear hbb
  clear hcn hcn2 hg hO hA1
  go_wp2_with fail
  refine bodyPost_ret (by first | (simp [results, Try.results30, go_sem, *]; done) | (simp [results, Try.results30, go_sem, *]; rfl)) rfl ?_
  refine ⟨a, b, A1, c, l, rfl, ⟨HREP.out, HF2.out _ _, HP.out⟩, ?_⟩
  have hB := HBB.out
  (repeat (first | exact Below.refl _ _ | assumption | (refine Below.drew ?_) | (refine below_alloc ?_ _) | (refine Below.setCell ?_ (by first | (simp; done) | (simp; omega) | omega | (have hq := hB.size; (try simp at hq ⊢); omega)) _) | (refine Below.alloc ?_ (by first | (simp; done) | (simp; omega) | omega | (have hq := hB.size; (try simp at hq ⊢); omega)) _) | (refine below_step ?_ (by assumption))))
end Go.Proofs.Ytoalpihlflifmaa
