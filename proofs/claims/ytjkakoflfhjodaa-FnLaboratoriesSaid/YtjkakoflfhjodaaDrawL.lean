/- The draws of spans: DrawSpans returns 1 to 7 valid spans. -/
import Derived.Test.YtjkakoflfhjodaaDraw
import Derived.Test.YtjkakoflfhjodaaSpanS
import Derived.Test.YtjkakoflfhjodaaSpans
import Derived.Laws.AppendOwn
namespace Go.Proofs.Ytjkakoflfhjodaa
open Go.RowKit
set_option linter.unusedSimpArgs false
set_option linter.unusedVariables false
set_option maxHeartbeats 4000000
theorem Cur.push {w w' : World} {D g : Nat} (h : Cur w D g) {row : Option Nat} (hg : w.grownBy w' row) (hr : ∀ q, row = some q → D ≤ q ∧ q ≠ g) : Cur w' D g := by
  cases row with
  | none => exact h.below ⟨hg.os, hg.tape, hg.output, hg.size, fun k hk => hg.block k hk (by simp)⟩
  | some q => exact h.grown hg (hr q rfl).1 (hr q rfl).2
theorem only_push {a w w' : World} {g : Nat} (h : a.grownBy w (some g)) {row : Option Nat} (hg : w.grownBy w' row) (hr : ∀ q, row = some q → a.heap.size ≤ q) : a.grownBy w' (some g) :=
  ⟨hg.os.trans h.os, hg.tape.trans h.tape, hg.output.trans h.output, Nat.le_trans h.size hg.size, fun k hk hne => (hg.block k (Nat.lt_of_lt_of_le hk h.size) (fun e => by have := hr k e.symm; omega)).trans (h.block k hk hne)⟩
/-- A slice of n spans of the call's own, which holds the numbers l, two a span. -/
def OwnC (w : World) (B : Nat) (s : Value) (n : Nat) (l : List Int) : Prop := w.ownsRow B 30 2 s n (l.map (Value.int .i64))
theorem OwnC.base {w : World} {B g n : Nat} {s : Value} {l : List Int} (h : OwnC w B s n l) (hg : s.ownBlock = some g) : B ≤ g ∧ g < w.heap.size := by
  rcases h.2 with ⟨rfl, _⟩ | ⟨g', cap, cur, rfl, hb, hh, _⟩
  · simp [Value.ownBlock] at hg
  · simp [Value.ownBlock] at hg
    subst hg
    exact ⟨hb, (Array.getElem?_eq_some_iff.1 hh).1⟩
theorem OwnC.only {w w' : World} {B g n : Nat} {s : Value} {l : List Int} (h : OwnC w B s n l) (hg : w.grownBy w' (some g)) (hgB : g < B) : OwnC w' B s n l :=
  World.ownsRow.kept h hg (by
    cases hs : s.ownBlock with
    | none => exact Or.inl rfl
    | some q => right; have := (h.base hs).1; intro e; injection e with e; omega)
theorem OwnC.empty {w : World} {B : Nat} (hB : B ≤ w.heap.size) : OwnC (w.alloc (.cells #[] 30)) B (.slice (some ⟨w.heap.size, 0, none⟩) 0 0) 0 [] :=
  ⟨by simp, Or.inr ⟨w.heap.size, 0, #[], rfl, hB, heap_alloc_new w _, Nat.le_refl _, by unfold maxLen; omega, by simp, by simp⟩⟩
theorem OwnC.out {w : World} {B n : Nat} {s : Value} {l : List Int} (h : OwnC w B s n l) (hl : l.length = n * 2) : ∃ A c, s = .slice A n c ∧ Fl w A n 2 (fun j => l.getD j 0) ∧ ∀ b off, A = some ⟨b, off, none⟩ → B ≤ b := by
  rcases h.2 with ⟨rfl, h0⟩ | ⟨g, cap, cur, rfl, hb, hh, hl2, hm, hsz, ht⟩
  · exact ⟨none, 0, by rw [h0], by rw [h0]; exact Fl.nil, fun b off e => by cases e⟩
  · refine ⟨some ⟨g, 0, none⟩, cap, rfl, fun _ => ⟨g, 0, rfl, fun j hj => ?_⟩, fun b off e => by injection e with e; injection e with e1 e2; omega⟩
    have hj' : j < l.length := by omega
    have h1 : (cur.toList.take (n * 2))[j]? = (l.map (Value.int .i64))[j]? := by rw [ht]
    rw [List.getElem?_take] at h1
    simp only [hj, if_true, Array.getElem?_toList, List.getElem?_map, List.getElem?_eq_getElem hj', Option.map_some] at h1
    simp [World.cell?, hh, h1, List.getElem?_eq_getElem hj']
/-- One span appended to a slice of the call's own. -/
theorem push_span {ops : Array Oper} {rest : List Oper} {o : Oper} {a : Act} {Q : Exit → Act → World → Prop} {wr : World} (hgd : o.guard = none) (s x : Operand)
    (ho : o.op = .call { callee := .builtin .append, args := #[s, x], argTypes := #[25, 25] }) (B : Nat) (sv : Value) (n : Nat) (l : List Int) (y0 y1 : Int) (hs : a.eval s = sv)
    (hx : a.eval x = .slice (some ⟨wr.heap.size, 0, none⟩) 1 1) (hown : OwnC wr B sv n l) (hlen : n ≤ 1048576) (hB : B ≤ wr.heap.size)
    (h : ∀ v' w', OwnC w' B v' (n + 1) (l ++ [y0, y1]) → wr.grownBy w' sv.ownBlock → wpList Try.prog ops Q rest (a.put o.dst v') w') :
    wpList Try.prog ops Q (o :: rest) a (wr.alloc (.cells #[.int .i64 y0, .int .i64 y1] 30)) := by
  obtain ⟨i0, hi, hz0, hz1, hz2⟩ := info_parts infoSpan
  refine wpList_append_own _ hgd s x 25 ho B 30 i0 (.agg #[.int .i64 0, .int .i64 0]) 2 16 Try.underlying25 hi hz0 hz1 hz2 rfl (by decide) sv n (l.map (Value.int .i64)) hs (World.ownsRow.alloc hown _) ⟨wr.heap.size, 0, none⟩ 1 1 [.int .i64 y0, .int .i64 y1] hx rfl
    ?_ ?_ ?_ ?_ ?_ ?_
  · intro j u hj
    match j, hj with
    | 0, hj => simp at hj; subst hj; simp [Addr.add]
    | 1, hj => simp at hj; subst hj; simp [Addr.add]
  · intro u hu
    simp at hu
    rcases hu with rfl | rfl <;> rfl
  · unfold maxLen; omega
  · omega
  · simp; omega
  · intro v' w' h1 h2 _
    refine h v' w' ?_ ?_
    · unfold OwnC; simpa using h1
    · have h3 : wr.grownBy (wr.alloc (.cells #[.int .i64 y0, .int .i64 y1] 30)) none := World.grownBy_alloc wr _ none
      refine ⟨h2.os.trans h3.os, h2.tape.trans h3.tape, h2.output.trans h3.output, Nat.le_trans h3.size h2.size, fun k hk hne => ?_⟩
      rw [h2.block k (Nat.lt_of_lt_of_le hk h3.size) hne, h3.block k hk (by simp)]
/-- The first n pairs of a list are spans. -/
def okL (n : Nat) (l : List Int) : Prop := ∀ k, k < n → -10 ≤ l.getD (k * 2) 0 ∧ l.getD (k * 2) 0 ≤ l.getD (k * 2 + 1) 0 ∧ l.getD (k * 2 + 1) 0 ≤ 40
theorem okL_push {n : Nat} {l : List Int} {a b : Int} (h : okL n l) (hl : l.length = n * 2) (ha : -10 ≤ a ∧ a ≤ b) (hb : b ≤ 40) : okL (n + 1) (l ++ [a, b]) := by
  intro k hk
  have e : ∀ i, i < n * 2 → (l ++ [a, b]).getD i 0 = l.getD i 0 := fun i hi => by
    simp only [List.getD]
    rw [List.getElem?_append_left (by omega)]
  have e2 : ∀ i, (l ++ [a, b]).getD (n * 2 + i) 0 = [a, b].getD i 0 := fun i => by
    simp only [List.getD]
    rw [List.getElem?_append_right (by omega), hl]
    congr 2
    omega
  rcases Nat.lt_or_ge k n with h1 | h1
  · rw [e _ (by omega), e _ (by omega)]
    exact h k h1
  · obtain rfl : k = n := by omega
    have e0 := e2 0
    rw [Nat.add_zero] at e0
    rw [e0, e2 1]
    simp
    omega
theorem spec_l32List (w : World) (D g : Nat) (hc : Cur w D g) (hDw : D ≤ w.heap.size) : Calls Try.prog 41 #[.pointer (some ⟨g, 0, none⟩)] w fun e w' => ∃ (A : Option Addr) (c n : Nat) (l : List Int), e = .returned (.slice A n c) ∧
    (Fl w' A n 2 (fun j => l.getD j 0) ∧ (1 ≤ n ∧ n ≤ 7) ∧ okL n l) ∧ Cur w' D g ∧ w.grownBy w' (some g) := by
  have hgl := hc.lt
  have hO : w.grownBy w (some g) := only_refl _ _
  have k0 : OwnC (w.alloc (.cells #[] 30)) w.heap.size (.slice (some ⟨w.heap.size, 0, none⟩) 0 0) 0 [] := OwnC.empty (Nat.le_refl _)
  go_enter Try.func41, Try.ntmps41
  ((go_wp2_with fail); (with_reducible refine (spec_Below _ D g ?hcur _).mono ?_); (case hcur => (repeat (first | (with_reducible assumption) | (with_reducible refine Cur.drew ?_) | (with_reducible refine Cur.drewN ?_ _) | (with_reducible refine Cur.set ?_ (by first | (simp; done) | (simp; omega) | omega) (by first | (simp; done) | (simp; omega) | omega) _) | (with_reducible refine Cur.below ?_ (below_alloc (Below.refl _ _) _)) | (with_reducible refine Cur.below ?_ (by with_reducible assumption))))); rintro _ w1 ⟨n, rfl, ⟨hn0, hn1, _⟩, hcn, hg⟩; replace hO : w.grownBy w1 (some g) := only_trans (by (repeat (first | (with_reducible assumption) | (with_reducible exact only_refl _ _) | (with_reducible refine only_drew ?_) | (with_reducible refine only_drewN ?_ _) | (with_reducible refine only_alloc ?_ _) | (with_reducible refine only_setNew ?_ (by first | (simp; done) | (simp; omega) | omega) _) | (with_reducible refine only_set ?_ _ _) | (with_reducible refine only_step ?_ (by with_reducible assumption))))) hg; replace hc := hcn; clear hcn; replace k0 := OwnC.only k0 hg (by omega); clear hg)
  have hn1 := hn1 (by decide)
  obtain ⟨N, hN⟩ := Int.eq_ofNat_of_zero_le hn0
  subst hN
  go_wp2_with fail
  go_loopw [3, 5, 6] (fun s i _ wr => ∃ (j : Nat) (l : List Int), j ≤ N + 1 ∧ i = .int .i64 j ∧ OwnC wr w.heap.size s j l ∧ (l.length = j * 2 ∧ okL j l) ∧ Cur wr D g ∧ w.grownBy wr (some g)) (fun _ i _ _ => N + 1 - (intOf i).toNat)
  case atStart => exact ⟨0, [], by omega, rfl, k0, ⟨rfl, fun k hk => absurd hk (by omega)⟩, hc, hO⟩
  case round =>
    clear k0 hc hO
    obtain ⟨j, l, hj, rfl, k0, ⟨hl, hok⟩, hc, hO⟩ := hrel
    have HL := Lib.hid hl; clear hl
    have HP := Lib.hid hok; clear hok
    by_cases hjN : j < N + 1
    · ((go_wp2_with fail); (with_reducible refine (spec_Below _ D g ?hcur _).mono ?_); (case hcur => (repeat (first | (with_reducible assumption) | (with_reducible refine Cur.drew ?_) | (with_reducible refine Cur.drewN ?_ _) | (with_reducible refine Cur.set ?_ (by first | (simp; done) | (simp; omega) | omega) (by first | (simp; done) | (simp; omega) | omega) _) | (with_reducible refine Cur.below ?_ (below_alloc (Below.refl _ _) _)) | (with_reducible refine Cur.below ?_ (by with_reducible assumption))))); rintro _ w1 ⟨a, rfl, ⟨ha0, ha1, _⟩, hcn, hg⟩; replace hO : w.grownBy w1 (some g) := only_trans (by (repeat (first | (with_reducible assumption) | (with_reducible exact only_refl _ _) | (with_reducible refine only_drew ?_) | (with_reducible refine only_drewN ?_ _) | (with_reducible refine only_alloc ?_ _) | (with_reducible refine only_setNew ?_ (by first | (simp; done) | (simp; omega) | omega) _) | (with_reducible refine only_set ?_ _ _) | (with_reducible refine only_step ?_ (by with_reducible assumption))))) hg; replace hc := hcn; clear hcn; replace k0 := OwnC.only k0 hg (by omega); clear hg)
      have ha1 := ha1 (by decide)
      ((go_wp2_with fail); (with_reducible refine (spec_Below _ D g ?hcur _).mono ?_); (case hcur => (repeat (first | (with_reducible assumption) | (with_reducible refine Cur.drew ?_) | (with_reducible refine Cur.drewN ?_ _) | (with_reducible refine Cur.set ?_ (by first | (simp; done) | (simp; omega) | omega) (by first | (simp; done) | (simp; omega) | omega) _) | (with_reducible refine Cur.below ?_ (below_alloc (Below.refl _ _) _)) | (with_reducible refine Cur.below ?_ (by with_reducible assumption))))); rintro _ w1 ⟨b, rfl, ⟨hb0, hb1, _⟩, hcn, hg⟩; replace hO : w.grownBy w1 (some g) := only_trans (by (repeat (first | (with_reducible assumption) | (with_reducible exact only_refl _ _) | (with_reducible refine only_drew ?_) | (with_reducible refine only_drewN ?_ _) | (with_reducible refine only_alloc ?_ _) | (with_reducible refine only_setNew ?_ (by first | (simp; done) | (simp; omega) | omega) _) | (with_reducible refine only_set ?_ _ _) | (with_reducible refine only_step ?_ (by with_reducible assumption))))) hg; replace hc := hcn; clear hcn; replace k0 := OwnC.only k0 hg (by omega); clear hg)
      have hb1 := hb1 (by decide)
      have hs2 := hO.size
      have hbq := fun q h => (k0.base (g := q) h).1
      have HB0 := Lib.hid hbq; clear hbq
      have HC := Lib.hid hc; clear hc
      have HO := Lib.hid hO; clear hO
      go_wp2_with (at_builtin; refine push_span rfl (.tmp 19) (.tmp 26) rfl w.heap.size _ j l _ _ rfl rfl k0 (by omega) hs2 ?_; intro s' w2 hown hgrow; have HG := Lib.hid hgrow; clear hgrow; have HW := Lib.hid hown; clear hown)
      go_roundw
      case rel =>
        refine ⟨j + 1, _, by omega, by go_num, HW.out, ⟨by simp [HL.out]; omega, okL_push HP.out HL.out (by omega) (by omega)⟩, HC.out.push HG.out (fun q h => ?_), only_push HO.out HG.out HB0.out⟩
        have := HB0.out q h; omega
      case measure => simp [intOf]; omega
    · obtain rfl : j = N + 1 := by omega
      obtain ⟨A, c, rfl, f0, hA⟩ := k0.out HL.out
      have HF := Lib.hid f0; clear f0
      have HC := Lib.hid hc; clear hc
      have HO := Lib.hid hO; clear hO
      go_wp2_with fail
      go_ret
      exact ⟨A, c, N + 1, l, rfl, ⟨HF.out, by omega, HP.out⟩, HC.out, HO.out⟩
theorem okL_spans {n : Nat} {l : List Int} (h : okL n l) (hn : 1 ≤ n ∧ n ≤ 7) : spansB n (fun j => l.getD j 0) = true := by
  simp only [spansB, Bool.and_eq_true, inB_iff, allN_iff]
  refine ⟨by omega, fun k hk => ?_⟩
  have := h k hk
  simp only [spanP, Bool.and_eq_true, inB_iff]
  omega
theorem spec_DrawSpans (A : Option Addr) (n k : Nat) (v : Nat → Int) (w : World) (hn : n ≤ 1048576) (hF : Fb w A n v) : Calls Try.prog 34 #[.slice A n k] w fun e w' => ∃ (A1 : Option Addr) (c m : Nat) (l : List Int),
    e = .returned (.slice A1 m c) ∧ (Fl w' A1 m 2 (fun j => l.getD j 0) ∧ (1 ≤ m ∧ m ≤ 7) ∧ okL m l) ∧ Below w.heap.size w w' := by
  have HA := Lib.hid hF.lt
  have HF := Lib.hid hF; clear hF
  go_enter Try.func34, Try.ntmps34
  go_wp2_with fail
  with_reducible refine (spec_New A n k v _ hn HF.out w.heap.size (Nat.le_refl _) HA.out).mono ?_
  rintro _ w1 ⟨g, rfl, hg0, hc, hb⟩
  have hs0 := hb.size
  have hO : w.grownBy w1 (some g) := only_of_below hb
  clear hb
  (go_wp2_with fail)
  with_reducible refine (spec_l32List _ w.heap.size g ?hcur hs0).mono ?_
  case hcur => (repeat (first | (with_reducible assumption) | (with_reducible refine Cur.drew ?_) | (with_reducible refine Cur.drewN ?_ _) | (with_reducible refine Cur.set ?_ (by first | (simp; done) | (simp; omega) | omega) (by first | (simp; done) | (simp; omega) | omega) _) | (with_reducible refine Cur.below ?_ (below_alloc (Below.refl _ _) _)) | (with_reducible refine Cur.below ?_ (by with_reducible assumption))))
  rintro _ w2 ⟨A1, c, m, l, rfl, ⟨f0, hm, hok⟩, hcn, hg⟩
  replace hO : w.grownBy w2 (some g) := only_trans hO hg
  have HP := Lib.hid hok; clear hok
  have HF0 := Lib.hid f0; clear f0
  have HO := Lib.hid hO; clear hO
  clear hc hcn hg
  go_wp2_with fail
  go_ret
  exact ⟨A1, c, m, l, rfl, ⟨HF0.out, hm, HP.out⟩, only_below (Below.refl _ _) HO.out hg0⟩
end Go.Proofs.Ytjkakoflfhjodaa
