/- The draws of signs and drifts: DrawDrift returns at most 32 signs and at most 4 numbers of -10 to 10. -/
import Derived.Test.YtmgfejdgjfldfaaDraw
import Derived.Test.YtmgfejdgjfldfaaShort
import Derived.Test.YtmgfejdgjfldfaaThue
namespace Go.Proofs.Ytmgfejdgjfldfaa
open Go.RowKit
set_option linter.unusedSimpArgs false
set_option linter.unusedVariables false
set_option maxHeartbeats 4000000
theorem Cur.push {w w' : World} {D g : Nat} (h : Cur w D g) {row : Option Nat} (hg : w.grownBy w' row) (hr : ∀ q, row = some q → D ≤ q ∧ q ≠ g) : Cur w' D g := by
  cases row with
  | none => exact h.below ⟨hg.os, hg.tape, hg.output, hg.size, fun k hk => hg.block k hk (by simp)⟩
  | some q => exact h.grown hg (hr q rfl).1 (hr q rfl).2
theorem only_push {a w w' : World} {g : Nat} (h : a.grownBy w (some g)) {row : Option Nat} (hg : w.grownBy w' row) (hr : ∀ q, row = some q → a.heap.size ≤ q) : a.grownBy w' (some g) :=
  ⟨hg.os.trans h.os, hg.tape.trans h.tape, hg.output.trans h.output, Nat.le_trans h.size hg.size, fun k hk hne => (hg.block k (Nat.lt_of_lt_of_le hk h.size) (fun e => by have := hr k e.symm; omega)).trans (h.block k hk hne)⟩
theorem OwnS.only {w w' : World} {B g : Nat} {s : Value} {l : List Int} (h : OwnS w B s l) (hg : w.grownBy w' (some g)) (hgB : g < B) : OwnS w' B s l :=
  World.ownsRow.kept h hg (by
    cases hs : s.ownBlock with
    | none => exact Or.inl rfl
    | some q => right; have := (h.base hs).1; intro e; injection e with e; omega)
/-- A slice at A of the call's own, from block B on, that holds the list l. -/
def Lst (w : World) (B : Nat) (A : Option Addr) (l : List Int) : Prop := 0 < l.length → ∃ q, A = some ⟨q, 0, none⟩ ∧ B ≤ q ∧ Own w q 3 (l.length * 1) (fun j => l.getD j 0)
theorem Lst.fl {w : World} {B : Nat} {A : Option Addr} {l : List Int} (h : Lst w B A l) : Fl w A l.length 1 (fun j => l.getD j 0) := IntRes.fl fun hl => by
  obtain ⟨q, e, _, o⟩ := h hl
  exact ⟨q, e, o⟩
theorem Lst.only {w w' : World} {B g : Nat} {A : Option Addr} {l : List Int} (h : Lst w B A l) (hg : w.grownBy w' (some g)) (hgB : g < B) : Lst w' B A l := fun hl => by
  obtain ⟨q, e, hq, o⟩ := h hl
  exact ⟨q, e, hq, o.only hg (by omega)⟩
theorem Lst.below {w w' : World} {B : Nat} {A : Option Addr} {l : List Int} (h : Lst w B A l) (hb : Below w.heap.size w w') : Lst w' B A l := fun hl => by
  obtain ⟨q, e, hq, o⟩ := h hl
  exact ⟨q, e, hq, o.below hb⟩
theorem Lst.weak {w : World} {B B' : Nat} {A : Option Addr} {l : List Int} (h : Lst w B A l) (hB : B' ≤ B) : Lst w B' A l := fun hl => by
  obtain ⟨q, e, hq, o⟩ := h hl
  exact ⟨q, e, by omega, o⟩
theorem OwnS.lst' {w : World} {B : Nat} {s : Value} {l : List Int} (h : OwnS w B s l) : ∃ A c, s = .slice A l.length c ∧ Lst w B A l := by
  have hx := OwnS.weak h (B' := 0) (Nat.zero_le _)
  rcases h.2 with ⟨rfl, h0⟩ | ⟨g, cap, cur, rfl, hb, hh, hl, hm, hsz, ht⟩
  · exact ⟨none, 0, by rw [h0], fun hl => absurd hl (by omega)⟩
  · refine ⟨some ⟨g, 0, none⟩, cap, rfl, fun hl0 => ⟨g, rfl, hb, cur, hh, fun j hj => ?_⟩⟩
    have hj' : j < l.length := by omega
    have h1 : (cur.toList.take (l.length * 1))[j]? = (l.map (Value.int .i64))[j]? := by rw [ht]
    rw [List.getElem?_take] at h1
    simp only [Nat.mul_one, hj', if_true, Array.getElem?_toList, List.getElem?_map, List.getElem?_eq_getElem hj', Option.map_some] at h1
    rw [h1]
    simp [List.getElem?_eq_getElem hj']
theorem OwnS.some {w : World} {B n c : Nat} {A : Option Addr} {l : List Int} (h : OwnS w B (.slice A n c) l) (hn : l = [] → Value.slice A n c ≠ .slice none 0 0) : ∃ q, A = some ⟨q, 0, none⟩ := by
  rcases h.2 with ⟨e, h0⟩ | ⟨g, cap, cur, e, _⟩
  · exact absurd e (hn (List.length_eq_zero_iff.1 h0))
  · injection e with e
    exact ⟨g, e⟩
/-- All of the list are signs. -/
def pmL (l : List Int) : Prop := ∀ x ∈ l, x = 1 ∨ x = -1
theorem spec_l27List (w : World) (D g : Nat) (hc : Cur w D g) (hDw : D ≤ w.heap.size) : Calls Try.prog 34 #[.pointer (some ⟨g, 0, none⟩)] w fun e w' => ∃ (A : Option Addr) (c : Nat) (l : List Int), e = .returned (.slice A l.length c) ∧
    (Lst w' w.heap.size A l ∧ l.length ≤ 32 ∧ pmL l ∧ ∃ q, A = some ⟨q, 0, none⟩) ∧ Cur w' D g ∧ w.grownBy w' (some g) := by
  have hgl := hc.lt
  have HC := Lib.hid hc; clear hc
  go_enter Try.func34, Try.ntmps34
  go_wp2_with fail
  with_reducible refine (spec_Once _ D g HC.out _).mono ?_
  rintro _ w1 ⟨o, rfl, hc, hO⟩
  cases o
  · have hs1 := hO.size
    have p0 : OwnS ((w1.alloc (.cells #[] 3))) w.heap.size (.slice (some ⟨w1.heap.size, 0, none⟩) 0 0) [] := OwnS.empty hs1
    ((go_wp2_with fail); (with_reducible refine (spec_Below _ D g ?hcur _).mono ?_); (case hcur => (repeat (first | (with_reducible assumption) | (with_reducible refine Cur.drew ?_) | (with_reducible refine Cur.drewN ?_ _) | (with_reducible refine Cur.set ?_ (by first | (simp; done) | (simp; omega) | omega) (by first | (simp; done) | (simp; omega) | omega) _) | (with_reducible refine Cur.below ?_ (below_alloc (Below.refl _ _) _)) | (with_reducible refine Cur.below ?_ (by with_reducible assumption))))); rintro _ w1 ⟨n, rfl, ⟨hn0, hn1, _⟩, hcn, hg⟩; replace hO : w.grownBy w1 (some g) := only_trans (by (repeat (first | (with_reducible assumption) | (with_reducible exact only_refl _ _) | (with_reducible refine only_drew ?_) | (with_reducible refine only_drewN ?_ _) | (with_reducible refine only_alloc ?_ _) | (with_reducible refine only_setNew ?_ (by first | (simp; done) | (simp; omega) | omega) _) | (with_reducible refine only_set ?_ _ _) | (with_reducible refine only_step ?_ (by with_reducible assumption))))) hg; replace hc := hcn; clear hcn; replace p0 := OwnS.only p0 hg (by omega); clear hg)
    have hn1 := hn1 (by decide)
    obtain ⟨N, hN⟩ := Int.eq_ofNat_of_zero_le hn0
    subst hN
    go_wp2_with fail
    go_loopw [3, 5] (fun s i wr => ∃ (j : Nat) (l : List Int), j ≤ N ∧ i = .int .i64 j ∧ OwnS wr w.heap.size s l ∧ (l.length = j ∧ pmL l ∧ (l = [] → s ≠ .slice none 0 0)) ∧ Cur wr D g ∧ w.grownBy wr (some g)) (fun _ i _ => N - (intOf i).toNat)
    case atStart => exact ⟨0, [], Nat.zero_le _, rfl, p0, ⟨rfl, (by intro x hx; cases hx), fun _ e => by injection e with e; cases e⟩, hc, hO⟩
    case round =>
      clear p0 hc hO
      obtain ⟨j, l, hj, rfl, p0, ⟨hl, hpm, hnn⟩, hc, hO⟩ := hrel
      have HNN := Lib.hid hnn; clear hnn
      have HL := Lib.hid hl; clear hl
      have HP := Lib.hid hpm; clear hpm
      by_cases hjN : j < N
      · have hlen : l.length ≤ 1048576 := by rw [HL.out]; omega
        ((go_wp2_with fail); (with_reducible refine (spec_Below _ D g ?hcur _).mono ?_); (case hcur => (repeat (first | (with_reducible assumption) | (with_reducible refine Cur.drew ?_) | (with_reducible refine Cur.drewN ?_ _) | (with_reducible refine Cur.set ?_ (by first | (simp; done) | (simp; omega) | omega) (by first | (simp; done) | (simp; omega) | omega) _) | (with_reducible refine Cur.below ?_ (below_alloc (Below.refl _ _) _)) | (with_reducible refine Cur.below ?_ (by with_reducible assumption))))); rintro _ w1 ⟨x, rfl, ⟨hx0, hx1, _⟩, hcn, hg⟩; replace hO : w.grownBy w1 (some g) := only_trans (by (repeat (first | (with_reducible assumption) | (with_reducible exact only_refl _ _) | (with_reducible refine only_drew ?_) | (with_reducible refine only_drewN ?_ _) | (with_reducible refine only_alloc ?_ _) | (with_reducible refine only_setNew ?_ (by first | (simp; done) | (simp; omega) | omega) _) | (with_reducible refine only_set ?_ _ _) | (with_reducible refine only_step ?_ (by with_reducible assumption))))) hg; replace hc := hcn; clear hcn; replace p0 := OwnS.only p0 hg (by omega); clear hg)
        have hx1 := hx1 (by decide)
        have hs2 := hO.size
        have hb0 := fun q h => (p0.base (g := q) h).1
        have HB0 := Lib.hid hb0; clear hb0
        have HC := Lib.hid hc; clear hc
        have HO := Lib.hid hO; clear hO
        go_wp2_with (at_builtin; refine push_one rfl (.tmp 19) (.tmp 24) rfl w.heap.size _ l (2 * x - 1) rfl rfl p0 hlen hs2 ?_; intro s' w2 hown' hgrow; have HG := Lib.hid hgrow; clear hgrow)
        go_roundw
        case rel =>
          refine ⟨j + 1, l ++ [2 * x - 1], by omega, by go_num, hown', ⟨by simp [HL.out], ?_, fun e => by simp at e⟩, HC.out.push HG.out (fun q h => ?_), only_push HO.out HG.out HB0.out⟩
          · intro y hy
            rcases List.mem_append.1 hy with h | h
            · exact HP.out y h
            · simp at h; subst h; omega
          · have := HB0.out q h; omega
        case measure => simp [intOf]; omega
      · obtain ⟨A, c, rfl, hls⟩ := p0.lst'
        have hsm := p0.some HNN.out
        have HSM := Lib.hid hsm; clear hsm
        have HC := Lib.hid hc; clear hc
        have HO := Lib.hid hO; clear hO
        go_wp2_with fail
        go_ret
        exact ⟨A, c, l, rfl, ⟨hls, by rw [HL.out]; omega, HP.out, HSM.out⟩, HC.out, HO.out⟩
  · ((go_wp2_with fail); (with_reducible refine (spec_Below _ D g ?hcur _).mono ?_); (case hcur => (repeat (first | (with_reducible assumption) | (with_reducible refine Cur.drew ?_) | (with_reducible refine Cur.drewN ?_ _) | (with_reducible refine Cur.set ?_ (by first | (simp; done) | (simp; omega) | omega) (by first | (simp; done) | (simp; omega) | omega) _) | (with_reducible refine Cur.below ?_ (below_alloc (Below.refl _ _) _)) | (with_reducible refine Cur.below ?_ (by with_reducible assumption))))); rintro _ w1 ⟨x, rfl, ⟨hx0, hx1, _⟩, hcn, hg⟩; replace hO : w.grownBy w1 (some g) := only_trans (by (repeat (first | (with_reducible assumption) | (with_reducible exact only_refl _ _) | (with_reducible refine only_drew ?_) | (with_reducible refine only_drewN ?_ _) | (with_reducible refine only_alloc ?_ _) | (with_reducible refine only_setNew ?_ (by first | (simp; done) | (simp; omega) | omega) _) | (with_reducible refine only_set ?_ _ _) | (with_reducible refine only_step ?_ (by with_reducible assumption))))) hg; replace hc := hcn; clear hcn; clear hg)
    have hx1 := hx1 (by decide)
    have hs1 := hO.size
    have HC1 := Lib.hid hc; clear hc
    have HO1 := Lib.hid hO; clear hO
    go_wp2_with fail
    with_reducible refine (spec_Thue x _).mono ?_
    rintro _ w2 ⟨A, c, rfl, hA, hb⟩
    go_wp2_with fail
    go_ret
    refine ⟨A, c, thV x, rfl, ⟨fun hl => ?_, ?_, ?_, ?_⟩, HC1.out.below hb, only_step HO1.out hb⟩
    · obtain ⟨q, e, hq, o⟩ := hA hl
      exact ⟨q, e, by omega, o⟩
    · rw [thV_yes (by rw [inB_iff]; omega), thI_len]
      exact Nat.pow_le_pow_right (n := 2) (j := 5) (by decide) (by omega)
    · rw [thV_yes (by rw [inB_iff]; omega)]
      exact thI_pm _
    · have hl : 0 < (thV x).length := by rw [thV_yes (by rw [inB_iff]; omega), thI_len]; exact Nat.pow_pos (by decide)
      obtain ⟨q, e, _⟩ := hA hl
      exact ⟨q, e⟩
/-- The same, with a block below E that is not g. -/
def Mid (w : World) (B E g : Nat) (A : Option Addr) (l : List Int) : Prop := 0 < l.length → ∃ q, A = some ⟨q, 0, none⟩ ∧ B ≤ q ∧ q < E ∧ q ≠ g ∧ Own w q 3 (l.length * 1) (fun j => l.getD j 0)
theorem Mid.only {w w' : World} {B E g : Nat} {A : Option Addr} {l : List Int} (h : Mid w B E g A l) (hg : w.grownBy w' (some g)) : Mid w' B E g A l := fun hl => by
  obtain ⟨q, e, h1, h2, h3, o⟩ := h hl
  exact ⟨q, e, h1, h2, h3, o.only hg h3⟩
theorem Mid.push {w w' : World} {B E g : Nat} {A : Option Addr} {l : List Int} (h : Mid w B E g A l) {row : Option Nat} (hg : w.grownBy w' row) (hr : ∀ q, row = some q → E ≤ q) : Mid w' B E g A l := fun hl => by
  obtain ⟨q, e, h1, h2, h3, o⟩ := h hl
  exact ⟨q, e, h1, h2, h3, o.of_block (hg.block q o.lt (fun e => by have := hr q e.symm; omega))⟩
theorem Mid.lst {w : World} {B E g : Nat} {A : Option Addr} {l : List Int} (h : Mid w B E g A l) : Lst w B A l := fun hl => by
  obtain ⟨q, e, h1, h2, h3, o⟩ := h hl
  exact ⟨q, e, h1, o⟩
theorem Lst.mid {w : World} {B B' g : Nat} {A : Option Addr} {l : List Int} (h : Lst w B A l) (hB : B' ≤ B) (hg : g < B) : Mid w B' w.heap.size g A l := fun hl => by
  obtain ⟨q, e, hq, o⟩ := h hl
  exact ⟨q, e, by omega, o.lt, by omega, o⟩
theorem Mid.below {w w' : World} {B E g : Nat} {A : Option Addr} {l : List Int} (h : Mid w B E g A l) (hb : Below w.heap.size w w') : Mid w' B E g A l := fun hl => by
  obtain ⟨q, e, h1, h2, h3, o⟩ := h hl
  exact ⟨q, e, h1, h2, h3, o.below hb⟩
/-- All of the list are numbers of -10 to 10. -/
def tenL (l : List Int) : Prop := ∀ x ∈ l, -10 ≤ x ∧ x ≤ 10
theorem spec_DrawDrift (A : Option Addr) (n k : Nat) (v : Nat → Int) (w : World) (hn : n ≤ 1048576) (hF : Fb w A n v) : Calls Try.prog 24 #[.slice A n k] w fun e w' => ∃ (A1 A2 : Option Addr) (c1 c2 : Nat) (l u : List Int),
    e = .returned (.tuple #[.slice A1 l.length c1, .slice A2 u.length c2]) ∧ ((Lst w' w.heap.size A1 l ∧ l.length ≤ 32 ∧ pmL l ∧ ∃ q, A1 = some ⟨q, 0, none⟩) ∧ (Lst w' w.heap.size A2 u ∧ u.length ≤ 4 ∧ tenL u)) ∧ Below w.heap.size w w' := by
  have HA := Lib.hid hF.lt
  have HF := Lib.hid hF; clear hF
  go_enter Try.func24, Try.ntmps24
  go_wp2_with fail
  with_reducible refine (spec_New A n k v _ hn HF.out w.heap.size (Nat.le_refl _) HA.out).mono ?_
  rintro _ w1 ⟨g, rfl, hg0, hc, hb⟩
  have hs0 := hb.size
  have hO : w.grownBy w1 (some g) := only_of_below hb
  clear hb
  (go_wp2_with fail)
  with_reducible refine (spec_l27List _ w.heap.size g ?hcur hs0).mono ?_
  case hcur => (repeat (first | (with_reducible assumption) | (with_reducible refine Cur.drew ?_) | (with_reducible refine Cur.drewN ?_ _) | (with_reducible refine Cur.set ?_ (by first | (simp; done) | (simp; omega) | omega) (by first | (simp; done) | (simp; omega) | omega) _) | (with_reducible refine Cur.below ?_ (below_alloc (Below.refl _ _) _)) | (with_reducible refine Cur.below ?_ (by with_reducible assumption))))
  have hs9 := hc.lt
  rintro _ w2 ⟨A1, c1, l, rfl, ⟨s0, hl, hpm, q1, rfl⟩, hcn, hg⟩
  replace hO : w.grownBy w2 (some g) := only_trans hO hg
  have hs1 := hg.size
  replace hc := hcn
  clear hcn hg
  have HP := Lib.hid hpm; clear hpm
  obtain ⟨n1, hn1⟩ : ∃ n1, l.length = n1 := ⟨_, rfl⟩
  have HN1 := Lib.hid hn1
  rw [hn1] at hl
  simp only [hn1]
  clear hn1
  have hb := below_alloc (Below.refl w2.heap.size w2) (.cells #[] 3)
  replace s0 := (s0.mid hs0 hs9).below hb
  clear hb
  have p0 : OwnS ((w2.alloc (.cells #[] 3))) w2.heap.size (.slice (some ⟨w2.heap.size, 0, none⟩) 0 0) [] := OwnS.empty (Nat.le_refl _)
  have l0 : w2.heap.size ≤ (w2.alloc (.cells #[] 3)).heap.size := by simp
  ((go_wp2_with fail); (with_reducible refine (spec_Below _ w.heap.size g ?hcur _).mono ?_); (case hcur => (repeat (first | (with_reducible assumption) | (with_reducible refine Cur.drew ?_) | (with_reducible refine Cur.drewN ?_ _) | (with_reducible refine Cur.set ?_ (by first | (simp; done) | (simp; omega) | omega) (by first | (simp; done) | (simp; omega) | omega) _) | (with_reducible refine Cur.below ?_ (below_alloc (Below.refl _ _) _)) | (with_reducible refine Cur.below ?_ (by with_reducible assumption))))); rintro _ w1 ⟨m, rfl, ⟨hm0, hm1, _⟩, hcn, hg⟩; replace hO : w.grownBy w1 (some g) := only_trans (by (repeat (first | (with_reducible assumption) | (with_reducible exact only_refl _ _) | (with_reducible refine only_drew ?_) | (with_reducible refine only_drewN ?_ _) | (with_reducible refine only_alloc ?_ _) | (with_reducible refine only_setNew ?_ (by first | (simp; done) | (simp; omega) | omega) _) | (with_reducible refine only_set ?_ _ _) | (with_reducible refine only_step ?_ (by with_reducible assumption))))) hg; replace hc := hcn; clear hcn; replace p0 := OwnS.only p0 hg (by omega); replace s0 := Mid.only s0 hg; replace l0 := Nat.le_trans l0 hg.size; clear hg)
  have hm1 := hm1 (by decide)
  obtain ⟨N, hN⟩ := Int.eq_ofNat_of_zero_le hm0
  subst hN
  go_wp2_with fail
  go_loopw [6, 8] (fun s i wr => ∃ (j : Nat) (u : List Int), j ≤ N ∧ i = .int .i64 j ∧ OwnS wr w2.heap.size s u ∧ (u.length = j ∧ tenL u) ∧ Mid wr w.heap.size w2.heap.size g (some ⟨q1, 0, none⟩) l ∧ w2.heap.size ≤ wr.heap.size ∧ Cur wr w.heap.size g ∧ w.grownBy wr (some g)) (fun _ i _ => N - (intOf i).toNat)
  case atStart => exact ⟨0, [], Nat.zero_le _, rfl, p0, ⟨rfl, by intro x hx; cases hx⟩, s0, l0, hc, hO⟩
  case round =>
    clear p0 s0 l0 hc hO
    obtain ⟨j, u, hj, rfl, p0, ⟨hu, htn⟩, s0, l0, hc, hO⟩ := hrel
    have HL := Lib.hid hu; clear hu
    have HT := Lib.hid htn; clear htn
    by_cases hjN : j < N
    · have hlen : u.length ≤ 1048576 := by rw [HL.out]; omega
      have hs3 := hO.size
      ((go_wp2_with fail); (with_reducible refine (spec_Below _ w.heap.size g ?hcur _).mono ?_); (case hcur => (repeat (first | (with_reducible assumption) | (with_reducible refine Cur.drew ?_) | (with_reducible refine Cur.drewN ?_ _) | (with_reducible refine Cur.set ?_ (by first | (simp; done) | (simp; omega) | omega) (by first | (simp; done) | (simp; omega) | omega) _) | (with_reducible refine Cur.below ?_ (below_alloc (Below.refl _ _) _)) | (with_reducible refine Cur.below ?_ (by with_reducible assumption))))); rintro _ w1 ⟨x, rfl, ⟨hx0, hx1, _⟩, hcn, hg⟩; replace hO : w.grownBy w1 (some g) := only_trans (by (repeat (first | (with_reducible assumption) | (with_reducible exact only_refl _ _) | (with_reducible refine only_drew ?_) | (with_reducible refine only_drewN ?_ _) | (with_reducible refine only_alloc ?_ _) | (with_reducible refine only_setNew ?_ (by first | (simp; done) | (simp; omega) | omega) _) | (with_reducible refine only_set ?_ _ _) | (with_reducible refine only_step ?_ (by with_reducible assumption))))) hg; replace hc := hcn; clear hcn; replace p0 := OwnS.only p0 hg (by omega); replace s0 := Mid.only s0 hg; replace l0 := Nat.le_trans l0 hg.size; clear hg)
      have hx1 := hx1 (by decide)
      have hb0 := fun q h => (p0.base (g := q) h).1
      have hs2 := l0
      have HB0 := Lib.hid hb0; clear hb0
      have HC := Lib.hid hc; clear hc
      have HO := Lib.hid hO; clear hO
      have HS := Lib.hid s0; clear s0
      go_wp2_with (at_builtin; refine push_one rfl (.tmp 21) (.tmp 25) rfl w2.heap.size _ u (x - 10) rfl rfl p0 hlen hs2 ?_; intro s' w3 hown' hgrow; have HG := Lib.hid hgrow; clear hgrow)
      go_roundw
      case rel =>
        refine ⟨j + 1, u ++ [x - 10], by omega, by go_num, hown', ⟨by simp [HL.out], ?_⟩, HS.out.push HG.out HB0.out, Nat.le_trans l0 HG.out.size, HC.out.push HG.out (fun q h => ?_), only_push HO.out HG.out (fun q h => ?_)⟩
        · intro y hy
          rcases List.mem_append.1 hy with h | h
          · exact HT.out y h
          · simp at h; subst h; omega
        · have := HB0.out q h; omega
        · have := HB0.out q h; omega
      case measure => simp [intOf]; omega
    · obtain ⟨A2, c2, rfl, hls⟩ := p0.lst'
      have HC := Lib.hid hc; clear hc
      have HO := Lib.hid hO; clear hO
      have HS := Lib.hid s0; clear s0
      have HLS := Lib.hid hls; clear hls
      go_wp2_with fail
      refine bodyPost_ret (by simp [results, Try.results24, go_sem]; rfl) rfl ?_
      exact ⟨_, A2, c1, c2, l, u, by rw [HN1.out], ⟨⟨HS.out.lst, by rw [HN1.out]; exact hl, HP.out, q1, rfl⟩, HLS.out.weak (by omega), by rw [HL.out]; omega, HT.out⟩, only_below (Below.refl _ _) HO.out hg0⟩
end Go.Proofs.Ytmgfejdgjfldfaa
