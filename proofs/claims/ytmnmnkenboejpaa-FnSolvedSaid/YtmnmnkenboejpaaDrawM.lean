/- The draws of designs: rows of the call's own, apart from the cursor. -/
import Derived.Test.YtmnmnkenboejpaaDraw
import Derived.Test.YtmnmnkenboejpaaSqs
namespace Go.Proofs.Ytmnmnkenboejpaa
open Go.RowKit
set_option linter.unusedSimpArgs false
set_option linter.unusedVariables false
set_option maxHeartbeats 4000000
theorem Cur.push {w w' : World} {D g : Nat} (h : Cur w D g) {row : Option Nat} (hg : w.grownBy w' row) (hr : ∀ q, row = some q → D ≤ q ∧ q ≠ g) : Cur w' D g := by
  cases row with
  | none => exact h.below ⟨hg.os, hg.tape, hg.output, hg.size, fun k hk => hg.block k hk (by simp)⟩
  | some q => exact h.grown hg (hr q rfl).1 (hr q rfl).2
theorem only_push {a w w' : World} {g : Nat} (h : a.grownBy w (some g)) {row : Option Nat} (hg : w.grownBy w' row) (hr : ∀ q, row = some q → a.heap.size ≤ q) : a.grownBy w' (some g) :=
  ⟨hg.os.trans h.os, hg.tape.trans h.tape, hg.output.trans h.output, Nat.le_trans h.size hg.size, fun k hk hne => (hg.block k (Nat.lt_of_lt_of_le hk h.size) (fun e => by have := hr k e.symm; omega)).trans (h.block k hk hne)⟩
theorem OwnS.only {w w' : World} {B g : Nat} {s : Value} {l : List Int} (h : OwnS w B s l) (hg : w.grownBy w' (some g)) (hgB : g < B) : OwnS w' B s l :=
  World.ownsRow.kept h hg (by
    cases hs : s.ownBlock with
    | none => exact Or.inl rfl
    | some q => right; have := (h.base hs).1; intro e; injection e with e; omega)
/-- The slice value s owns, from block B on, the rows L; each row stands in another block, from B on. -/
def OwnX (w : World) (B : Nat) (s : Value) (L : List (List Int)) : Prop := ∃ vs : List Value, w.ownsRow B 23 1 s L.length vs ∧ vs.length = L.length ∧ ∀ (i : Nat) (r : List Int), L[i]? = some r → ∃ Ai ci, vs[i]? = some (.slice Ai r.length ci) ∧ Fl w Ai r.length 1 (gl r) ∧ r.length ≤ ci ∧ ∀ b off, Ai = some ⟨b, off, none⟩ → B ≤ b ∧ s.ownBlock ≠ some b ∧ b < w.heap.size
theorem OwnX.m {w : World} {B : Nat} {s : Value} {L : List (List Int)} (h : OwnX w B s L) : OwnM w B s L := by
  obtain ⟨vs, h1, h2, h3⟩ := h
  refine ⟨vs, h1, h2, fun i r hr => ?_⟩
  obtain ⟨Ai, ci, e1, e2, e4, e3⟩ := h3 i r hr
  exact ⟨Ai, ci, e1, e2, e4, fun b off e => (e3 b off e).2⟩
theorem OwnX.empty {w : World} {B : Nat} (hB : B ≤ w.heap.size) : OwnX (w.alloc (.cells #[] 23)) B (.slice (some ⟨w.heap.size, 0, none⟩) 0 0) [] :=
  ⟨[], ⟨by simp, Or.inr ⟨w.heap.size, 0, #[], rfl, hB, heap_alloc_new w _, Nat.le_refl _, by unfold maxLen; omega, by simp, by simp⟩⟩, rfl, fun i r h => by simp at h⟩
theorem OwnX.base {w : World} {B g : Nat} {s : Value} {L : List (List Int)} (h : OwnX w B s L) (hg : s.ownBlock = some g) : B ≤ g ∧ g < w.heap.size := h.m.base hg
theorem OwnX.below {w w' : World} {B : Nat} {s : Value} {L : List (List Int)} (h : OwnX w B s L) (hb : Below w.heap.size w w') : OwnX w' B s L := by
  obtain ⟨vs, h1, h2, h3⟩ := h
  refine ⟨vs, World.ownsRow.kept h1 (row := none) ⟨hb.os, hb.tape, hb.output, hb.size, fun k hk _ => hb.block k hk⟩ (by cases s.ownBlock with | none => exact Or.inl rfl | some q => right; simp), h2, fun i r hr => ?_⟩
  obtain ⟨Ai, ci, e1, e2, e4, e3⟩ := h3 i r hr
  exact ⟨Ai, ci, e1, e2.below hb, e4, fun b off e => ⟨(e3 b off e).1, (e3 b off e).2.1, Nat.lt_of_lt_of_le (e3 b off e).2.2 hb.size⟩⟩
theorem OwnX.only {w w' : World} {B g : Nat} {s : Value} {L : List (List Int)} (h : OwnX w B s L) (hg : w.grownBy w' (some g)) (hgB : g < B) : OwnX w' B s L := by
  have hbs := fun q hq => (h.base (g := q) hq).1
  obtain ⟨vs, h1, h2, h3⟩ := h
  refine ⟨vs, World.ownsRow.kept h1 hg (by
    cases hs : s.ownBlock with
    | none => exact Or.inl rfl
    | some q => right; have := hbs q hs; intro e; injection e with e; omega), h2, fun i r hr => ?_⟩
  obtain ⟨Ai, ci, e1, e2, e4, e3⟩ := h3 i r hr
  exact ⟨Ai, ci, e1, e2.only hg (fun b off e => by have := (e3 b off e).1; omega), e4, fun b off e => ⟨(e3 b off e).1, (e3 b off e).2.1, Nat.lt_of_lt_of_le (e3 b off e).2.2 hg.size⟩⟩
theorem OwnX.lift {w : World} {B B' : Nat} {s : Value} {L : List (List Int)} (h : OwnX w B s L) (hB : B' ≤ B) : OwnX w B' s L := by
  obtain ⟨vs, h1, h2, h3⟩ := h
  refine ⟨vs, ⟨h1.1, ?_⟩, h2, fun i r hr => ?_⟩
  · rcases h1.2 with h0 | ⟨q, cap, cur, rfl, hb, hh, r⟩
    · exact Or.inl h0
    · exact Or.inr ⟨q, cap, cur, rfl, Nat.le_trans hB hb, hh, r⟩
  · obtain ⟨Ai, ci, e1, e2, e4, e3⟩ := h3 i r hr
    exact ⟨Ai, ci, e1, e2, e4, fun b off e => ⟨Nat.le_trans hB (e3 b off e).1, (e3 b off e).2⟩⟩
/-- Rows in memory, none of them in block g. -/
def Fmg (w : World) (g : Nat) (A : Option Addr) (L : List (List Int)) : Prop := 0 < L.length → ∃ b off, A = some ⟨b, off, none⟩ ∧ b ≠ g ∧ ∀ (i : Nat) (r : List Int), L[i]? = some r → ∃ Ai ci, w.cell? ⟨b, off + i, none⟩ = some (.slice Ai r.length ci) ∧ Fl w Ai r.length 1 (gl r) ∧ ∀ b off, Ai = some ⟨b, off, none⟩ → b ≠ g
theorem Fmg.fm {w : World} {g : Nat} {A : Option Addr} {L : List (List Int)} (h : Fmg w g A L) : Fm w A L := fun h0 => by
  obtain ⟨b, off, e, _, hc⟩ := h h0
  refine ⟨b, off, e, fun i r hr => ?_⟩
  obtain ⟨Ai, ci, h1, h2, _⟩ := hc i r hr
  exact ⟨Ai, ci, h1, h2⟩
theorem Fmg.only {w w' : World} {g : Nat} {A : Option Addr} {L : List (List Int)} (h : Fmg w g A L) (hg : w.grownBy w' (some g)) : Fmg w' g A L := fun h0 => by
  obtain ⟨b, off, e, hb, hc⟩ := h h0
  refine ⟨b, off, e, hb, fun i r hr => ?_⟩
  obtain ⟨Ai, ci, h1, h2, h3⟩ := hc i r hr
  exact ⟨Ai, ci, only_cell hg h1 hb, h2.only hg h3, h3⟩
theorem Fmg.below {w w' : World} {g : Nat} {A : Option Addr} {L : List (List Int)} (h : Fmg w g A L) (hg : Below w.heap.size w w') : Fmg w' g A L := fun h0 => by
  obtain ⟨b, off, e, hb, hc⟩ := h h0
  refine ⟨b, off, e, hb, fun i r hr => ?_⟩
  obtain ⟨Ai, ci, h1, h2, h3⟩ := hc i r hr
  exact ⟨Ai, ci, below_cell hg h1, h2.below hg, h3⟩
theorem OwnX.fmg {w : World} {B g : Nat} {s : Value} {L : List (List Int)} (h : OwnX w B s L) (hg : g < B) : ∃ A c, s = .slice A L.length c ∧ Fmg w g A L := by
  obtain ⟨vs, h1, h2, h3⟩ := h
  rcases h1.2 with ⟨rfl, h0⟩ | ⟨q, cap, cur, rfl, hb, hh, hl, hm, hsz, ht⟩
  · exact ⟨none, 0, by rw [h0], fun hn => absurd hn (by omega)⟩
  · refine ⟨some ⟨q, 0, none⟩, cap, rfl, fun _ => ⟨q, 0, rfl, by omega, fun i r hr => ?_⟩⟩
    obtain ⟨Ai, ci, e1, e2, e4, e3⟩ := h3 i r hr
    refine ⟨Ai, ci, ?_, e2, fun b off e => by have := (e3 b off e).1; omega⟩
    have hi := (List.getElem?_eq_some_iff.1 hr).1
    have h4 : (cur.toList.take (L.length * 1))[i]? = vs[i]? := by rw [ht]
    rw [List.getElem?_take, if_pos (by omega), Array.getElem?_toList, e1] at h4
    simp [World.cell?, hh, h4]
/-- One row appended. -/
theorem run_push_rowx (ty : TypeId) (B : Nat) (sv : Value) (L : List (List Int)) (r : List Int) (Ar : Option Addr) (cr n : Nat) (wr w1 : World) (hn : r.length = n) (hown : OwnX wr B sv L) (hlen : L.length ≤ 1048576) (hB : B ≤ wr.heap.size)
    (hr : Fl wr Ar r.length 1 (gl r)) (hcr : r.length ≤ cr) (hAr : ∀ b off, Ar = some ⟨b, off, none⟩ → B ≤ b ∧ sv.ownBlock ≠ some b ∧ b < wr.heap.size) (hw1 : w1 = wr.alloc (.cells #[.slice Ar n cr] 23)) :
    ∃ v' w', (Builtin.append_ #[22, 22] ty #[sv, .slice (some ⟨wr.heap.size, 0, none⟩) 1 1]).run Try.prog w1 = .ok v' w' ∧ OwnX w' B v' (L ++ [r]) ∧ wr.grownBy w' sv.ownBlock := by
  subst hn hw1
  obtain ⟨i0, hi, hz0, hz1, hz2⟩ := info_parts infoIntS
  obtain ⟨vs, o1, o2, o3⟩ := hown
  obtain ⟨v', w', hrun, h1, h2, _, hat⟩ := run_append_own_at (P := Try.prog) (wr.alloc (.cells #[.slice Ar r.length cr] 23)) B 22 ty 23 i0 (.slice none 0 0) 1 24 Try.underlying22 hi hz0 hz1 hz2 rfl (by decide) sv L.length vs (World.ownsRow.alloc o1 _) ⟨wr.heap.size, 0, none⟩ 1 1 [.slice Ar r.length cr] rfl
    (by
      intro j u hj
      match j, hj with
      | 0, hj => simp at hj; subst hj; simp [Addr.add]) (by intro u hu; simp at hu; subst hu; rfl) (by unfold maxLen; omega) (by omega) (by simp; omega)
  refine ⟨v', w', hrun, ?_⟩
  have h3 : wr.grownBy (wr.alloc (.cells #[.slice Ar r.length cr] 23)) none := World.grownBy_alloc wr _ none
  have hgr : wr.grownBy w' sv.ownBlock := by
    refine ⟨h2.os.trans h3.os, h2.tape.trans h3.tape, h2.output.trans h3.output, Nat.le_trans h3.size h2.size, fun k hk hne => ?_⟩
    rw [h2.block k (Nat.lt_of_lt_of_le hk h3.size) hne, h3.block k hk (by simp)]
  have keep : ∀ {A' : Option Addr} {r' : List Int}, Fl wr A' r'.length 1 (gl r') → (∀ b off, A' = some ⟨b, off, none⟩ → B ≤ b ∧ sv.ownBlock ≠ some b ∧ b < wr.heap.size) →
      Fl w' A' r'.length 1 (gl r') ∧ ∀ b off, A' = some ⟨b, off, none⟩ → B ≤ b ∧ v'.ownBlock ≠ some b ∧ b < w'.heap.size := fun hF hA => by
    refine ⟨fun hn => ?_, fun b off e => ⟨(hA b off e).1, ?_, Nat.lt_of_lt_of_le (hA b off e).2.2 hgr.size⟩⟩
    · obtain ⟨b, off, e, hc⟩ := hF hn
      exact ⟨b, off, e, fun j hj => hgr.cell (hc j hj) (fun e2 => (hA b off e).2.1 e2.symm)⟩
    · rcases hat with hat | hat
      · rw [hat]; exact (hA b off e).2.1
      · rw [hat]
        intro e2
        injection e2 with e2
        have := (hA b off e).2.2
        simp at e2
        omega
  refine ⟨⟨vs ++ [.slice Ar r.length cr], by simpa using h1, by simp [o2], fun i r' hr' => ?_⟩, hgr⟩
  rcases Nat.lt_or_ge i L.length with hi' | hi'
  · rw [List.getElem?_append_left hi'] at hr'
    obtain ⟨Ai, ci, e1, e2, e4, e3⟩ := o3 i r' hr'
    obtain ⟨k1, k2⟩ := keep e2 e3
    exact ⟨Ai, ci, by rw [List.getElem?_append_left (by omega)]; exact e1, k1, e4, k2⟩
  · rw [List.getElem?_append_right hi'] at hr'
    have hlt := (List.getElem?_eq_some_iff.1 hr').1
    simp at hlt
    have : i = L.length := by omega
    subst this
    simp at hr'
    subst hr'
    obtain ⟨k1, k2⟩ := keep hr hAr
    exact ⟨Ar, cr, by rw [List.getElem?_append_right (by omega)]; simp [o2], k1, hcr, k2⟩
theorem push_rowx {ops : Array Oper} {rest : List Oper} {o : Oper} {a : Act} {Q : Exit → Act → World → Prop} {wr : World} (hgd : o.guard = none) (s x : Operand)
    (ho : o.op = .call { callee := .builtin .append, args := #[s, x], argTypes := #[22, 22] }) (B : Nat) (sv : Value) (L : List (List Int)) (r : List Int) (Ar : Option Addr) (cr n : Nat) (hn : r.length = n) (hs : a.eval s = sv)
    (hx : a.eval x = .slice (some ⟨wr.heap.size, 0, none⟩) 1 1) (hown : OwnX wr B sv L) (hlen : L.length ≤ 1048576) (hB : B ≤ wr.heap.size)
    (hr : Fl wr Ar r.length 1 (gl r)) (hcr : r.length ≤ cr) (hAr : ∀ b off, Ar = some ⟨b, off, none⟩ → B ≤ b ∧ sv.ownBlock ≠ some b ∧ b < wr.heap.size)
    (h : ∀ v' w', OwnX w' B v' (L ++ [r]) → wr.grownBy w' sv.ownBlock → wpList Try.prog ops Q rest (a.put o.dst v') w') :
    wpList Try.prog ops Q (o :: rest) a (wr.alloc (.cells #[.slice Ar n cr] 23)) := by
  refine wpList_plain hgd fun K hK => ?_
  obtain ⟨v', w', hrun, h1, h2⟩ := run_push_rowx o.type B sv L r Ar cr n wr _ hn hown hlen hB hr hcr hAr rfl
  unfold Oper.wp execOp
  simp only [ho, resolve, invoke, builtin, Sem.run_bind, Sem.run_pure, Result.andThen_ok, List.map_toArray, List.map_cons, List.map_nil, hs, hx, hrun]
  exact hK _ _ (h v' w' h1 h2)
/-- Numbers of -1 to 1. -/
def oneL (l : List Int) : Prop := ∀ x ∈ l, -1 ≤ x ∧ x ≤ 1
set_option maxRecDepth 100000 in
theorem spec_Load (w : World) (D g N : Nat) (hc : Cur w D g) (hDw : D ≤ w.heap.size) (hN : N ≤ 8) : Calls Try.prog 77 #[.pointer (some ⟨g, 0, none⟩), .int .i64 N] w fun e w' => ∃ (s : Value) (l : List Int), e = .returned s ∧
    (OwnS w' w.heap.size s l ∧ l.length = N) ∧ Cur w' D g ∧ w.grownBy w' (some g) := by
  have hgl := hc.lt
  have HC := Lib.hid hc
  have p0 : OwnS (w.alloc (.cells #[] 3)) w.heap.size (.slice (some ⟨w.heap.size, 0, none⟩) 0 0) [] := OwnS.empty (Nat.le_refl _)
  have hc1 := hc.below (below_alloc (Below.refl w.heap.size w) (.cells #[] 3))
  have hO : w.grownBy (w.alloc (.cells #[] 3)) (some g) := only_of_below (below_alloc (Below.refl w.heap.size w) _)
  have P0 := Lib.hid p0; have HC1 := Lib.hid hc1; have HO := Lib.hid hO
  clear hc p0 hc1 hO
  go_enter Try.func77, Try.ntmps77
  go_wp2_with fail
  go_loopw [5, 6] (fun s i wr => ∃ (j : Nat) (l : List Int), j ≤ N ∧ i = .int .i64 j ∧ OwnS wr w.heap.size s l ∧ l.length = j ∧ Cur wr D g ∧ w.grownBy wr (some g)) (fun _ i _ => N - (intOf i).toNat)
  case atStart => exact ⟨0, [], Nat.zero_le _, rfl, P0.out, rfl, HC1.out, HO.out⟩
  case round =>
    clear P0 HC1 HO
    obtain ⟨j, l, hj, rfl, p0, hl, hc, hO⟩ := hrel
    have HL := Lib.hid hl; clear hl
    by_cases hjN : j < N
    · have hlen : l.length ≤ 1048576 := by rw [HL.out]; omega
      ((go_wp2_with fail); (with_reducible refine (spec_Below _ D g ?hcur _).mono ?_); (case hcur => (repeat (first | (with_reducible assumption) | (with_reducible refine Cur.drew ?_) | (with_reducible refine Cur.drewN ?_ _) | (with_reducible refine Cur.set ?_ (by first | (simp; done) | (simp; omega) | omega) (by first | (simp; done) | (simp; omega) | omega) _) | (with_reducible refine Cur.below ?_ (below_alloc (Below.refl _ _) _)) | (with_reducible refine Cur.below ?_ (by with_reducible assumption))))); rintro _ w1 ⟨x, rfl, ⟨hx0, hx1, _⟩, hcn, hg⟩; replace hO : w.grownBy w1 (some g) := only_trans (by (repeat (first | (with_reducible assumption) | (with_reducible exact only_refl _ _) | (with_reducible refine only_drew ?_) | (with_reducible refine only_drewN ?_ _) | (with_reducible refine only_alloc ?_ _) | (with_reducible refine only_setNew ?_ (by first | (simp; done) | (simp; omega) | omega) _) | (with_reducible refine only_set ?_ _ _) | (with_reducible refine only_step ?_ (by with_reducible assumption))))) hg; replace hc := hcn; clear hcn; replace p0 := OwnS.only p0 hg (by omega); clear hg)
      have hx1 := hx1 (by decide)
      have hs2 := hO.size
      have hb0 := fun q h => (p0.base (g := q) h).1
      have HB0 := Lib.hid hb0; clear hb0
      have HC := Lib.hid hc; clear hc
      have HO := Lib.hid hO; clear hO
      go_wp2_with (at_builtin; refine push_one rfl (.tmp 13) (.tmp 17) rfl w.heap.size _ l (x - 1) rfl rfl p0 hlen hs2 ?_; intro s' w2 hown' hgrow; have HG := Lib.hid hgrow; clear hgrow)
      go_roundw
      case rel =>
        refine ⟨j + 1, l ++ [x - 1], by omega, by go_num, hown', by simp [HL.out], HC.out.push HG.out (fun q h => ?_), only_push HO.out HG.out HB0.out⟩
        have := HB0.out q h; omega
      case measure => simp [intOf]; omega
    · have HC := Lib.hid hc; clear hc
      have HO := Lib.hid hO; clear hO
      have P0 := Lib.hid p0; clear p0
      go_wp2_with fail
      go_ret
      exact ⟨_, l, rfl, ⟨P0.out, by rw [HL.out]; omega⟩, HC.out, HO.out⟩
end Go.Proofs.Ytmnmnkenboejpaa
