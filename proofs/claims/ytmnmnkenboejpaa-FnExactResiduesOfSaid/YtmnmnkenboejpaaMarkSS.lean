/- Slices of slices of numbers, marked: the copy's rows are its own, and a marking turns nothing but the copy's rows. No conditions but lengths of at most 2^20. -/
import Derived.Test.YtmnmnkenboejpaaMat
namespace Go.Proofs.Ytmnmnkenboejpaa
open Go.RowKit
set_option linter.unusedSimpArgs false
set_option linter.unusedVariables false
set_option maxHeartbeats 4000000
/-- The first k rows of L stand in block g, each in a block of its own from B on; V names their numbers. -/
def PO (w : World) (g k B : Nat) (V : List Int → Nat → Int) (L : List (List Int)) : Prop := ∃ cs : Array Value, w.heap[g]? = some (.cells cs 23 (0, 0)) ∧ cs.size = L.length ∧ ∀ (i : Nat) (r : List Int), i < k → L[i]? = some r → ∃ b ci, cs[i]? = some (.slice (some ⟨b, 0, none⟩) r.length ci) ∧ Own w b 3 (r.length * 1) (V r) ∧ B ≤ b ∧ b ≠ g
theorem PO.lt {w : World} {g k B : Nat} {V : List Int → Nat → Int} {L : List (List Int)} (h : PO w g k B V L) : g < w.heap.size := by
  obtain ⟨cs, h1, _⟩ := h
  exact (Array.getElem?_eq_some_iff.1 h1).1
theorem PO.below {w w' : World} {g k B : Nat} {V : List Int → Nat → Int} {L : List (List Int)} (h : PO w g k B V L) (hb : Below w.heap.size w w') : PO w' g k B V L := by
  have hlt := h.lt
  obtain ⟨cs, h1, h2, h3⟩ := h
  refine ⟨cs, (hb.block g hlt).trans h1, h2, fun i r hi hr => ?_⟩
  obtain ⟨b, ci, e1, e2, e3⟩ := h3 i r hi hr
  exact ⟨b, ci, e1, e2.below hb, e3⟩
theorem PO.set {w : World} {g k B : Nat} {V : List Int → Nat → Int} {L : List (List Int)} (h : PO w g k B V L) {r : List Int} (hr : L[k]? = some r) {b c : Nat} (hF : Own w b 3 (r.length * 1) (V r)) (hB : B ≤ b) (hA : b ≠ g) :
    PO (w.setCell ⟨g, k, none⟩ (.slice (some ⟨b, 0, none⟩) r.length c)) g (k + 1) B V L := by
  have hlt := h.lt
  obtain ⟨cs, h1, h2, h3⟩ := h
  have hk : k < cs.size := by rw [h2]; exact (List.getElem?_eq_some_iff.1 hr).1
  refine ⟨cs.setIfInBounds k (.slice (some ⟨b, 0, none⟩) r.length c), by simp [World.setCell, Array.getElem?_modify, h1], by simpa using h2, fun i r' hi hr' => ?_⟩
  by_cases e : i = k
  · subst e
    have : r' = r := Option.some.inj (hr'.symm.trans hr)
    subst this
    exact ⟨b, c, by simp [hk], hF.far hA _, hB, hA⟩
  · obtain ⟨bi, ci, e1, e2, e3, e4⟩ := h3 i r' (by omega) hr'
    exact ⟨bi, ci, by rw [Array.getElem?_setIfInBounds_ne (fun h => e h.symm)]; exact e1, e2.far e4 _, e3, e4⟩
theorem PO.pm {w : World} {g k B : Nat} {L : List (List Int)} (h : PO w g k B gl L) : PM w g k L := by
  obtain ⟨cs, h1, h2, h3⟩ := h
  refine ⟨cs, h1, h2, fun i r hi hr => ?_⟩
  obtain ⟨b, ci, e1, e2, e3, e4⟩ := h3 i r hi hr
  exact ⟨some ⟨b, 0, none⟩, ci, e1, e2.fl (Nat.le_refl _), fun b' off e => by injection e with e; injection e with e; omega⟩
theorem PO.cell {w : World} {g k B : Nat} {V : List Int → Nat → Int} {L : List (List Int)} (h : PO w g k B V L) {i : Nat} (hi : i < L.length) : ∃ v, w.cell? ⟨g, i, none⟩ = some v ∧ w.frozen? ⟨g, i, none⟩ = false := by
    obtain ⟨cs, h1, h2, h3⟩ := h
    exact ⟨cs[i]'(by omega), by simp [World.cell?, h1, Array.getElem?_eq_getElem (show i < cs.size by omega)], by simp [World.frozen?, h1]⟩
/-- A call made a slice of slices of its own, each row its own, that holds L. -/
def MadeO (w : World) (L : List (List Int)) (e : Ending) (w' : World) : Prop := ∃ g, e = .returned (.slice (some ⟨g, 0, none⟩) L.length L.length) ∧ w.heap.size ≤ g ∧ PO w' g L.length w.heap.size gl L ∧ Below w.heap.size w w'
theorem toIntSS_own (A : Option Addr) (c : Nat) (L : List (List Int)) (w : World) (hn : L.length ≤ 1048576) (hr : ∀ r ∈ L, r.length ≤ 1048576) (f0 : Fm w A L) : Calls Try.prog 12 #[.slice A L.length c] w (MadeO w L) := by
  have hmk := fun W => run_make_rowN (P := Try.prog) 22 23 _ _ _ Try.underlying22 infoIntS .i64 .i64 L.length (by omega) (by omega) W
  obtain ⟨n, hn2⟩ : ∃ n, n = L.length := ⟨_, rfl⟩
  have HN := Lib.hid hn2
  simp only [← hn2] at hmk hn ⊢
  clear hn2
  have HF := Lib.hid f0; clear f0
  have p0 : PO (w.alloc (.cells (madeCells #[.slice none 0 0] (n * 1)) 23)) w.heap.size 0 w.heap.size gl L := ⟨_, heap_alloc_new w _, by simp [madeCells, HN.out], fun i r hi => by omega⟩
  have hb0 := below_alloc (Below.refl w.heap.size w) (.cells (madeCells #[.slice none 0 0] (n * 1)) 23)
  have HP0 := Lib.hid p0; clear p0
  have HB0 := Lib.hid hb0; clear hb0
  go_enter Try.func12, Try.ntmps12
  go_wp2_with fail
  go_loopw [4] (fun x wr => ∃ k : Nat, k ≤ n ∧ x = .int .i64 k ∧ PO wr w.heap.size k w.heap.size gl L ∧ Below w.heap.size w wr) (fun x _ => n - (intOf x).toNat)
  case atStart => exact ⟨0, Nat.zero_le _, rfl, by first | exact HP0.out | simpa using HP0.out, by first | exact HB0.out | simpa using HB0.out⟩
  case round =>
    clear hmk
    obtain ⟨k, hk, rfl, p0, hB⟩ := hrel
    have hnl := HN.out
    by_cases hkn : k < n
    · obtain ⟨r, hrk⟩ : ∃ r, L[k]? = some r := ⟨_, List.getElem?_eq_getElem (by omega)⟩
      have hrl := hr r (List.mem_of_getElem? hrk)
      obtain ⟨b, off, rfl, hc⟩ := (HF.out.below hB) (by omega)
      obtain ⟨Ai, ci, c0, f1⟩ := hc k r hrk
      obtain ⟨u, c1, z1⟩ := p0.cell (i := k) (by omega)
      have hlw := p0.lt
      have HR := Lib.hid hrk; clear hrk
      clear hnl hc
      go_wp2_with (go_at_call 13; (with_reducible refine (toIntS_any Ai r.length ci (gl r) _ hrl f1).mono ?_); rintro _ w1 ⟨g1, rfl, hg1, o1, hb⟩; replace p0 := PO.below p0 hb; replace hB := below_step hB hb; replace z1 := below_frozen hb (lt_of_cell c1) z1; replace c1 := below_cell hb c1; clear hb)
      have hg2 := Nat.le_trans (show w.heap.size ≤ wr.heap.size from by have := hg1; omega) hg1
      go_roundw
      case rel => exact ⟨k + 1, by omega, by go_num, p0.set HR.out o1 (by have := hB.size; omega) (by have := lt_of_cell c1; simp only at this; omega), by (repeat (first | exact Below.refl _ _ | assumption | (refine Below.drew ?_) | (refine below_alloc ?_ _) | (refine Below.setCell ?_ (by first | (simp; done) | (simp; omega) | omega | (have hq := hB.size; (try simp at hq ⊢); omega)) _) | (refine Below.alloc ?_ (by first | (simp; done) | (simp; omega) | omega | (have hq := hB.size; (try simp at hq ⊢); omega)) _) | (refine below_step ?_ (by assumption))))⟩
      case measure => simp [intOf]; omega
    · obtain rfl : k = n := by omega
      go_wp2_with fail
      go_ret
      exact ⟨w.heap.size, by rw [← HN.out]; rfl, Nat.le_refl _, by rw [← HN.out]; exact p0, hB⟩
/-- Rows whose numbers nobody names: blocks from B to E. -/
def PQ (w : World) (g B E : Nat) (L : List (List Int)) : Prop := ∃ cs : Array Value, w.heap[g]? = some (.cells cs 23 (0, 0)) ∧ ∀ (i : Nat) (r : List Int), L[i]? = some r → ∃ b ci, cs[i]? = some (.slice (some ⟨b, 0, none⟩) r.length ci) ∧ (∃ V, Own w b 3 (r.length * 1) V) ∧ B ≤ b ∧ b < E ∧ b ≠ g
theorem PO.pq {w : World} {g B : Nat} {V : List Int → Nat → Int} {L : List (List Int)} (h : PO w g L.length B V L) : PQ w g B w.heap.size L := by
  obtain ⟨cs, h1, h2, h3⟩ := h
  refine ⟨cs, h1, fun i r hr => ?_⟩
  obtain ⟨b, ci, e1, e2, e3, e4⟩ := h3 i r (List.getElem?_eq_some_iff.1 hr).1 hr
  exact ⟨b, ci, e1, ⟨_, e2⟩, e3, e2.lt, e4⟩
theorem PQ.below {w w' : World} {g B E : Nat} {L : List (List Int)} (h : PQ w g B E L) (hb : Below w.heap.size w w') : PQ w' g B E L := by
  obtain ⟨cs, h1, h3⟩ := h
  refine ⟨cs, (hb.block g (Array.getElem?_eq_some_iff.1 h1).1).trans h1, fun i r hr => ?_⟩
  obtain ⟨b, ci, e1, ⟨V, e2⟩, e3⟩ := h3 i r hr
  exact ⟨b, ci, e1, ⟨V, e2.below hb⟩, e3⟩
/-- What block b owns it owns still, with other numbers. -/
def Kept (w w' : World) (b : Nat) : Prop := ∀ N V, Own w b 3 N V → ∃ V', Own w' b 3 N V'
theorem PQ.only {w w' : World} {g B E b : Nat} {L : List (List Int)} (h : PQ w g B E L) (hy : w.grownBy w' (some b)) (hk : Kept w w' b) (hb : b ≠ g) : PQ w' g B E L := by
  obtain ⟨cs, h1, h3⟩ := h
  refine ⟨cs, (hy.block g (Array.getElem?_eq_some_iff.1 h1).1 (by simp; omega)).trans h1, fun i r hr => ?_⟩
  obtain ⟨b', ci, e1, ⟨V, e2⟩, e3⟩ := h3 i r hr
  refine ⟨b', ci, e1, ?_, e3⟩
  by_cases e : b' = b
  · subst e; exact hk _ _ e2
  · exact ⟨V, e2.only hy e⟩
/-- Nothing but blocks from B to E has turned. -/
structure Twx (B E : Nat) (w w' : World) : Prop where
  os : w'.os = w.os
  tape : w'.tape = w.tape
  output : w'.output = w.output
  size : w.heap.size ≤ w'.heap.size
  block : ∀ k, k < w.heap.size → k < B ∨ E ≤ k → w'.heap[k]? = w.heap[k]?
theorem Twx.refl (B E : Nat) (w : World) : Twx B E w w := ⟨rfl, rfl, rfl, Nat.le_refl _, fun _ _ _ => rfl⟩
theorem Twx.only {B E b : Nat} {w a c : World} (h : Twx B E w a) (hy : a.grownBy c (some b)) (h1 : B ≤ b) (h2 : b < E) : Twx B E w c :=
  ⟨hy.os.trans h.os, hy.tape.trans h.tape, hy.output.trans h.output, Nat.le_trans h.size hy.size, fun k hk hd => (hy.block k (Nat.lt_of_lt_of_le hk h.size) (by simp; omega)).trans (h.block k hk hd)⟩
theorem Twx.below {B E : Nat} {w a c : World} (hB : Below w.heap.size w a) (h : Twx B E a c) (hw : w.heap.size ≤ B) : Below w.heap.size w c :=
  ⟨h.os.trans hB.os, h.tape.trans hB.tape, h.output.trans hB.output, Nat.le_trans hB.size h.size, fun k hk => (h.block k (Nat.lt_of_lt_of_le hk hB.size) (Or.inl (by omega))).trans (hB.block k hk)⟩
theorem Own.twx {B E : Nat} {w w' : World} {g T N : Nat} {v : Nat → Int} (h : Own w g T N v) (hx : Twx B E w w') (hg : g < B ∨ E ≤ g) : Own w' g T N v := h.of_block (hx.block g h.lt hg)
theorem markIntS_from (g n c : Nat) (s : Int) (v : Nat → Int) (w : World) (hn : n ≤ 1048576) (hs : 0 ≤ s ∧ s ≤ 4611686018427387904) (o0 : Own w g 3 (n * 1) v) : Calls Try.prog 22 #[.slice (some ⟨g, 0, none⟩) n c, .int .i64 s] w
    fun e w' => e = .returned (.int .i64 (s + n)) ∧ Kept w w' g ∧ w.grownBy w' (some g) := by
  go_enter Try.func22, Try.ntmps22
  go_wp2_with fail
  go_loopw [1, 5] (fun a x wr => ∃ k : Nat, k ≤ n ∧ a = .int .i64 (s + k) ∧ x = .int .i64 k ∧ (∃ V, Own wr g 3 (n * 1) V) ∧ Kept w wr g ∧ w.grownBy wr (some g)) (fun _ x _ => n - (intOf x).toNat)
  case atStart => exact ⟨0, Nat.zero_le _, by simp, rfl, ⟨v, o0⟩, fun N V h => ⟨V, h⟩, ⟨rfl, rfl, rfl, Nat.le_refl _, fun _ _ _ => rfl⟩⟩
  case round =>
    clear o0
    obtain ⟨k, hk, rfl, rfl, ⟨V, o0⟩, hK, hB⟩ := hrel
    have HB := Lib.hid hB; clear hB
    have HK := Lib.hid hK; clear hK
    by_cases hkn : k < n
    · have c0 : wr.cell? ⟨g, k, none⟩ = some (.int .i64 (V k)) := o0.cell (j := k) (by omega)
      have z0 := o0.frozen k
      go_wp2
      go_roundw
      case rel =>
        refine ⟨k + 1, by omega, by go_num, by go_num, ⟨_, o0.set k _⟩, fun N V' h => ?_, only_set HB.out _ _⟩
        obtain ⟨V2, h2⟩ := HK.out N V' h
        exact ⟨_, h2.set k _⟩
      case measure => simp [intOf]; omega
    · obtain rfl : k = n := by omega
      go_wp2
      go_ret
      exact ⟨rfl, HK.out, HB.out⟩
theorem markIntSS_any (g B E c : Nat) (L : List (List Int)) (w : World) (hn : L.length ≤ 1048576) (hr : ∀ r ∈ L, r.length ≤ 1048576) (p0 : PQ w g B E L) : Calls Try.prog 21 #[.slice (some ⟨g, 0, none⟩) L.length c, .int .i64 1] w
    fun e w' => ∃ s, e = .returned (.int .i64 s) ∧ (0 ≤ s ∧ s ≤ 4611686018427387904) ∧ Twx B E w w' := by
  obtain ⟨n, hn2⟩ : ∃ n, n = L.length := ⟨_, rfl⟩
  have HN := Lib.hid hn2
  simp only [← hn2] at hn ⊢
  clear hn2
  go_enter Try.func21, Try.ntmps21
  go_wp2_with fail
  go_loopw [1, 5] (fun a x wr => ∃ (k : Nat) (s : Int), k ≤ n ∧ a = .int .i64 s ∧ x = .int .i64 k ∧ (0 ≤ s ∧ s ≤ 1 + (k : Int) * 1048576) ∧ PQ wr g B E L ∧ Twx B E w wr) (fun _ x _ => n - (intOf x).toNat)
  case atStart => exact ⟨0, 1, Nat.zero_le _, rfl, rfl, by omega, p0, Twx.refl _ _ _⟩
  case round =>
    clear p0
    obtain ⟨k, s, hk, rfl, rfl, hs, p0, hT⟩ := hrel
    have HT := Lib.hid hT; clear hT
    have hnl := HN.out
    by_cases hkn : k < n
    · obtain ⟨r, hrk⟩ : ∃ r, L[k]? = some r := ⟨_, List.getElem?_eq_getElem (by omega)⟩
      have hrl := hr r (List.mem_of_getElem? hrk)
      have HP := Lib.hid p0
      obtain ⟨cs, h1, h3⟩ := p0
      obtain ⟨b, ci, e1, ⟨V, o1⟩, hbB, hbE, hbg⟩ := h3 k r hrk
      have c0 : wr.cell? ⟨g, k, none⟩ = some (.slice (some ⟨b, 0, none⟩) r.length ci) := by simp [World.cell?, h1, e1]
      clear hnl hrk h1 h3 e1
      have hmk := markIntS_from b r.length ci s V wr hrl (by omega) o1
      clear o1
      go_wp2_with fail
      with_reducible refine hmk.mono ?_
      rintro _ w1 ⟨rfl, hK, hy⟩
      clear hmk
      have p1 := PQ.only HP.out hy hK hbg
      have hT := HT.out.only hy hbB hbE
      go_wp2_with fail
      go_roundw
      case rel => exact ⟨k + 1, s + (r.length : Int), by omega, rfl, by go_num, by push_cast; omega, p1, hT⟩
      case measure => simp [intOf]; omega
    · obtain rfl : k = n := by omega
      go_wp2_with fail
      go_ret
      exact ⟨s, rfl, by omega, HT.out⟩
end Go.Proofs.Ytmnmnkenboejpaa
