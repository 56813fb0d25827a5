/- Slices of slices of numbers: read, copied, measured, compared. No conditions but lengths of at most 2^20. -/
import Derived.Test.YtmnmnkenboejpaaIntS
namespace Go.Proofs.Ytmnmnkenboejpaa
open Go.RowKit
set_option linter.unusedSimpArgs false
set_option linter.unusedVariables false
set_option maxHeartbeats 4000000
theorem infoIntS : (Try.prog.info? 23).map (fun i => (i.zero, i.size, i.bytes)) = some (some (.slice none 0 0), 1, 24) := by kernel_rfl
/-- The numbers of a list. -/
def gl (r : List Int) : Nat → Int := fun j => r.getD j 0
/-- The slice at A holds the rows L. -/
def Fm (w : World) (A : Option Addr) (L : List (List Int)) : Prop := 0 < L.length → ∃ b off, A = some ⟨b, off, none⟩ ∧ ∀ (i : Nat) (r : List Int), L[i]? = some r → ∃ Ai ci, w.cell? ⟨b, off + i, none⟩ = some (.slice Ai r.length ci) ∧ Fl w Ai r.length 1 (gl r)
theorem Fm.below {w w' : World} {A : Option Addr} {L : List (List Int)} (h : Fm w A L) (hb : Below w.heap.size w w') : Fm w' A L := fun h0 => by
  obtain ⟨b, off, e, hc⟩ := h h0
  refine ⟨b, off, e, fun i r hr => ?_⟩
  obtain ⟨Ai, ci, h1, h2⟩ := hc i r hr
  exact ⟨Ai, ci, below_cell hb h1, h2.below hb⟩
/-- The first k rows of L stand in block g. -/
def PM (w : World) (g k : Nat) (L : List (List Int)) : Prop := ∃ cs : Array Value, w.heap[g]? = some (.cells cs 23 (0, 0)) ∧ cs.size = L.length ∧ ∀ (i : Nat) (r : List Int), i < k → L[i]? = some r → ∃ Ai ci, cs[i]? = some (.slice Ai r.length ci) ∧ Fl w Ai r.length 1 (gl r) ∧ ∀ b off, Ai = some ⟨b, off, none⟩ → b ≠ g
theorem PM.lt {w : World} {g k : Nat} {L : List (List Int)} (h : PM w g k L) : g < w.heap.size := by
  obtain ⟨cs, h1, _⟩ := h
  exact (Array.getElem?_eq_some_iff.1 h1).1
theorem PM.below {w w' : World} {g k : Nat} {L : List (List Int)} (h : PM w g k L) (hb : Below w.heap.size w w') : PM w' g k L := by
  have hlt := h.lt
  obtain ⟨cs, h1, h2, h3⟩ := h
  refine ⟨cs, (hb.block g hlt).trans h1, h2, fun i r hi hr => ?_⟩
  obtain ⟨Ai, ci, e1, e2, e3⟩ := h3 i r hi hr
  exact ⟨Ai, ci, e1, e2.below hb, e3⟩
theorem PM.set {w : World} {g k : Nat} {L : List (List Int)} (h : PM w g k L) {r : List Int} (hr : L[k]? = some r) {A : Option Addr} {c : Nat} (hF : Fl w A r.length 1 (gl r)) (hA : ∀ b off, A = some ⟨b, off, none⟩ → b ≠ g) :
    PM (w.setCell ⟨g, k, none⟩ (.slice A r.length c)) g (k + 1) L := by
  have hlt := h.lt
  obtain ⟨cs, h1, h2, h3⟩ := h
  have hk : k < cs.size := by rw [h2]; exact (List.getElem?_eq_some_iff.1 hr).1
  have far : ∀ {A' : Option Addr} {n : Nat} {v : Nat → Int}, Fl w A' n 1 v → (∀ b off, A' = some ⟨b, off, none⟩ → b ≠ g) → Fl (w.setCell ⟨g, k, none⟩ (.slice A r.length c)) A' n 1 v := fun hF hA hn => by
    obtain ⟨b, off, e, hc⟩ := hF hn
    refine ⟨b, off, e, fun j hj => ?_⟩
    rw [World.cell?_setCell_other _ _ _ _ (by intro e2; injection e2 with e2; exact hA b off e e2.symm)]
    exact hc j hj
  refine ⟨cs.setIfInBounds k (.slice A r.length c), by simp [World.setCell, Array.getElem?_modify, h1], by simpa using h2, fun i r' hi hr' => ?_⟩
  by_cases e : i = k
  · subst e
    have : r' = r := Option.some.inj (hr'.symm.trans hr)
    subst this
    exact ⟨A, c, by simp [hk], far hF hA, hA⟩
  · obtain ⟨Ai, ci, e1, e2, e3⟩ := h3 i r' (by omega) hr'
    exact ⟨Ai, ci, by rw [Array.getElem?_setIfInBounds_ne (fun h => e h.symm)]; exact e1, far e2 e3, e3⟩
theorem PM.fm {w : World} {g k : Nat} {L : List (List Int)} (h : PM w g k L) (hk : L.length ≤ k) : Fm w (some ⟨g, 0, none⟩) L := fun h0 => by
  obtain ⟨cs, h1, h2, h3⟩ := h
  refine ⟨g, 0, rfl, fun i r hr => ?_⟩
  have hi := (List.getElem?_eq_some_iff.1 hr).1
  obtain ⟨Ai, ci, e1, e2, _⟩ := h3 i r (by omega) hr
  exact ⟨Ai, ci, by simp [World.cell?, h1, e1], e2⟩
theorem PM.cell {w : World} {g k : Nat} {L : List (List Int)} (h : PM w g k L) {i : Nat} (hi : i < L.length) : ∃ v, w.cell? ⟨g, i, none⟩ = some v ∧ w.frozen? ⟨g, i, none⟩ = false := by
  obtain ⟨cs, h1, h2, h3⟩ := h
  exact ⟨cs[i]'(by omega), by simp [World.cell?, h1, Array.getElem?_eq_getElem (show i < cs.size by omega)], by simp [World.frozen?, h1]⟩
/-- A call made a slice of slices of its own that holds L. -/
def MadeM (w : World) (L : List (List Int)) (e : Ending) (w' : World) : Prop := ∃ g, e = .returned (.slice (some ⟨g, 0, none⟩) L.length L.length) ∧ w.heap.size ≤ g ∧ PM w' g L.length L ∧ Below w.heap.size w w'
theorem toIntSS_any (A : Option Addr) (c : Nat) (L : List (List Int)) (w : World) (hn : L.length ≤ 1048576) (hr : ∀ r ∈ L, r.length ≤ 1048576) (f0 : Fm w A L) : Calls Try.prog 12 #[.slice A L.length c] w (MadeM w L) := by
  have hmk := fun W => run_make_rowN (P := Try.prog) 22 23 _ _ _ Try.underlying22 infoIntS .i64 .i64 L.length (by omega) (by omega) W
  obtain ⟨n, hn2⟩ : ∃ n, n = L.length := ⟨_, rfl⟩
  have HN := Lib.hid hn2
  simp only [← hn2] at hmk hn ⊢
  clear hn2
  have HF := Lib.hid f0; clear f0
  have p0 : PM (w.alloc (.cells (madeCells #[.slice none 0 0] (n * 1)) 23)) w.heap.size 0 L := ⟨_, heap_alloc_new w _, by simp [madeCells, HN.out], fun i r hi => by omega⟩
  have hb0 := below_alloc (Below.refl w.heap.size w) (.cells (madeCells #[.slice none 0 0] (n * 1)) 23)
  have HP0 := Lib.hid p0; clear p0
  have HB0 := Lib.hid hb0; clear hb0
  go_enter Try.func12, Try.ntmps12
  go_wp2_with fail
  go_loopw [4] (fun x wr => ∃ k : Nat, k ≤ n ∧ x = .int .i64 k ∧ PM wr w.heap.size k L ∧ Below w.heap.size w wr) (fun x _ => n - (intOf x).toNat)
  case atStart => exact ⟨0, Nat.zero_le _, rfl, by first | exact HP0.out | simpa using HP0.out, by first | exact HB0.out | simpa using HB0.out⟩
  case round =>
    clear hmk
    obtain ⟨k, hk, rfl, p0, hB⟩ := hrel
    have hnl := HN.out
    by_cases hkn : k < n
    · obtain ⟨r, hrk⟩ : ∃ r, L[k]? = some r := ⟨_, List.getElem?_eq_getElem (by omega)⟩
      have hrl := hr r (List.mem_of_getElem? hrk)
      obtain ⟨b, off, rfl, hc⟩ := (HF.out.below hB) (by omega)
      obtain ⟨Ai, ci, c0, f1⟩ := hc k r hrk
      obtain ⟨u, c1, z1⟩ := p0.cell (i := k) (by omega)
      have hlw := p0.lt
      have HR := Lib.hid hrk; clear hrk
      clear hnl hc
      go_wp2_with (go_at_call 13; (with_reducible refine (toIntS_any Ai r.length ci (gl r) _ hrl f1).mono ?_); rintro _ w1 ⟨g1, rfl, hg1, o1, hb⟩; replace p0 := PM.below p0 hb; replace hB := below_step hB hb; replace z1 := below_frozen hb (lt_of_cell c1) z1; replace c1 := below_cell hb c1; clear hb)
      have hg2 := Nat.le_trans (show w.heap.size ≤ wr.heap.size from by have := hg1; omega) hg1
      go_roundw
      case rel => exact ⟨k + 1, by omega, by go_num, p0.set HR.out (o1.fl (Nat.le_refl _)) (fun b off e => by injection e with e; injection e with e; have := lt_of_cell c1; simp only at this; omega), by (repeat (first | exact Below.refl _ _ | assumption | (refine Below.drew ?_) | (refine below_alloc ?_ _) | (refine Below.setCell ?_ (by first | (simp; done) | (simp; omega) | omega | (have hq := hB.size; (try simp at hq ⊢); omega)) _) | (refine Below.alloc ?_ (by first | (simp; done) | (simp; omega) | omega | (have hq := hB.size; (try simp at hq ⊢); omega)) _) | (refine below_step ?_ (by assumption))))⟩
      case measure => simp [intOf]; omega
    · obtain rfl : k = n := by omega
      go_wp2_with fail
      go_ret
      exact ⟨w.heap.size, by rw [← HN.out]; rfl, Nat.le_refl _, by rw [← HN.out]; exact p0, hB⟩
/-- What the size leaves of 'left'. -/
def szI (r : Nat) (left : Int) : Int := if (r : Int) ≤ left then left - r else -1
def szM : List (List Int) → Int → Int
  | [], left => left
  | r :: L, left => if (r.length : Int) ≤ left then szM L (left - r.length) else -1
theorem szM_ok : ∀ (L : List (List Int)) (left : Int), 0 ≤ left → 0 ≤ szM L left → ∀ r ∈ L, (r.length : Int) ≤ left
  | [], _, _, _, r, hr => by cases hr
  | r0 :: L, left, h0, h, r, hr => by
    simp only [szM] at h
    split at h
    · rename_i h1
      rcases List.mem_cons.1 hr with rfl | hr
      · exact h1
      · have := szM_ok L (left - r0.length) (by omega) h r hr
        omega
    · omega
theorem szIntS_any (A : Option Addr) (n c : Nat) (left : Int) (hl : 0 ≤ left ∧ left ≤ 1048576) (hn : n ≤ maxLen) (w : World) : Calls Try.prog 37 #[.slice A n c, .int .i64 left] w fun e w' => e = .returned (.int .i64 (szI n left)) ∧ w = w' := by
  unfold maxLen at hn
  by_cases h : (n : Int) ≤ left
  · go_enter Try.func37, Try.ntmps37
    go_wp2
    go_ret
    exact ⟨ret_int (by rw [szI, if_pos h]), rfl⟩
  · go_enter Try.func37, Try.ntmps37
    go_wp2
    go_ret
    exact ⟨ret_int (by rw [szI, if_neg (by omega)]), rfl⟩
theorem szIntSS_any (A : Option Addr) (c : Nat) (L : List (List Int)) (w : World) (hn : L.length ≤ maxLen) (hr : ∀ r ∈ L, r.length ≤ maxLen) (f0 : Fm w A L) : Calls Try.prog 10 #[.slice A L.length c, .int .i64 1048576] w fun e w' => e = .returned (.int .i64 (if L.length ≤ 1048576 then szM L (1048576 - L.length) else -1)) ∧ w = w' := by
  obtain ⟨n, hn2⟩ : ∃ n, n = L.length := ⟨_, rfl⟩
  have HN := Lib.hid hn2
  simp only [← hn2] at hn ⊢
  clear hn2
  unfold maxLen at hn
  by_cases hb : n ≤ 1048576
  · rw [if_pos hb]
    have HS := Lib.hid (show szM L (1048576 - (n : Int)) = szM (L.drop 0) (1048576 - (n : Int)) from rfl)
    go_enter Try.func10, Try.ntmps10
    go_wp2_with fail
    go_loopw [1, 5] (fun le x wr => ∃ (k : Nat) (left : Int), k ≤ n ∧ x = .int .i64 k ∧ le = .int .i64 left ∧ (0 ≤ left ∧ left ≤ 1048576) ∧ Go.RowKit.Hid (szM L (1048576 - (n : Int)) = szM (L.drop k) left) ∧ wr = w) (fun _ x _ => n - (intOf x).toNat)
    case atStart => exact ⟨0, 1048576 - n, Nat.zero_le _, rfl, rfl, by omega, HS, rfl⟩
    case round =>
      clear HS
      obtain ⟨k, left, hk, rfl, rfl, hl, HS, rfl⟩ := hrel
      have hnl := HN.out
      by_cases hkn : k < n
      · obtain ⟨r, hrk⟩ : ∃ r, L[k]? = some r := ⟨_, List.getElem?_eq_getElem (by omega)⟩
        have hrl := hr r (List.mem_of_getElem? hrk)
        have hdr : L.drop k = r :: L.drop (k + 1) := by
          rw [List.drop_eq_getElem_cons (by omega)]
          congr 1
          rw [List.getElem?_eq_getElem (by omega)] at hrk
          exact Option.some.inj hrk
        have hS := HS.out
        rw [hdr] at hS
        obtain ⟨b, off, rfl, hc⟩ := f0 (by omega)
        obtain ⟨Ai, ci, c0, _⟩ := hc k r hrk
        clear hnl hc hrk hdr HS
        have hsz := fun w => szIntS_any Ai r.length ci left hl hrl w
        by_cases h1 : (r.length : Int) ≤ left
        · have HS2 := Lib.hid (show szM L (1048576 - (n : Int)) = szM (L.drop (k + 1)) (left - r.length) by rw [hS, szM, if_pos h1])
          simp only [szI, if_pos h1] at hsz
          clear hS
          go_wp2_with (go_at_call 37; (with_reducible refine (hsz _).mono ?_); rintro _ _ ⟨rfl, rfl⟩)
          go_roundw
          case rel => exact ⟨k + 1, left - (r.length : Int), by omega, by go_num, rfl, by omega, Lib.hid HS2.out, trivial⟩
          case measure => simp [intOf]; omega
        · have hS2 : szM L (1048576 - (n : Int)) = -1 := by rw [hS, szM, if_neg h1]
          have HS2 := Lib.hid hS2
          simp only [szI, if_neg h1] at hsz
          clear hS hS2
          go_wp2_with (go_at_call 37; (with_reducible refine (hsz _).mono ?_); rintro _ _ ⟨rfl, rfl⟩)
          go_ret
          exact ⟨ret_int HS2.out.symm, rfl⟩
      · obtain rfl : k = n := by omega
        have hS := HS.out
        rw [hnl, List.drop_length, szM] at hS
        have HS2 := Lib.hid hS
        clear hS HS hnl
        go_wp2_with fail
        go_ret
        exact ⟨ret_int (by first | exact HS2.out.symm | (rw [HN.out]; exact HS2.out.symm)), rfl⟩
  · rw [if_neg hb]
    go_enter Try.func10, Try.ntmps10
    go_wp2
    go_ret
    exact ⟨rfl, rfl⟩
theorem eqIntSS_true (A A' : Option Addr) (c c' : Nat) (L : List (List Int)) (w : World) (hn : L.length ≤ 1048576) (hr : ∀ r ∈ L, r.length ≤ 1048576) (f0 : Fm w A L) (f1 : Fm w A' L) : Calls Try.prog 15 #[.slice A L.length c, .slice A' L.length c'] w fun e w' => e = .returned (.bool true) ∧ Below w.heap.size w w' := by
  obtain ⟨n, hn2⟩ : ∃ n, n = L.length := ⟨_, rfl⟩
  have HN := Lib.hid hn2
  simp only [← hn2] at hn ⊢
  clear hn2
  have HF := Lib.hid f0; clear f0
  have HF1 := Lib.hid f1; clear f1
  have hnn : ((n : Int) != (n : Int)) = false := by simp
  go_enter Try.func15, Try.ntmps15
  go_wp2_with fail
  go_loopw [5] (fun x wr => ∃ k : Nat, k ≤ n ∧ x = .int .i64 k ∧ Below w.heap.size w wr) (fun x _ => n - (intOf x).toNat)
  case atStart => exact ⟨0, Nat.zero_le _, rfl, Below.refl _ _⟩
  case round =>
    obtain ⟨k, hk, rfl, hB⟩ := hrel
    have hnl := HN.out
    by_cases hkn : k < n
    · obtain ⟨r, hrk⟩ : ∃ r, L[k]? = some r := ⟨_, List.getElem?_eq_getElem (by omega)⟩
      have hrl := hr r (List.mem_of_getElem? hrk)
      obtain ⟨b, off, rfl, hc⟩ := (HF.out.below hB) (by omega)
      obtain ⟨Ai, ci, c0, f2⟩ := hc k r hrk
      obtain ⟨b', off', rfl, hc'⟩ := (HF1.out.below hB) (by omega)
      obtain ⟨Aj, cj, c1, f3⟩ := hc' k r hrk
      clear hnl hc hc' hrk
      have hE := fun w f g => eqIntS_true Ai Aj r.length ci cj (gl r) w hrl f g
      have hf2 := fun e => f2.below (ext_below wr e)
      have hf3 := fun e => f3.below (ext_below wr e)
      go_wp2_with fail
      (have Ec0 := ext_cell c0; have Ec1 := ext_cell c1; refine calm_lit (by kernel_rfl) (by kernel_rfl) ?_; (repeat (first | go_big_quiet_step ((go_at_call 16; exact calm_of (hE _ (hf2 _) (hf3 _)))) | simp only [TF])); refine wpQuiet_nil ?_; intro w1 hb; clear Ec0 Ec1; replace c0 := below_cell hb c0; replace c1 := below_cell hb c1; replace hB := below_step hB hb; clear hb)
      go_wp2_with fail
      go_roundw
      case rel => exact ⟨k + 1, by omega, by go_num, hB⟩
      case measure => simp [intOf]; omega
    · obtain rfl : k = n := by omega
      go_wp2_with fail
      go_ret
      exact ⟨rfl, hB⟩
end Go.Proofs.Ytmnmnkenboejpaa
