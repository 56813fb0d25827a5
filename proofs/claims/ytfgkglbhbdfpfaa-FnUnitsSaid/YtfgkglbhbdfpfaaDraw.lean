/- Contracts of the draw functions: a cursor over readable bytes stays one, each drawn number lies in its bounds, and only the cursor's own block is written. Which number is drawn is not said. Asked: the bytes can be read, at most 2^20 of them. -/
import Derived.Test.YtfgkglbhbdfpfaaIn
import Derived.Test.YtfgkglbhbdfpfaaSlc
import Derived.Laws.Bits128
import Derived.RegionTactic
import Derived.Deep.AppendLies
namespace Go.Proofs.Ytfgkglbhbdfpfaa
open Go.RowKit
set_option linter.unusedSimpArgs false
set_option linter.unusedVariables false
set_option maxHeartbeats 2000000

theorem and255 (n : Int) : bits .and .i64 n 255 = n % 256 := by
  have h127 : (BitVec.ofInt 64 255).toNat = 2 ^ 8 - 1 := by decide
  have key : (BitVec.ofInt 64 n &&& BitVec.ofInt 64 255).toNat = (n % ((2 ^ 64 : Nat) : Int)).toNat % 2 ^ 8 := by
    rw [BitVec.toNat_and, BitVec.toNat_ofInt, h127, Nat.and_two_pow_sub_one_eq_mod]
  show IntKind.i64.wrap ((BitVec.ofInt 64 n &&& BitVec.ofInt 64 255).toNat : Nat) = n % 256
  rw [key, IntKind.wrap_i64]
  omega
theorem and255_bd (n : Int) : 0 ≤ bits .and .i64 n 255 ∧ bits .and .i64 n 255 ≤ 255 := by rw [and255]; omega

/-- A slice of bytes at A reads as v. -/
def Fb (w : World) (A : Option Addr) (n : Nat) (v : Nat → Int) : Prop :=
  0 < n → ∃ b off, A = some ⟨b, off, none⟩ ∧ ∀ j, j < n → (0 ≤ v j ∧ v j ≤ 255) ∧ w.cell? ⟨b, off + j, none⟩ = some (.int .u8 (v j))
theorem Fb.lt {w : World} {A : Option Addr} {n : Nat} {v : Nat → Int} (h : Fb w A n v) : 0 < n → ∀ b off, A = some ⟨b, off, none⟩ → b < w.heap.size := by
  intro hn b off e
  obtain ⟨b', off', e', hc⟩ := h hn
  rw [e] at e'
  injection e' with e'
  injection e' with e1 e2
  subst e1
  exact lt_of_cell (hc 0 hn).2
theorem Fb.below {w w' : World} {A : Option Addr} {n : Nat} {v : Nat → Int} (h : Fb w A n v) (hb : Below w.heap.size w w') : Fb w' A n v := by
  intro hn
  obtain ⟨b, off, e, hc⟩ := h hn
  exact ⟨b, off, e, fun j hj => ⟨(hc j hj).1, below_cell hb (hc j hj).2⟩⟩
/-- The cursor in block g; its bytes lie below block D. -/
def Cur (w : World) (D g : Nat) : Prop := ∃ (A : Option Addr) (n k i : Nat) (h : Int) (v : Nat → Int),
  w.heap[g]? = some (.cells #[.slice A n k, .int .i64 i, .int .i64 h] 66 (0, 0)) ∧ i ≤ n ∧ n ≤ 1048576 ∧ Fb w A n v ∧ (0 < n → ∀ b off, A = some ⟨b, off, none⟩ → b < D) ∧ D ≤ g
/-- A call drew a number of which p holds. -/
def Drew (w : World) (D g : Nat) (p : Int → Prop) (e : Ending) (w' : World) : Prop := ∃ x : Int, e = .returned (.int .i64 x) ∧ p x ∧ Cur w' D g ∧ w.grownBy w' (some g)

theorem only_cell {w w' : World} {g : Nat} (hg : w.grownBy w' (some g)) {p : Addr} {v : Value} (h : w.cell? p = some v) (hne : p.block ≠ g) : w'.cell? p = some v := hg.cell h (by simpa using hne)
theorem only_frozen {w w' : World} {g : Nat} (hg : w.grownBy w' (some g)) {p : Addr} (hlt : p.block < w.heap.size) {b : Bool} (h : w.frozen? p = b) (hne : p.block ≠ g) : w'.frozen? p = b := (hg.frozen_far p hlt (by simpa using hne)).trans h
theorem only_trans {a b c : World} {g : Nat} (h : a.grownBy b (some g)) (k : b.grownBy c (some g)) : a.grownBy c (some g) :=
  ⟨k.os.trans h.os, k.tape.trans h.tape, k.output.trans h.output, Nat.le_trans h.size k.size, fun i hi hne => (k.block i (Nat.lt_of_lt_of_le hi h.size) hne).trans (h.block i hi hne)⟩
theorem only_of_below {a b : World} {g : Nat} (h : Below a.heap.size a b) : a.grownBy b (some g) := ⟨h.os, h.tape, h.output, h.size, fun i hi _ => h.block i hi⟩
theorem Fb.only {w w' : World} {A : Option Addr} {n : Nat} {v : Nat → Int} {g : Nat} (h : Fb w A n v) (hg : w.grownBy w' (some g)) (hne : 0 < n → ∀ b off, A = some ⟨b, off, none⟩ → b ≠ g) : Fb w' A n v := by
  intro hn
  obtain ⟨b, off, e, hc⟩ := h hn
  exact ⟨b, off, e, fun j hj => ⟨(hc j hj).1, only_cell hg (hc j hj).2 (hne hn _ _ e)⟩⟩
theorem Cur.lt {w : World} {D g : Nat} (h : Cur w D g) : g < w.heap.size := by
  obtain ⟨_, _, _, _, _, _, hb, _⟩ := h
  exact (Array.getElem?_eq_some_iff.1 hb).1
theorem Cur.below {w w' : World} {D g : Nat} (h : Cur w D g) (hb : Below w.heap.size w w') : Cur w' D g := by
  have hl := h.lt
  obtain ⟨A, n, k, i, x, v, h1, h2, h3, h4, h5⟩ := h
  exact ⟨A, n, k, i, x, v, (hb.block g hl).trans h1, h2, h3, h4.below hb, h5⟩
theorem Cur.ge {w : World} {D g : Nat} (h : Cur w D g) : D ≤ g := by
  obtain ⟨_, _, _, _, _, _, _, _, _, _, _, h⟩ := h
  exact h
/-- Writing a block of the call's own, not the cursor's, leaves the cursor. -/
theorem Cur.set {w : World} {D g : Nat} (h : Cur w D g) {p : Addr} (h1 : D ≤ p.block) (h2 : p.block ≠ g) (u : Value) : Cur (w.setCell p u) D g := by
  obtain ⟨A, n, k, i, x, v, k1, k2, k3, k4, k5, k6⟩ := h
  refine ⟨A, n, k, i, x, v, (Below.heap_setCell w p u g (fun e => h2 e.symm)).trans k1, k2, k3, fun hn => ?_, k5, k6⟩
  obtain ⟨b, off, e, hc⟩ := k4 hn
  have hb := k5 hn b off e
  refine ⟨b, off, e, fun j hj => ⟨(hc j hj).1, ?_⟩⟩
  have hq := (hc j hj).2
  have hne : (⟨b, off + j, none⟩ : Addr).block ≠ p.block := fun e => by simp only at e; omega
  have hh := Below.heap_setCell w p u b hne
  unfold World.cell? at hq ⊢
  simpa [hh] using hq
theorem Cur.drew {w : World} {D g : Nat} (h : Cur w D g) : Cur w.drew D g := h
theorem Cur.drewN {w : World} {D g : Nat} (h : Cur w D g) (n : Nat) : Cur (w.drewN n) D g := h
theorem Cur.grown {w w' : World} {D g : Nat} (h : Cur w D g) {q : Nat} (hg : w.grownBy w' (some q)) (h1 : D ≤ q) (h2 : q ≠ g) : Cur w' D g := by
  have hl := h.lt
  obtain ⟨A, n, k, i, x, v, k1, k2, k3, k4, k5, k6⟩ := h
  exact ⟨A, n, k, i, x, v, (hg.block g hl (by simp; omega)).trans k1, k2, k3, k4.only hg (fun hn b off e => by have := k5 hn b off e; omega), k5, k6⟩

theorem only_drewN {a w : World} {g : Nat} (h : a.grownBy w (some g)) (n : Nat) : a.grownBy (w.drewN n) (some g) := ⟨h.os, h.tape, h.output, h.size, h.block⟩
theorem only_drew {a w : World} {g : Nat} (h : a.grownBy w (some g)) : a.grownBy w.drew (some g) := ⟨h.os, h.tape, h.output, h.size, h.block⟩
theorem spec_Byte (w : World) (D g : Nat) (hc : Cur w D g) : Calls Try.prog 45 #[.pointer (some ⟨g, 0, none⟩)] w (Drew w D g fun x => 0 ≤ x ∧ x ≤ 255) := by
  obtain ⟨A, n, k, i, h, v, hb, hi, hn, hF, hnD, hDg⟩ := hc
  have hne : 0 < n → ∀ b off, A = some ⟨b, off, none⟩ → b ≠ g := fun hn b off e => by have := hnD hn b off e; omega
  have HD := Lib.hid hnD; clear hnD
  have c0 : w.cell? ⟨g, 0, none⟩ = some (.slice A n k) := by simp [World.cell?, hb]
  have c1 : w.cell? ⟨g, 1, none⟩ = some (.int .i64 i) := by simp [World.cell?, hb]
  have c2 : w.cell? ⟨g, 2, none⟩ = some (.int .i64 h) := by simp [World.cell?, hb]
  have z1 : w.frozen? ⟨g, 1, none⟩ = false := by simp [World.frozen?, hb]
  have z2 : w.frozen? ⟨g, 2, none⟩ = false := by simp [World.frozen?, hb]
  have HB := Lib.hid hb; clear hb
  have HF := Lib.hid hF; clear hF
  by_cases hin : i < n
  · obtain ⟨b, off, rfl, hcs⟩ := HF.out (by omega)
    have hbg := hne (by omega) b off rfl
    obtain ⟨⟨hx0, hx1⟩, d0⟩ := hcs i hin
    clear hcs
    have HN := Lib.hid hne; clear hne
    go_enter Try.func45, Try.ntmps45
    go_wp2_with fail
    go_quiet (fail)
    go_wp2_with fail
    go_quiet (fail)
    go_wp2_with fail
    go_quiet (fail)
    go_wp2_with fail
    refine bodyPost_ret (by simp [results, Try.results45, go_sem]; rfl) rfl ?_
    refine ⟨_, rfl, and255_bd _, ⟨some ⟨b, off, none⟩, n, k, i + 1, wrap64 (wrap64 (h * 6364136223846793005) + 1442695040888963407), v, ?_, by omega, hn, ?_, HD.out, hDg⟩, ?_⟩
    · simp [World.setCell, World.drewN, World.drew, Array.getElem?_modify, HB.out]
    · exact HF.out.only (by repeat (first | exact only_refl _ _ | refine only_drewN ?_ _ | refine only_drew ?_ | refine only_set ?_ _ _)) HN.out
    · repeat (first | exact only_refl _ _ | refine only_drewN ?_ _ | refine only_drew ?_ | refine only_set ?_ _ _)
  · have HN := Lib.hid hne; clear hne
    go_enter Try.func45, Try.ntmps45
    go_wp2_with fail
    go_quiet (fail)
    go_wp2_with fail
    go_quiet (fail)
    go_wp2_with fail
    refine bodyPost_ret (by simp [results, Try.results45, go_sem]; rfl) rfl ?_
    refine ⟨_, rfl, and255_bd _, ⟨A, n, k, i, wrap64 (wrap64 (h * 6364136223846793005) + 1442695040888963407), v, ?_, by omega, hn, ?_, HD.out, hDg⟩, ?_⟩
    · simp [World.setCell, World.drewN, World.drew, Array.getElem?_modify, HB.out]
    · exact HF.out.only (by repeat (first | exact only_refl _ _ | refine only_drewN ?_ _ | refine only_drew ?_ | refine only_set ?_ _ _)) HN.out
    · repeat (first | exact only_refl _ _ | refine only_drewN ?_ _ | refine only_drew ?_ | refine only_set ?_ _ _)

/-- One draw: the walk goes on with the number x, its bounds, the cursor and what has grown. -/
theorem spec_Below (w : World) (D g : Nat) (hc : Cur w D g) (n : Int) : Calls Try.prog 44 #[.pointer (some ⟨g, 0, none⟩), .int .i64 n] w (Drew w D g fun x => 0 ≤ x ∧ (1 ≤ n → x < n) ∧ (n ≤ 0 → x = 0)) := by
  by_cases h0 : n ≤ 0
  · have HC := Lib.hid hc; clear hc
    go_enter Try.func44, Try.ntmps44
    go_wp2_with fail
    refine bodyPost_ret (by simp [results, Try.results44, go_sem]; rfl) rfl ?_
    exact ⟨0, rfl, by omega, HC.out, only_refl _ _⟩
  by_cases h1 : n ≤ 256
  · have HC := Lib.hid hc; clear hc
    go_enter Try.func44, Try.ntmps44
    go_wp2_with fail
    with_reducible refine (spec_Byte _ _ _ HC.out).mono ?_
    rintro _ w1 ⟨x, rfl, ⟨hx0, hx1⟩, hc1, hg1⟩
    have HC1 := Lib.hid hc1; clear hc1
    have HG1 := Lib.hid hg1; clear hg1
    go_wp2_with fail
    refine bodyPost_ret (by simp [results, Try.results44, go_sem]; rfl) rfl ?_
    exact ⟨x % n, rfl, ⟨Int.emod_nonneg _ (by omega), fun _ => Int.emod_lt_of_pos _ (by omega), fun h => by omega⟩, HC1.out, HG1.out⟩
  · have HC := Lib.hid hc; clear hc
    go_enter Try.func44, Try.ntmps44
    go_wp2_with fail
    with_reducible refine (spec_Byte _ _ _ HC.out).mono ?_
    rintro _ w1 ⟨x, rfl, ⟨hx0, hx1⟩, hc1, hg1⟩
    have HC1 := Lib.hid hc1; clear hc1
    have HG1 := Lib.hid hg1; clear hg1
    go_wp2_with fail
    with_reducible refine (spec_Byte _ _ _ HC1.out).mono ?_
    rintro _ w2 ⟨y, rfl, ⟨hy0, hy1⟩, hc2, hg2⟩
    have HC2 := Lib.hid hc2; clear hc2
    have HG2 := Lib.hid hg2; clear hg2
    go_wp2_with fail
    with_reducible refine (spec_Byte _ _ _ HC2.out).mono ?_
    rintro _ w3 ⟨z, rfl, ⟨hz0, hz1⟩, hc3, hg3⟩
    have HC3 := Lib.hid hc3; clear hc3
    have HG3 := Lib.hid hg3; clear hg3
    go_wp2_with fail
    with_reducible refine (spec_Byte _ _ _ HC3.out).mono ?_
    rintro _ w4 ⟨u, rfl, ⟨hu0, hu1⟩, hc4, hg4⟩
    have HC4 := Lib.hid hc4; clear hc4
    have HG4 := Lib.hid hg4; clear hg4
    go_wp2_with fail
    refine bodyPost_ret (by simp [results, Try.results44, go_sem]; rfl) rfl ?_
    exact ⟨_, rfl, ⟨Int.emod_nonneg _ (by omega), fun _ => Int.emod_lt_of_pos _ (by omega), fun h => by omega⟩, HC4.out, only_trans (only_trans (only_trans HG1.out HG2.out) HG3.out) HG4.out⟩
set_option maxRecDepth 100000 in
theorem spec_New (A : Option Addr) (n k : Nat) (v : Nat → Int) (w : World) (hn : n ≤ 1048576) (hF : Fb w A n v) (D : Nat) (hD : D ≤ w.heap.size) (hA : 0 < n → ∀ b off, A = some ⟨b, off, none⟩ → b < D) : Calls Try.prog 38 #[.slice A n k] w fun e w' => ∃ g, e = .returned (.pointer (some ⟨g, 0, none⟩)) ∧ w.heap.size ≤ g ∧ Cur w' D g ∧ Below w.heap.size w w' := by
  have HF := Lib.hid hF; clear hF
  have HA := Lib.hid hA; clear hA
  go_enter Try.func38, Try.ntmps38
  go_wp2_with fail
  go_loop [3, 4] (fun a x => ∃ (i : Nat) (h : Int), i ≤ n ∧ a = .int .i64 h ∧ x = .int .i64 i) (fun _ x => n - (intOf x).toNat)
  case atStart => exact ⟨0, _, Nat.zero_le _, rfl, rfl⟩
  case round =>
    obtain ⟨i, h, hi, rfl, rfl⟩ := hrel
    by_cases hin : i < n
    · obtain ⟨b, off, rfl, hcs⟩ := HF.out (by omega)
      obtain ⟨⟨hx0, hx1⟩, d0⟩ := hcs i hin
      clear hcs
      by_cases h4 : i < 4000
      · go_wp2
        go_round
        case rel => exact ⟨i + 1, _, by omega, rfl, by go_num⟩
        case measure => simp [intOf]; omega
      · go_wp2
        refine bodyPost_ret (by simp [results, Try.results38, go_sem]; rfl) rfl ?_
        exact ⟨w.heap.size, rfl, Nat.le_refl _, ⟨_, n, k, 0, h, v, heap_alloc_new w _, by omega, hn, HF.out.below (by (repeat (first | exact Below.refl _ _ | assumption | (refine Below.drew ?_) | (refine below_alloc ?_ _) | (refine Below.setCell ?_ (by first | (simp; done) | (simp; omega) | omega | (have hq := hB.size; (try simp at hq ⊢); omega)) _) | (refine Below.alloc ?_ (by first | (simp; done) | (simp; omega) | omega | (have hq := hB.size; (try simp at hq ⊢); omega)) _) | (refine below_step ?_ (by assumption))))), HA.out, hD⟩, by (repeat (first | exact Below.refl _ _ | assumption | (refine Below.drew ?_) | (refine below_alloc ?_ _) | (refine Below.setCell ?_ (by first | (simp; done) | (simp; omega) | omega | (have hq := hB.size; (try simp at hq ⊢); omega)) _) | (refine Below.alloc ?_ (by first | (simp; done) | (simp; omega) | omega | (have hq := hB.size; (try simp at hq ⊢); omega)) _) | (refine below_step ?_ (by assumption))))⟩
    · obtain rfl : i = n := by omega
      go_wp2
      refine bodyPost_ret (by simp [results, Try.results38, go_sem]; rfl) rfl ?_
      refine ⟨w.heap.size, rfl, Nat.le_refl _, ⟨A, i, k, 0, h, v, heap_alloc_new w _, by omega, hn, HF.out.below (by (repeat (first | exact Below.refl _ _ | assumption | (refine Below.drew ?_) | (refine below_alloc ?_ _) | (refine Below.setCell ?_ (by first | (simp; done) | (simp; omega) | omega | (have hq := hB.size; (try simp at hq ⊢); omega)) _) | (refine Below.alloc ?_ (by first | (simp; done) | (simp; omega) | omega | (have hq := hB.size; (try simp at hq ⊢); omega)) _) | (refine below_step ?_ (by assumption))))), HA.out, hD⟩, by (repeat (first | exact Below.refl _ _ | assumption | (refine Below.drew ?_) | (refine below_alloc ?_ _) | (refine Below.setCell ?_ (by first | (simp; done) | (simp; omega) | omega | (have hq := hB.size; (try simp at hq ⊢); omega)) _) | (refine Below.alloc ?_ (by first | (simp; done) | (simp; omega) | omega | (have hq := hB.size; (try simp at hq ⊢); omega)) _) | (refine below_step ?_ (by assumption))))⟩

theorem only_alloc {a w : World} {g : Nat} (h : a.grownBy w (some g)) (o : Obj) : a.grownBy (w.alloc o) (some g) := only_trans h (World.grownBy_alloc w o _)
theorem only_setNew {a w : World} {g : Nat} (h : a.grownBy w (some g)) {p : Addr} (hp : a.heap.size ≤ p.block) (u : Value) : a.grownBy (w.setCell p u) (some g) :=
  ⟨h.os, h.tape, h.output, by simpa [World.setCell] using h.size, fun k hk hne => (Below.heap_setCell w p u k (by omega)).trans (h.block k hk hne)⟩
theorem only_step {a w w' : World} {g : Nat} (h : a.grownBy w (some g)) (hb : Below w.heap.size w w') : a.grownBy w' (some g) := only_trans h (only_of_below hb)
theorem Fl.only {w w' : World} {A : Option Addr} {n m : Nat} {v : Nat → Int} {g : Nat} (h : Fl w A n m v) (hg : w.grownBy w' (some g)) (hne : ∀ b off, A = some ⟨b, off, none⟩ → b ≠ g) : Fl w' A n m v := by
  intro hn
  obtain ⟨b, off, e, hc⟩ := h hn
  exact ⟨b, off, e, fun j hj => only_cell hg (hc j hj) (hne _ _ e)⟩
theorem set_far {w W : World} {p q : Addr} {u v : Value} (hW : W = w.setCell q u) (h : w.cell? p = some v) (hne : p.block ≠ q.block ∨ p.off ≠ q.off) : W.cell? p = some v := by
  subst hW
  have hx : q ≠ p := by intro e; subst e; rcases hne with h | h <;> exact h rfl
  exact (World.cell?_setCell_other w q p u hx).trans h
theorem set_here {w W : World} {q : Addr} {u v : Value} (hW : W = w.setCell q u) (h : w.cell? q = some v) : W.cell? q = some u := by
  subst hW
  exact World.cell?_setCell_same' w q u (by rw [h]; rfl)
theorem set_frozen {w W : World} {p q : Addr} {u : Value} {b : Bool} (hW : W = w.setCell q u) (h : w.frozen? p = b) : W.frozen? p = b := by
  subst hW
  simpa [go_sem] using h
theorem set_only {a w W : World} {q : Addr} {u : Value} {g : Nat} (hW : W = w.setCell q u) (h : a.grownBy w (some g)) (hq : a.heap.size ≤ q.block) : a.grownBy W (some g) := by subst hW; exact only_setNew h hq u
theorem set_cur {w W : World} {q : Addr} {u : Value} {D g : Nat} (hW : W = w.setCell q u) (h : Cur w D g) (h1 : D ≤ q.block) (h2 : q.block ≠ g) : Cur W D g := by subst hW; exact h.set h1 h2 u
/-- Block g holds the cells cs. -/
def Rw (w : World) (g T : Nat) (cs : Array Value) : Prop := w.heap[g]? = some (.cells cs T (0, 0))
theorem Rw.cell {w : World} {g T : Nat} {cs : Array Value} (h : Rw w g T cs) {i : Nat} {v : Value} (hv : cs[i]? = some v) : w.cell? ⟨g, i, none⟩ = some v := by unfold Rw at h; simp [World.cell?, h, hv]
theorem Rw.frozen {w : World} {g T : Nat} {cs : Array Value} (h : Rw w g T cs) (i : Nat) : w.frozen? ⟨g, i, none⟩ = false := by unfold Rw at h; simp [World.frozen?, h]
theorem Rw.lt {w : World} {g T : Nat} {cs : Array Value} (h : Rw w g T cs) : g < w.heap.size := (Array.getElem?_eq_some_iff.1 h).1
theorem Rw.only {w w' : World} {g g' T : Nat} {cs : Array Value} (h : Rw w g' T cs) (hg : w.grownBy w' (some g)) (hne : g' ≠ g) : Rw w' g' T cs := (hg.block g' h.lt (by simp; omega)).trans h
theorem only_row {w w' : World} {g g' T : Nat} {cs : Array Value} (hg : w.grownBy w' (some g)) (h : Rw w g' T cs) (hne : g' ≠ g) : Rw w' g' T cs := h.only hg hne
theorem only_own {w w' : World} {g g' T N : Nat} {v : Nat → Int} (hg : w.grownBy w' (some g)) (h : Own w g' T N v) (hne : g' ≠ g) : Own w' g' T N v := h.only hg hne
theorem Rw.below {w w' : World} {g T : Nat} {cs : Array Value} (h : Rw w g T cs) (hb : Below w.heap.size w w') : Rw w' g T cs := (hb.block g h.lt).trans h
theorem Rw.far {w : World} {g T : Nat} {cs : Array Value} (h : Rw w g T cs) {p : Addr} (hne : g ≠ p.block) (u : Value) : Rw (w.setCell p u) g T cs := (Below.heap_setCell w p u g hne).trans h
theorem Rw.set {w : World} {g T : Nat} {cs : Array Value} (h : Rw w g T cs) (i : Nat) (u : Value) : Rw (w.setCell ⟨g, i, none⟩ u) g T (cs.setIfInBounds i u) := by
  unfold Rw at h ⊢
  simp [World.setCell, Array.getElem?_modify, h]
theorem Rw.drew {w : World} {g T : Nat} {cs : Array Value} (h : Rw w g T cs) : Rw w.drew g T cs := h
theorem Rw.set3 {w : World} {g T : Nat} {x y z : Value} (h : Rw w g T #[x, y, z]) (a b c : Value) : Rw (((w.setCell ⟨g, 0, none⟩ a).setCell ⟨g, 1, none⟩ b).setCell ⟨g, 2, none⟩ c) g T #[a, b, c] := by
  have h1 := ((h.set 0 a).set 1 b).set 2 c
  simpa using h1
theorem Rw.far3 {w : World} {g T : Nat} {cs : Array Value} (h : Rw w g T cs) {q : Nat} (hne : g ≠ q) (a b c : Value) (i j k : Nat) : Rw (((w.setCell ⟨q, i, none⟩ a).setCell ⟨q, j, none⟩ b).setCell ⟨q, k, none⟩ c) g T cs := ((h.far (p := ⟨q, i, none⟩) hne a).far (p := ⟨q, j, none⟩) hne b).far (p := ⟨q, k, none⟩) hne c
theorem Rw.new (w : World) (T : Nat) (cs : Array Value) : Rw (w.alloc (.cells cs T)) w.heap.size T cs := heap_alloc_new w _
theorem laws_big (A : Option Addr) (n k : Nat) (w : World) (hm : n ≤ maxLen) : Calls Try.prog 24 #[.slice A n k] w fun e w' => e = .returned (.bool (decide (1048576 < n))) ∧ w = w' := by
  unfold maxLen at hm
  by_cases h : 1048576 < n
  all_goals
    go_enter Try.func24, Try.ntmps24
    go_wp2
    go_ret
    exact ⟨ret_bool (by rw [Bool.eq_iff_iff]; simp <;> omega), rfl⟩
/-- The byte that at picks. -/
def atV (n : Nat) (v : Nat → Int) (i : Nat) : Int := if n = 0 then 0 else v ((i * 5 + 1) % n)
theorem atV_bd {w : World} {A : Option Addr} {n : Nat} {v : Nat → Int} (h : Fb w A n v) (i : Nat) : 0 ≤ atV n v i ∧ atV n v i ≤ 255 := by
  unfold atV; split
  · omega
  · obtain ⟨b, off, _, hc⟩ := h (by omega)
    exact (hc _ (Nat.mod_lt _ (by omega))).1
theorem laws_at (A : Option Addr) (n k : Nat) (v : Nat → Int) (i : Nat) (hi : i ≤ 100) (w : World) (hm : n ≤ 1048576) (hF : Fb w A n v) : Calls Try.prog 26 #[.slice A n k, .int .i64 i] w fun e w' => e = .returned (.int .i64 (atV n v i)) ∧ Below w.heap.size w w' := by
  by_cases h : n = 0
  · subst h
    clear hF
    go_enter Try.func26, Try.ntmps26
    go_wp2
    go_ret
    exact ⟨rfl, by (repeat (first | exact Below.refl _ _ | assumption | (refine Below.drew ?_) | (refine below_alloc ?_ _) | (refine Below.setCell ?_ (by first | (simp; done) | (simp; omega) | omega | (have hq := hB.size; (try simp at hq ⊢); omega)) _) | (refine Below.alloc ?_ (by first | (simp; done) | (simp; omega) | omega | (have hq := hB.size; (try simp at hq ⊢); omega)) _) | (refine below_step ?_ (by assumption))))⟩
  · have h1 : 1 ≤ n := by omega
    obtain ⟨b, off, rfl, hc⟩ := hF (by omega)
    have hlt : (i * 5 + 1) % n < n := Nat.mod_lt _ (by omega)
    obtain ⟨⟨hx0, hx1⟩, d0⟩ := hc _ hlt
    clear hF hc
    have e0 : atV n v i = v ((i * 5 + 1) % n) := if_neg h
    rw [e0]
    clear e0
    have e1 : ((i : Int) * 5 + 1) % (n : Int) = (((i * 5 + 1) % n : Nat) : Int) := by push_cast; rfl
    revert hlt d0 hx0 hx1 e1
    generalize (i * 5 + 1) % n = j
    intro hlt hx0 hx1 d0 e1
    go_enter Try.func26, Try.ntmps26
    go_wp2_with fail
    go_ret
    exact ⟨rfl, by (repeat (first | exact Below.refl _ _ | assumption | (refine Below.drew ?_) | (refine below_alloc ?_ _) | (refine Below.setCell ?_ (by first | (simp; done) | (simp; omega) | omega | (have hq := hB.size; (try simp at hq ⊢); omega)) _) | (refine Below.alloc ?_ (by first | (simp; done) | (simp; omega) | omega | (have hq := hB.size; (try simp at hq ⊢); omega)) _) | (refine below_step ?_ (by assumption))))⟩
end Go.Proofs.Ytfgkglbhbdfpfaa
