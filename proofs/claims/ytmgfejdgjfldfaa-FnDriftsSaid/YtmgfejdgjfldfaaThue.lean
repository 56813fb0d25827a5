/- The contracts of ThueSigns: for every number and every world, the program's function and the reference's return a slice that holds the same list (thV), and leave old memory alone. No conditions. -/
import Derived.Test.YtmgfejdgjfldfaaIn
import Derived.Test.YtmgfejdgjfldfaaBits
namespace Go.Proofs.Ytmgfejdgjfldfaa
open Go.RowKit
set_option linter.unusedSimpArgs false
set_option linter.unusedVariables false
set_option maxHeartbeats 1000000

def negN (v : Nat → Int) : Nat → List Int
  | 0 => []
  | k + 1 => negN v k ++ [-(v k)]
theorem negN_len (v : Nat → Int) (n : Nat) : (negN v n).length = n := by
  induction n with
  | zero => rfl
  | succ n ih => simp [negN, ih]
theorem negN_list (l : List Int) : negN (fun j => l.getD j 0) l.length = l.map (fun x => -x) := by
  have h : ∀ k, k ≤ l.length → negN (fun j => l.getD j 0) k = (l.take k).map (fun x => -x) := by
    intro k
    induction k with
    | zero => intro _; rfl
    | succ k ih =>
      intro hk
      have hk' : k < l.length := by omega
      rw [negN, ih (by omega), List.take_add_one, List.map_append, List.getElem?_eq_getElem hk']
      congr 1
      simp [List.getD, List.getElem?_eq_getElem hk']
  have := h l.length (Nat.le_refl _)
  rwa [List.take_length] at this
/-- The signs by doubling. -/
def thI : Nat → List Int
  | 0 => [1]
  | k + 1 => thI k ++ (thI k).map (fun x => -x)
theorem thI_len (k : Nat) : (thI k).length = 2 ^ k := by
  induction k with
  | zero => rfl
  | succ k ih => simp [thI, ih, Nat.pow_succ]; omega
theorem thI_pm (k : Nat) : ∀ x ∈ thI k, x = 1 ∨ x = -1 := by
  induction k with
  | zero => intro x hx; simp [thI] at hx; exact Or.inl hx
  | succ k ih =>
    intro x hx
    simp only [thI, List.mem_append, List.mem_map] at hx
    rcases hx with hx | ⟨y, hy, rfl⟩
    · exact ih x hx
    · rcases ih y hy with h | h <;> simp [h]
/-- The sign by the first b bits of i. -/
def thS (i : Nat) : Nat → Int
  | 0 => 1
  | b + 1 => if bt i b = true then -(thS i b) else thS i b
theorem thS_pm (i b : Nat) : thS i b = 1 ∨ thS i b = -1 := by
  induction b with
  | zero => exact Or.inl rfl
  | succ b ih => simp only [thS]; split <;> omega
def spL (k : Nat) : Nat → List Int
  | 0 => []
  | i + 1 => spL k i ++ [thS i k]
theorem spL_len (k i : Nat) : (spL k i).length = i := by
  induction i with
  | zero => rfl
  | succ i ih => simp [spL, ih]
theorem spL_thI : ∀ k, k < 6 → spL k (2 ^ k) = thI k := by decide +kernel
def thV (k : Int) : List Int := if inB k 0 5 = true then thI k.toNat else []
theorem thV_yes {k : Int} (h : inB k 0 5 = true) : thV k = thI k.toNat := if_pos h
theorem thV_no {k : Int} (h : ¬ inB k 0 5 = true) : thV k = [] := if_neg h
theorem thV_len (k : Int) : (thV k).length ≤ 1048576 := by
  unfold thV; split
  · rename_i h
    have := inB_iff.1 h
    obtain ⟨K, rfl⟩ : ∃ K : Nat, k = K := ⟨k.toNat, by omega⟩
    rw [Int.toNat_natCast, thI_len]
    have := (wrap_pow K (by omega)).2
    omega
  · simp

theorem impl_negated (A : Option Addr) (n c : Nat) (v : Nat → Int) (w : World) (hm : n ≤ 1048576) (hv : ∀ k, k < n → v k = 1 ∨ v k = -1) (f0 : Fl w A n 1 v) : Calls Try.prog 28 #[.slice A n c] w (IntRes w (negN v n)) := by
  have HV := Lib.hid hv; clear hv
  go_enter Try.func28, Try.ntmps28
  go_wp2_with fail
  go_loopw [3, 8] (fun s x wr => ∃ k : Nat, k ≤ n ∧ x = .int .i64 k ∧ OwnS wr w.heap.size s (negN v k) ∧ Below w.heap.size w wr) (fun _ x _ => n - (intOf x).toNat)
  case atStart => exact ⟨0, Nat.zero_le _, rfl, OwnS.nil _ _, Below.refl _ _⟩
  case round =>
    obtain ⟨k, hk, rfl, p0, hB⟩ := hrel
    by_cases hkn : k < n
    · have q := HV.out k hkn
      have ql := negN_len v k
      obtain ⟨b, off, rfl, hc⟩ := (f0.below hB) (by omega)
      have c0 : wr.cell? ⟨b, off + k, none⟩ = _ := hc k (by omega)
      clear hc
      go_wp2_with (at_builtin; refine push_one rfl (.tmp 12) (.tmp 15) rfl w.heap.size _ _ (-(v k)) rfl rfl p0 (by omega) hB.size ?_; intro s' w1 hown' hgrow; have hB1 := below_grow hB p0 hgrow)
      go_roundw
      case rel => exact ⟨k + 1, by omega, by go_num, hown', hB1⟩
      case measure => simp [intOf]; omega
    · obtain rfl : n = k := by omega
      go_wp2
      go_ret
      exact p0.res hB

theorem impl_Thue (k : Int) (w : World) : Calls Try.prog 10 #[.int .i64 k] w (IntRes w (thV k)) := by
  by_cases h : inB k 0 5 = true
  · have h1 := inB_iff.1 h
    rw [thV_yes h]
    obtain ⟨K, rfl⟩ : ∃ K : Nat, k = K := ⟨k.toNat, by omega⟩
    rw [Int.toNat_natCast]
    have hS : ∀ w, _ := fun w => in_any (K : Int) 0 5 w
    simp only [h] at hS
    have HS := Lib.hid hS; clear hS h
    have hB : Below w.heap.size w (w.alloc (.cells #[.int .i64 1] 3)) := below_alloc (Below.refl _ _) _
    have p0 := OwnS.one (w := w) (B := w.heap.size) (x := 1) (Nat.le_refl _)
    go_enter Try.func10, Try.ntmps10
    ((go_wp2_with fail); (with_reducible refine (HS.out _).mono ?_); rintro _ _ ⟨rfl, rfl⟩)
    go_wp2_with fail
    go_loopw [3, 9] (fun s x wr => ∃ j : Nat, j ≤ K ∧ x = .int .i64 j ∧ OwnS wr w.heap.size s (thI j) ∧ Below w.heap.size w wr) (fun _ x _ => K - (intOf x).toNat)
    case atStart => exact ⟨0, Nat.zero_le _, rfl, p0, hB⟩
    case round =>
      clear p0 hB
      obtain ⟨j, hj, rfl, p0, hB⟩ := hrel
      by_cases hjK : j < K
      · obtain ⟨A, c, rfl, fl⟩ := p0.out
        have hlen := thI_len j
        have hpw := (wrap_pow j (by omega)).2
        have hneg := impl_negated A (thI j).length c _ wr (by omega) (fun i hi => by
          have := thI_pm j ((thI j)[i]) (List.getElem_mem hi)
          simpa [List.getD, List.getElem?_eq_getElem hi] using this) fl
        rw [negN_list] at hneg
        have e1 := Lib.hid (show thI (j + 1) = thI j ++ (thI j).map (fun x => -x) from rfl)
        revert hneg p0 hlen e1
        generalize thI j = l
        intro p0 hlen hneg e1
        clear fl
        have h0 : 0 < (l.map (fun x => -x)).length := by have := Nat.pow_pos (n := j) (show 0 < 2 by omega); simp; omega
        replace hlen : l.length ≤ 4096 := by omega
        clear hpw
        have hl2 : (l.map (fun x => -x)).length ≤ 4096 := by simp; omega
        revert hneg e1 h0 hl2
        generalize l.map (fun x => -x) = l2
        intro hneg e1 h0 hl2
        (go_wp2_with fail); (with_reducible refine hneg.mono ?_); rintro _ w1 ⟨A2, c2, rfl, hA, hb⟩
        obtain ⟨g, rfl, hg, ho⟩ := hA h0
        replace p0 := p0.below hb
        replace hB := below_step hB hb
        clear hb hA
        go_wp2_with (at_builtin; refine push_many rfl (.tmp 11) (.tmp 13) rfl w.heap.size _ l rfl g 0 c2 l2 rfl (fun i hi => by rw [Nat.zero_add]; exact ho.cell (by omega)) p0 (by omega) hB.size ?_; intro s' w2 hown' hgrow; have hB1 := below_grow hB p0 hgrow)
        go_roundw
        case rel => exact ⟨j + 1, by omega, by go_num, by rw [e1.out]; exact hown', hB1⟩
        case measure => simp [intOf]; omega
      · obtain rfl : K = j := by omega
        go_wp2
        go_ret
        exact p0.res hB
  · rw [thV_no h]
    have e0 : inB k 0 5 = false := by simpa using h
    have hS : ∀ w, _ := fun w => in_any k 0 5 w
    simp only [e0] at hS
    have HS := Lib.hid hS; clear hS h e0
    go_enter Try.func10, Try.ntmps10
    ((go_wp2_with fail); (with_reducible refine (HS.out _).mono ?_); rintro _ _ ⟨rfl, rfl⟩)
    go_wp2_with fail
    go_ret
    exact ⟨none, 0, rfl, fun hl => absurd hl (by simp), Below.refl _ _⟩
theorem spec_Thue (k : Int) (w : World) : Calls Try.prog 9 #[.int .i64 k] w (IntRes w (thV k)) := by
  have hB : Below w.heap.size w (w.alloc (.cells #[] 3)) := below_alloc (Below.refl _ _) _
  have p0 := OwnS.empty (w := w) (B := w.heap.size) (Nat.le_refl _)
  by_cases h : inB k 0 5 = true
  · have h1 := inB_iff.1 h
    rw [thV_yes h]
    obtain ⟨K, rfl⟩ : ∃ K : Nat, k = K := ⟨k.toNat, by omega⟩
    rw [Int.toNat_natCast]
    have hS : ∀ w, _ := fun w => l01In_any (K : Int) 0 5 w
    simp only [h] at hS
    have HS := Lib.hid hS; clear hS h
    have hw := wrap_pow K (by omega)
    have h4 := hw.2
    have hE := spL_thI K (by omega)
    have HSH := Lib.hid hw.1; clear hw
    revert HSH h4 hE
    generalize hM : 2 ^ K = M
    intro h4 hE HSH
    clear hM
    go_enter Try.func9, Try.ntmps9
    go_wp2_with fail
    go_loopw [3, 4] (fun s x wr => ∃ i : Nat, i ≤ M ∧ x = .int .i64 i ∧ OwnS wr w.heap.size s (spL K i) ∧ Below w.heap.size w wr) (fun _ x _ => M - (intOf x).toNat)
    case atStart => exact ⟨0, Nat.zero_le _, rfl, p0, hB⟩
    case round =>
      clear p0 hB
      obtain ⟨i, hi, rfl, p0, hB⟩ := hrel
      have hlen := spL_len K i
      by_cases hiM : i < M
      · have hlt : (i : Int) < wrap64 ((2 : Int) ^ K) := by rw [HSH.out]; omega
        have HE := Lib.hid hE; clear hE
        go_wp2_with (go_at_call 26; (with_reducible refine (HS.out _).mono ?_); rintro _ _ ⟨rfl, rfl⟩)
        obtain ⟨w2, hW2⟩ : ∃ w2 : World, w2 = wr := ⟨_, rfl⟩
        subst hW2
        go_loopw [5, 6] (fun a y wr => wr = w2 ∧ ∃ b : Nat, b ≤ K ∧ y = .int .i64 b ∧ a = .int .i64 (thS i b)) (fun _ y _ => K - (intOf y).toNat)
        case atStart => exact ⟨rfl, 0, Nat.zero_le _, rfl, rfl⟩
        case round =>
          obtain ⟨rfl, b, hb, rfl, rfl⟩ := hrel
          have qs := thS_pm i b
          by_cases hbK : b < K
          · by_cases tb : bt i b = true
            · obtain ⟨tb0, tb1⟩ := bt_yes (s := i) (k := b) (by omega) tb
              have e1 := Lib.hid (show thS i (b + 1) = -(thS i b) from by simp [thS, tb])
              clear tb
              go_wp2
              go_roundw
              case rel => exact ⟨trivial, b + 1, by omega, by go_num, by rw [e1.out]⟩
              case measure => simp [intOf]; omega
            · have tb' : bt i b = false := by simpa using tb
              obtain ⟨tb0, tb1⟩ := bt_no (s := i) (k := b) (by omega) tb'
              have e1 := Lib.hid (show thS i (b + 1) = thS i b from by simp [thS, tb])
              clear tb tb'
              go_wp2
              go_roundw
              case rel => exact ⟨trivial, b + 1, by omega, by go_num, by rw [e1.out]⟩
              case measure => simp [intOf]; omega
          · obtain rfl : K = b := by omega
            go_wp2_with (at_builtin; refine push_one rfl (.tmp 30) (.tmp 32) rfl w.heap.size _ _ (thS i K) rfl rfl p0 (by omega) hB.size ?_; intro s' w1 hown' hgrow; have hB1 := below_grow hB p0 hgrow)
            go_roundw
            case rel => exact ⟨i + 1, by omega, by go_num, hown', hB1⟩
            case measure => simp [intOf]; omega
      · obtain rfl : M = i := by omega
        have hge : wrap64 ((2 : Int) ^ K) ≤ (M : Int) := by rw [HSH.out]; omega
        rw [hE] at p0
        clear hE hlen
        go_wp2_with (go_at_call 26; (with_reducible refine (HS.out _).mono ?_); rintro _ _ ⟨rfl, rfl⟩)
        go_ret
        exact p0.res hB
  · rw [thV_no h]
    have e0 : inB k 0 5 = false := by simpa using h
    have hS : ∀ w, _ := fun w => l01In_any k 0 5 w
    simp only [e0] at hS
    have HS := Lib.hid hS; clear hS h e0
    go_enter Try.func9, Try.ntmps9
    go_wp2_with fail
    refine wp_loop_rounds 1 ?_
    rw [rounds_succ]
    go_wp2_with (go_at_call 26; (with_reducible refine (HS.out _).mono ?_); rintro _ _ ⟨rfl, rfl⟩)
    go_ret
    exact p0.res hB
end Go.Proofs.Ytmgfejdgjfldfaa
