/- The contracts of DesignOk, product, column. -/
import Derived.Test.YtmnmnkenboejpaaMat
import Derived.Test.YtmnmnkenboejpaaIn
import Derived.Laws.AppendOwn
namespace Go.Proofs.Ytmnmnkenboejpaa
open Go.RowKit
set_option linter.unusedSimpArgs false
set_option linter.unusedVariables false
set_option maxHeartbeats 4000000
def sgB (n : Nat) (v : Nat → Int) : Bool := allN (fun j => inB (v j) (-1) 1) n
theorem sgB_no {n k : Nat} {v : Nat → Int} (hk : k < n) (h : inB (v k) (-1) 1 = false) : sgB n v = false := allN_no hk h
theorem impl_areSides (A : Option Addr) (n c : Nat) (v : Nat → Int) (w : World) (hn : n ≤ 1048576) (f0 : Fl w A n 1 v) : Calls Try.prog 69 #[.slice A n c] w fun e w' => e = .returned (.bool (sgB n v)) ∧ w = w' := by
  go_enter Try.func69, Try.ntmps69
  go_wp2_with fail
  go_loopw [7] (fun x wr => ∃ k : Nat, k ≤ n ∧ x = .int .i64 k ∧ sgB k v = true ∧ wr = w) (fun x _ => n - (intOf x).toNat)
  case atStart => exact ⟨0, Nat.zero_le _, rfl, rfl, rfl⟩
  case round =>
    obtain ⟨k, hk, rfl, hs, rfl⟩ := hrel
    by_cases hkn : k < n
    · obtain ⟨b, off, rfl, hc⟩ := f0 (by omega)
      have c0 := hc k (by omega)
      clear hc f0
      rcases Bool.eq_false_or_eq_true (inB (v k) (-1) 1) with t1 | t1
      · go_wp2_with (go_at_call 51; (with_reducible refine (in_any _ _ _ _).mono ?_); rintro _ _ ⟨rfl, rfl⟩)
        go_roundw
        case rel => exact ⟨k + 1, by omega, by go_num, by simp only [sgB, allN, Bool.and_eq_true] at hs ⊢; exact ⟨hs, t1⟩, trivial⟩
        case measure => simp [intOf]; omega
      · go_wp2_with (go_at_call 51; (with_reducible refine (in_any _ _ _ _).mono ?_); rintro _ _ ⟨rfl, rfl⟩)
        go_ret
        exact ⟨ret_bool (by rw [sgB_no hkn t1]), rfl⟩
    · obtain rfl : k = n := by omega
      go_wp2
      go_ret
      exact ⟨ret_bool (by rw [hs]), rfl⟩
theorem spec_Signs (A : Option Addr) (n c : Nat) (v : Nat → Int) (w : World) (hn : n ≤ 1048576) (f0 : Fl w A n 1 v) : Calls Try.prog 76 #[.slice A n c] w fun e w' => e = .returned (.bool (sgB n v)) ∧ w = w' := by
  go_enter Try.func76, Try.ntmps76
  go_wp2_with fail
  go_loopw [3] (fun x wr => ∃ k : Nat, k ≤ n ∧ x = .int .i64 k ∧ sgB k v = true ∧ wr = w) (fun x _ => n - (intOf x).toNat)
  case atStart => exact ⟨0, Nat.zero_le _, rfl, rfl, rfl⟩
  case round =>
    obtain ⟨k, hk, rfl, hs, rfl⟩ := hrel
    by_cases hkn : k < n
    · obtain ⟨b, off, rfl, hc⟩ := f0 (by omega)
      have c0 := hc k (by omega)
      clear hc f0
      rcases Bool.eq_false_or_eq_true (inB (v k) (-1) 1) with t1 | t1
      · go_wp2_with (go_at_call 59; (with_reducible refine (l01In_any _ _ _ _).mono ?_); rintro _ _ ⟨rfl, rfl⟩)
        go_roundw
        case rel => exact ⟨k + 1, by omega, by go_num, by simp only [sgB, allN, Bool.and_eq_true] at hs ⊢; exact ⟨hs, t1⟩, trivial⟩
        case measure => simp [intOf]; omega
      · go_wp2_with (go_at_call 59; (with_reducible refine (l01In_any _ _ _ _).mono ?_); rintro _ _ ⟨rfl, rfl⟩)
        go_ret
        exact ⟨ret_bool (by rw [sgB_no hkn t1]), rfl⟩
    · obtain rfl : k = n := by omega
      go_wp2
      go_ret
      exact ⟨ret_bool (by rw [hs]), rfl⟩
/-- The sum of the products, as the machine reckons it. -/
def dotV (x y : Nat → Int) : Nat → Int
  | 0 => 0
  | k + 1 => wrap64 (dotV x y k + wrap64 (x k * y k))
theorem impl_product (A B : Option Addr) (n m c d : Nat) (x y : Nat → Int) (w : World) (hn : n ≤ 1048576) (hm : n ≤ m) (f0 : Fl w A n 1 x) (f1 : Fl w B m 1 y) : Calls Try.prog 39 #[.slice A n c, .slice B m d] w fun e w' => e = .returned (.int .i64 (dotV x y n)) ∧ Below w.heap.size w w' := by
  have HF := Lib.hid f0; clear f0
  have HF1 := Lib.hid f1; clear f1
  go_enter Try.func39, Try.ntmps39
  go_wp2_with fail
  go_loopw [5, 9] (fun s i wr => ∃ k : Nat, k ≤ n ∧ i = .int .i64 k ∧ s = .int .i64 (dotV x y k) ∧ Below w.heap.size w wr) (fun _ i _ => n - (intOf i).toNat)
  case atStart => exact ⟨0, Nat.zero_le _, rfl, rfl, Below.refl _ _⟩
  case round =>
    obtain ⟨k, hk, rfl, rfl, hB⟩ := hrel
    by_cases hkn : k < n
    · obtain ⟨b, off, rfl, hc⟩ := (HF.out.below hB) (by omega)
      obtain ⟨b', off', rfl, hc'⟩ := (HF1.out.below hB) (by omega)
      have c0 := hc k (by omega)
      have c1 := hc' k (by omega)
      clear hc hc'
      have hi0 : (0 : Int) ≤ (k : Int) := Int.natCast_nonneg _
      have hi1 : (k : Int) < (n : Int) := by omega
      have hi2 : (k : Int) < (m : Int) := by omega
      obtain ⟨s, hs⟩ : ∃ s, s = dotV x y k := ⟨_, rfl⟩
      rw [← hs]
      have hs1 : dotV x y (k + 1) = wrap64 (s + wrap64 (x k * y k)) := by rw [hs]; rfl
      have HS := Lib.hid hs1; clear hs1 hs
      go_wp2_with fail
      (have Ec0 := ext_cell c0; have Ec1 := ext_cell c1; refine calm_lit (by kernel_rfl) (by kernel_rfl) ?_; (repeat (first | go_big_quiet_step (fail) | simp only [TF])); refine wpQuiet_nil ?_; intro w1 hb; clear Ec0 Ec1; replace c0 := below_cell hb c0; replace c1 := below_cell hb c1; replace hB := below_step hB hb; clear hb)
      go_wp2_with fail
      go_roundw
      case rel => exact ⟨k + 1, by omega, by go_num, by rw [HS.out], hB⟩
      case measure => simp [intOf]; omega
    · obtain rfl : k = n := by omega
      go_wp2_with fail
      go_ret
      exact ⟨rfl, hB⟩
theorem spec_product (A B : Option Addr) (n m c d : Nat) (x y : Nat → Int) (w : World) (hn : n ≤ 1048576) (hm : n ≤ m) (f0 : Fl w A n 1 x) (f1 : Fl w B m 1 y) : Calls Try.prog 38 #[.slice A n c, .slice B m d] w fun e w' => e = .returned (.int .i64 (dotV x y n)) ∧ Below w.heap.size w w' := by
  have HF := Lib.hid f0; clear f0
  have HF1 := Lib.hid f1; clear f1
  go_enter Try.func38, Try.ntmps38
  go_wp2_with fail
  go_loopw [5, 6] (fun s i wr => ∃ k : Nat, k ≤ n ∧ i = .int .i64 k ∧ s = .int .i64 (dotV x y k) ∧ Below w.heap.size w wr) (fun _ i _ => n - (intOf i).toNat)
  case atStart => exact ⟨0, Nat.zero_le _, rfl, rfl, Below.refl _ _⟩
  case round =>
    obtain ⟨k, hk, rfl, rfl, hB⟩ := hrel
    by_cases hkn : k < n
    · obtain ⟨b, off, rfl, hc⟩ := (HF.out.below hB) (by omega)
      obtain ⟨b', off', rfl, hc'⟩ := (HF1.out.below hB) (by omega)
      have c0 := hc k (by omega)
      have c1 := hc' k (by omega)
      clear hc hc'
      have hi0 : (0 : Int) ≤ (k : Int) := Int.natCast_nonneg _
      have hi1 : (k : Int) < (n : Int) := by omega
      have hi2 : (k : Int) < (m : Int) := by omega
      obtain ⟨s, hs⟩ : ∃ s, s = dotV x y k := ⟨_, rfl⟩
      rw [← hs]
      have hs1 : dotV x y (k + 1) = wrap64 (s + wrap64 (x k * y k)) := by rw [hs]; rfl
      have HS := Lib.hid hs1; clear hs1 hs
      go_wp2_with fail
      (have Ec0 := ext_cell c0; have Ec1 := ext_cell c1; refine calm_lit (by kernel_rfl) (by kernel_rfl) ?_; (repeat (first | go_big_quiet_step (fail) | simp only [TF])); refine wpQuiet_nil ?_; intro w1 hb; clear Ec0 Ec1; replace c0 := below_cell hb c0; replace c1 := below_cell hb c1; replace hB := below_step hB hb; clear hb)
      go_wp2_with fail
      go_roundw
      case rel => exact ⟨k + 1, by omega, by go_num, by rw [HS.out], hB⟩
      case measure => simp [intOf]; omega
    · obtain rfl : k = n := by omega
      go_wp2_with fail
      go_ret
      exact ⟨rfl, hB⟩
/-- Is a design valid? -/
def rowB (L : List (List Int)) (i : Nat) : Bool := decide ((L.getD i []).length = (L.getD 0 []).length) && sgB (L.getD i []).length (gl (L.getD i []))
def desB (L : List (List Int)) : Bool := inB L.length 1 8 && inB (L.getD 0 []).length 1 4 && allN (rowB L) L.length
theorem desB_no {L : List (List Int)} {k : Nat} (hk : k < L.length) (h : rowB L k = false) : desB L = false := by simp [desB, allN_no hk h]
theorem getD_of {L : List (List Int)} {k : Nat} {r : List Int} (h : L[k]? = some r) : L.getD k [] = r := by simp [List.getD, h]
theorem impl_DesignOk (A : Option Addr) (c : Nat) (L : List (List Int)) (w : World) (hn : L.length ≤ 1048576) (hr : ∀ r ∈ L, r.length ≤ 1048576) (f0 : Fm w A L) : Calls Try.prog 52 #[.slice A L.length c] w fun e w' => e = .returned (.bool (desB L)) ∧ w = w' := by
  obtain ⟨n, hn2⟩ : ∃ n, n = L.length := ⟨_, rfl⟩
  have HN := Lib.hid hn2
  simp only [← hn2] at hn ⊢
  cases h1 : inB (n : Int) 1 8
  · have hd : desB L = false := by simp only [desB, ← hn2, h1, Bool.false_and]
    rw [hd]
    clear hd hn2
    go_enter Try.func52, Try.ntmps52
    go_wp2_with (go_at_call 51; (with_reducible refine (in_any _ _ _ _).mono ?_); rintro _ _ ⟨rfl, rfl⟩)
    go_ret
    exact ⟨rfl, rfl⟩
  · have hn1 := inB_iff.1 h1
    obtain ⟨b, off, rfl, hc⟩ := f0 (by omega)
    obtain ⟨r0, hr0⟩ : ∃ r, L[0]? = some r := ⟨_, List.getElem?_eq_getElem (by omega)⟩
    have hr0l := hr r0 (List.mem_of_getElem? hr0)
    have g0 := getD_of hr0
    obtain ⟨Ai, ci, c0, _⟩ := hc 0 r0 hr0
    rw [Nat.add_zero] at c0
    cases h2 : inB (r0.length : Int) 1 4
    · have hd : desB L = false := by simp only [desB, g0, h2, Bool.and_false, Bool.false_and]
      rw [hd]
      clear hd hn2
      go_enter Try.func52, Try.ntmps52
      go_wp2_with (go_at_call 51; (with_reducible refine (in_any _ _ _ _).mono ?_); rintro _ _ ⟨rfl, rfl⟩)
      go_ret
      exact ⟨rfl, rfl⟩
    · have hd : desB L = allN (rowB L) n := by simp only [desB, ← hn2, h1, g0, h2, Bool.true_and]
      have HD := Lib.hid hd
      have HG0 := Lib.hid g0; clear g0
      clear hd hn2
      go_enter Try.func52, Try.ntmps52
      go_wp2_with (go_at_call 51; (with_reducible refine (in_any _ _ _ _).mono ?_); rintro _ _ ⟨rfl, rfl⟩)
      go_loopw [19] (fun x wr => ∃ k : Nat, k ≤ n ∧ x = .int .i64 k ∧ allN (rowB L) k = true ∧ wr = w) (fun x _ => n - (intOf x).toNat)
      case atStart => exact ⟨0, Nat.zero_le _, rfl, rfl, rfl⟩
      case round =>
        obtain ⟨k, hk, rfl, hs, rfl⟩ := hrel
        have hnl := HN.out
        have HSS := Lib.hid hs; clear hs
        by_cases hkn : k < n
        · obtain ⟨r, hrk⟩ : ∃ r, L[k]? = some r := ⟨_, List.getElem?_eq_getElem (by omega)⟩
          have hrl := hr r (List.mem_of_getElem? hrk)
          have gk := getD_of hrk
          obtain ⟨Ak, ck, c1, f1⟩ := hc k r hrk
          have hsg := fun w f => impl_areSides Ak r.length ck (gl r) w hrl f
          have hrow : rowB L k = (decide (r.length = r0.length) && sgB r.length (gl r)) := by simp only [rowB, gk, HG0.out]
          have HROW := Lib.hid hrow; clear hrow
          clear gk hrk hnl
          by_cases h3 : r.length = r0.length
          · have h3b : ((r.length : Int) != (r0.length : Int)) = false := by simp [h3]
            cases h4 : sgB r.length (gl r)
            · rw [h4] at hsg
              have hno := desB_no (L := L) (k := k) (by have := HN.out; omega) (by rw [HROW.out, h4, Bool.and_false])
              have HNO := Lib.hid hno; clear hno h3
              go_wp2_with (go_at_call 69; (with_reducible refine (hsg _ f1).mono ?_); rintro _ _ ⟨rfl, rfl⟩)
              go_ret
              exact ⟨ret_bool (by rw [HNO.out]), rfl⟩
            · rw [h4] at hsg
              have hyes : rowB L k = true := by rw [HROW.out, h4]; simp [h3]
              have HY := Lib.hid hyes; clear hyes h3
              go_wp2_with (go_at_call 69; (with_reducible refine (hsg _ f1).mono ?_); rintro _ _ ⟨rfl, rfl⟩)
              go_roundw
              case rel => exact ⟨k + 1, by omega, by go_num, by simp only [allN, Bool.and_eq_true]; exact ⟨HSS.out, HY.out⟩, trivial⟩
              case measure => simp [intOf]; omega
          · have h3b : ((r.length : Int) != (r0.length : Int)) = true := by simp; omega
            have hno := desB_no (L := L) (k := k) (by have := HN.out; omega) (by rw [HROW.out]; simp [h3])
            have HNO := Lib.hid hno; clear hno h3
            go_wp2_with fail
            go_ret
            exact ⟨ret_bool (by rw [HNO.out]), rfl⟩
        · obtain rfl : k = n := by omega
          go_wp2_with fail
          go_ret
          exact ⟨ret_bool (by rw [HD.out, HSS.out]), rfl⟩
end Go.Proofs.Ytmnmnkenboejpaa
