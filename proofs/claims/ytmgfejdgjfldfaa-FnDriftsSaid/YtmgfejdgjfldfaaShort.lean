/- The contracts of ShortestEliminating: for every number and every world, the program's function and the reference's return the same number (shortV), and leave old memory alone. No conditions. -/
import Derived.Test.YtmgfejdgjfldfaaDrift
import Derived.Test.YtmgfejdgjfldfaaBits
namespace Go.Proofs.Ytmgfejdgjfldfaa
open Go.RowKit
set_option linter.unusedSimpArgs false
set_option linter.unusedVariables false
set_option maxHeartbeats 1000000

/-- The first k of z. -/
def lst (z : Nat → Int) : Nat → List Int
  | 0 => []
  | k + 1 => lst z k ++ [z k]
theorem lst_len (z : Nat → Int) (k : Nat) : (lst z k).length = k := by
  induction k with
  | zero => rfl
  | succ k ih => simp [lst, ih]
theorem lst_get (z : Nat → Int) (k j : Nat) (hj : j < k) : (lst z k).getD j 0 = z j := by
  induction k with
  | zero => omega
  | succ k ih =>
    have hl := lst_len z k
    rw [lst]
    rcases Nat.lt_or_ge j k with h | h
    · rw [← ih h]
      simp [List.getD, List.getElem?_append_left (by omega : j < (lst z k).length)]
    · obtain rfl : j = k := by omega
      simp [List.getD, hl]
theorem OwnS.lst {w : World} {B : Nat} {s : Value} {z : Nat → Int} {k : Nat} (h : OwnS w B s (lst z k)) : ∃ A c, s = .slice A k c ∧ Fl w A k 1 z := by
  obtain ⟨A, c, e, f⟩ := h.out
  rw [lst_len] at e f
  exact ⟨A, c, e, f.congr fun j hj => lst_get z k j (by omega)⟩
theorem OwnS.weak {w : World} {B B' : Nat} {s : Value} {l : List Int} (h : OwnS w B s l) (hB : B' ≤ B) : OwnS w B' s l := by
  refine ⟨h.1, ?_⟩
  rcases h.2 with h0 | ⟨g, cap, cur, rfl, hb, r⟩
  · exact Or.inl h0
  · exact Or.inr ⟨g, cap, cur, rfl, Nat.le_trans hB hb, r⟩
def vecI (s i : Nat) : Int := if bt s i = true then -1 else 1
def vecS (s i : Nat) : Int := if bt s i = true then 1 else -1
def ansN (n : Nat) : Nat := if n = 0 then 1 else if n = 1 then 2 else if n = 2 then 4 else 8
theorem ans_bd (n : Nat) : 1 ≤ ansN n ∧ ansN n ≤ 8 := by unfold ansN; split <;> (try split) <;> (try split) <;> omega
def hitI (n m s : Nat) : Bool := decide ((n : Int) ≤ elimV m (vecI s))
def hitS (n m s : Nat) : Bool := decide ((n : Int) ≤ elimV m (vecS s))
set_option maxRecDepth 100000 in
theorem noI : ∀ n, n < 4 → ∀ m, m < ansN n → 1 ≤ m → ∀ s, s < 2 ^ m → hitI n m s = false := by decide +kernel
set_option maxRecDepth 100000 in
theorem noS : ∀ n, n < 4 → ∀ m, m < ansN n → 1 ≤ m → ∀ s, s < 2 ^ m → hitS n m s = false := by decide +kernel
theorem yesI : ∀ n, n < 4 → allN (fun s => !hitI n (ansN n) s) (2 ^ ansN n) = false := by decide +kernel
theorem yesS : ∀ n, n < 4 → allN (fun s => !hitS n (ansN n) s) (2 ^ ansN n) = false := by decide +kernel
def shortV (n : Int) : Int := if inB n 0 3 = true then (ansN n.toNat : Nat) else -1
theorem shortV_yes {n : Nat} (h : inB (n : Int) 0 3 = true) : shortV n = (ansN n : Nat) := if_pos h
theorem shortV_no {n : Int} (h : ¬ inB n 0 3 = true) : shortV n = -1 := if_neg h
theorem impl_Short (n : Int) (w : World) : Calls Try.prog 22 #[.int .i64 n] w fun e w' => e = .returned (.int .i64 (shortV n)) ∧ Below w.heap.size w w' := by
  have hB := Below.refl w.heap.size w
  by_cases h : inB n 0 3 = true
  · have h1 := inB_iff.1 h
    obtain ⟨K, rfl⟩ : ∃ K : Nat, n = K := ⟨n.toNat, by omega⟩
    rw [shortV_yes h]
    have hS : ∀ w, _ := fun w => in_any (K : Int) 0 3 w
    simp only [h] at hS
    have HS := Lib.hid hS; clear hS h
    have N1 := Lib.hid (noI K (by omega))
    have Y1 := Lib.hid (yesI K (by omega))
    have hab := ans_bd K
    revert N1 Y1 hab
    generalize ansN K = M
    intro N1 Y1 hab
    go_enter Try.func22, Try.ntmps22
    ((go_wp2_with fail); (with_reducible refine (HS.out _).mono ?_); rintro _ _ ⟨rfl, rfl⟩)
    go_wp2_with fail
    go_loopw [3] (fun x wr => ∃ m : Nat, 1 ≤ m ∧ m ≤ M ∧ x = .int .i64 m ∧ Below w.heap.size w wr) (fun x _ => M - (intOf x).toNat)
    case atStart => exact ⟨1, by omega, by omega, rfl, hB⟩
    case round =>
      clear hB
      obtain ⟨m, hm1, hmM, rfl, hB⟩ := hrel
      have hw := wrap_pow m (by omega)
      have h4 := hw.2
      have HSH := Lib.hid hw.1; clear hw
      have N2 := Lib.hid (fun h : m < M => N1.out m h hm1)
      have Y2 : Hid (m = M → allN (fun s => !hitI K m s) (2 ^ m) = false) := Lib.hid (fun e => by rw [e]; exact Y1.out)
      revert HSH h4 N2 Y2
      generalize 2 ^ m = P
      intro h4 HSH N2 Y2
      go_wp2_with fail
      go_loopw [14] (fun x wr => ∃ s : Nat, s ≤ P ∧ x = .int .i64 s ∧ allN (fun s => !hitI K m s) s = true ∧ Below w.heap.size w wr) (fun x _ => P - (intOf x).toNat)
      case atStart => exact ⟨0, Nat.zero_le _, rfl, rfl, hB⟩
      case round =>
        clear hB
        obtain ⟨s, hsP, rfl, ha, hB⟩ := hrel
        have HA := Lib.hid ha; clear ha
        by_cases hs : s < P
        · have hlt : (s : Int) < wrap64 ((2 : Int) ^ m) := by rw [HSH.out]; omega
          go_wp2_with fail
          go_loopw [5, 18] (fun t y wr => ∃ i : Nat, i ≤ m ∧ y = .int .i64 i ∧ OwnS wr w.heap.size t (lst (vecI s) i) ∧ Below w.heap.size w wr) (fun _ y _ => m - (intOf y).toNat)
          case atStart => exact ⟨0, Nat.zero_le _, rfl, OwnS.nil _ _, hB⟩
          case round =>
            clear hB
            obtain ⟨i, hi, rfl, p0, hB⟩ := hrel
            by_cases him : i < m
            · have hl := lst_len (vecI s) i
              have hl2 : (lst (vecI s) i).length ≤ 1048576 := by omega
              clear hl
              have hv := bt_val (s := s) (k := i) (by omega)
              by_cases tb : bt s i = true
              · rw [if_pos tb] at hv
                have e1 := Lib.hid (show lst (vecI s) (i + 1) = lst (vecI s) i ++ [-1] from by simp [lst, vecI, tb])
                clear tb
                go_wp2_with (at_builtin; refine push_one rfl (.tmp 21) (.tmp 28) rfl w.heap.size _ _ (-1) rfl rfl p0 hl2 hB.size ?_; intro s' w1 hown' hgrow; have hB1 := below_grow hB p0 hgrow)
                go_roundw
                case rel => exact ⟨i + 1, by omega, by go_num, by rw [e1.out]; exact hown', hB1⟩
                case measure => simp [intOf]; omega
              · rw [if_neg tb] at hv
                have e1 := Lib.hid (show lst (vecI s) (i + 1) = lst (vecI s) i ++ [1] from by simp [lst, vecI, tb])
                clear tb
                go_wp2_with (at_builtin; refine push_one rfl (.tmp 21) (.tmp 28) rfl w.heap.size _ _ (1) rfl rfl p0 hl2 hB.size ?_; intro s' w1 hown' hgrow; have hB1 := below_grow hB p0 hgrow)
                go_roundw
                case rel => exact ⟨i + 1, by omega, by go_num, by rw [e1.out]; exact hown', hB1⟩
                case measure => simp [intOf]; omega
            · obtain rfl : m = i := by omega
              obtain ⟨A, c, rfl, fl⟩ := p0.lst
              have hel := fun w f => impl_Eliminates A m c (vecI s) w (by omega) f
              by_cases th : hitI K m s = true
              · have hge : (K : Int) ≤ elimV m (vecI s) := by simpa [hitI] using th
                have hM : m = M := by
                  rcases Nat.lt_or_ge m M with h9 | h9
                  · have := N2.out h9 s hs; rw [th] at this; cases this
                  · omega
                have HM := Lib.hid hM; clear hM th
                revert hel hge
                generalize elimV m (vecI s) = E
                intro hel hge
                go_wp2_with (go_at_call 18; (with_reducible refine (hel _ fl).mono ?_); rintro _ _ ⟨rfl, rfl⟩)
                go_ret
                exact ⟨by rw [HM.out]; rfl, hB⟩
              · have hge : ¬ (K : Int) ≤ elimV m (vecI s) := by simpa [hitI] using th
                have e2 := Lib.hid (show allN (fun s => !hitI K m s) (s + 1) = true from by
                  have : hitI K m s = false := by simpa using th
                  simp [allN, HA.out, this])
                clear th
                revert hel hge
                generalize elimV m (vecI s) = E
                intro hel hge
                go_wp2_with (go_at_call 18; (with_reducible refine (hel _ fl).mono ?_); rintro _ _ ⟨rfl, rfl⟩)
                go_roundw
                case rel => exact ⟨s + 1, by omega, by go_num, e2.out, hB⟩
                case measure => simp [intOf]; omega
        · obtain rfl : P = s := by omega
          have hge : wrap64 ((2 : Int) ^ m) ≤ (P : Int) := by rw [HSH.out]; omega
          have hmM2 : m < M := by
            rcases Nat.lt_or_ge m M with h9 | h9
            · exact h9
            · have := Y2.out (by omega); rw [HA.out] at this; cases this
          go_wp2
          go_roundw
          case rel => exact ⟨m + 1, by omega, by omega, by go_num, hB⟩
          case measure => simp [intOf]; omega
  · rw [shortV_no h]
    have e0 : inB n 0 3 = false := by simpa using h
    have hS : ∀ w, _ := fun w => in_any n 0 3 w
    simp only [e0] at hS
    have HS := Lib.hid hS; clear hS h e0
    go_enter Try.func22, Try.ntmps22
    ((go_wp2_with fail); (with_reducible refine (HS.out _).mono ?_); rintro _ _ ⟨rfl, rfl⟩)
    go_wp2_with fail
    go_ret
    exact ⟨rfl, hB⟩
theorem spec_Short (n : Int) (w : World) : Calls Try.prog 21 #[.int .i64 n] w fun e w' => e = .returned (.int .i64 (shortV n)) ∧ Below w.heap.size w w' := by
  have hB := Below.refl w.heap.size w
  by_cases h : inB n 0 3 = true
  · have h1 := inB_iff.1 h
    obtain ⟨K, rfl⟩ : ∃ K : Nat, n = K := ⟨n.toNat, by omega⟩
    rw [shortV_yes h]
    have hS : ∀ w, _ := fun w => l01In_any (K : Int) 0 3 w
    simp only [h] at hS
    have HS := Lib.hid hS; clear hS h
    have N1 := Lib.hid (noS K (by omega))
    have Y1 := Lib.hid (yesS K (by omega))
    have hab := ans_bd K
    revert N1 Y1 hab
    generalize ansN K = M
    intro N1 Y1 hab
    go_enter Try.func21, Try.ntmps21
    ((go_wp2_with fail); (with_reducible refine (HS.out _).mono ?_); rintro _ _ ⟨rfl, rfl⟩)
    go_wp2_with fail
    go_loopw [3] (fun x wr => ∃ m : Nat, 1 ≤ m ∧ m ≤ M ∧ x = .int .i64 m ∧ Below w.heap.size w wr) (fun x _ => M - (intOf x).toNat)
    case atStart => exact ⟨1, by omega, by omega, rfl, hB⟩
    case round =>
      clear hB
      obtain ⟨m, hm1, hmM, rfl, hB⟩ := hrel
      have hw := wrap_pow m (by omega)
      have h4 := hw.2
      have HSH := Lib.hid hw.1; clear hw
      have N2 := Lib.hid (fun h : m < M => N1.out m h hm1)
      have Y2 : Hid (m = M → allN (fun s => !hitS K m s) (2 ^ m) = false) := Lib.hid (fun e => by rw [e]; exact Y1.out)
      revert HSH h4 N2 Y2
      generalize 2 ^ m = P
      intro h4 HSH N2 Y2
      go_wp2_with fail
      go_loopw [4] (fun x wr => ∃ s : Nat, s ≤ P ∧ x = .int .i64 s ∧ allN (fun s => !hitS K m s) s = true ∧ Below w.heap.size w wr) (fun x _ => P - (intOf x).toNat)
      case atStart => exact ⟨0, Nat.zero_le _, rfl, rfl, hB⟩
      case round =>
        clear hB
        obtain ⟨s, hsP, rfl, ha, hB⟩ := hrel
        have HA := Lib.hid ha; clear ha
        by_cases hs : s < P
        · have hlt : (s : Int) < wrap64 ((2 : Int) ^ m) := by rw [HSH.out]; omega
          go_wp2_with fail
          go_loopw [5, 6] (fun t y wr => ∃ i : Nat, i ≤ m ∧ y = .int .i64 i ∧ OwnS wr w.heap.size t (lst (vecS s) i) ∧ Below w.heap.size w wr) (fun _ y _ => m - (intOf y).toNat)
          case atStart => exact ⟨0, Nat.zero_le _, rfl, (OwnS.empty (w := wr) (Nat.le_refl _)).weak hB.size, below_alloc hB _⟩
          case round =>
            clear hB
            obtain ⟨i, hi, rfl, p0, hB⟩ := hrel
            by_cases him : i < m
            · have hl := lst_len (vecS s) i
              have hl2 : (lst (vecS s) i).length ≤ 1048576 := by omega
              clear hl
              have hv := bt_val (s := s) (k := i) (by omega)
              by_cases tb : bt s i = true
              · rw [if_pos tb] at hv
                have e1 := Lib.hid (show lst (vecS s) (i + 1) = lst (vecS s) i ++ [1] from by simp [lst, vecS, tb])
                clear tb
                go_wp2_with (at_builtin; refine push_one rfl (.tmp 24) (.tmp 31) rfl w.heap.size _ _ (1) rfl rfl p0 hl2 hB.size ?_; intro s' w1 hown' hgrow; have hB1 := below_grow hB p0 hgrow)
                go_roundw
                case rel => exact ⟨i + 1, by omega, by go_num, by rw [e1.out]; exact hown', hB1⟩
                case measure => simp [intOf]; omega
              · rw [if_neg tb] at hv
                have e1 := Lib.hid (show lst (vecS s) (i + 1) = lst (vecS s) i ++ [-1] from by simp [lst, vecS, tb])
                clear tb
                go_wp2_with (at_builtin; refine push_one rfl (.tmp 24) (.tmp 31) rfl w.heap.size _ _ (-1) rfl rfl p0 hl2 hB.size ?_; intro s' w1 hown' hgrow; have hB1 := below_grow hB p0 hgrow)
                go_roundw
                case rel => exact ⟨i + 1, by omega, by go_num, by rw [e1.out]; exact hown', hB1⟩
                case measure => simp [intOf]; omega
            · obtain rfl : m = i := by omega
              obtain ⟨A, c, rfl, fl⟩ := p0.lst
              have hel := fun w f => spec_Eliminates A m c (vecS s) w (by omega) f
              by_cases th : hitS K m s = true
              · have hge : (K : Int) ≤ elimV m (vecS s) := by simpa [hitS] using th
                have hM : m = M := by
                  rcases Nat.lt_or_ge m M with h9 | h9
                  · have := N2.out h9 s hs; rw [th] at this; cases this
                  · omega
                have HM := Lib.hid hM; clear hM th
                revert hel hge
                generalize elimV m (vecS s) = E
                intro hel hge
                go_wp2_with (go_at_call 17; (with_reducible refine (hel _ fl).mono ?_); rintro _ _ ⟨rfl, rfl⟩)
                go_ret
                exact ⟨by rw [HM.out]; rfl, hB⟩
              · have hge : ¬ (K : Int) ≤ elimV m (vecS s) := by simpa [hitS] using th
                have e2 := Lib.hid (show allN (fun s => !hitS K m s) (s + 1) = true from by
                  have : hitS K m s = false := by simpa using th
                  simp [allN, HA.out, this])
                clear th
                revert hel hge
                generalize elimV m (vecS s) = E
                intro hel hge
                go_wp2_with (go_at_call 17; (with_reducible refine (hel _ fl).mono ?_); rintro _ _ ⟨rfl, rfl⟩)
                go_roundw
                case rel => exact ⟨s + 1, by omega, by go_num, e2.out, hB⟩
                case measure => simp [intOf]; omega
        · obtain rfl : P = s := by omega
          have hge : wrap64 ((2 : Int) ^ m) ≤ (P : Int) := by rw [HSH.out]; omega
          have hmM2 : m < M := by
            rcases Nat.lt_or_ge m M with h9 | h9
            · exact h9
            · have := Y2.out (by omega); rw [HA.out] at this; cases this
          go_wp2
          go_roundw
          case rel => exact ⟨m + 1, by omega, by omega, by go_num, hB⟩
          case measure => simp [intOf]; omega
  · rw [shortV_no h]
    have e0 : inB n 0 3 = false := by simpa using h
    have hS : ∀ w, _ := fun w => l01In_any n 0 3 w
    simp only [e0] at hS
    have HS := Lib.hid hS; clear hS h e0
    go_enter Try.func21, Try.ntmps21
    ((go_wp2_with fail); (with_reducible refine (HS.out _).mono ?_); rintro _ _ ⟨rfl, rfl⟩)
    go_wp2_with fail
    go_ret
    exact ⟨rfl, hB⟩
end Go.Proofs.Ytmgfejdgjfldfaa
