/- The contracts of FewestPoints: for every slice of spans and every world, the program's function and the reference's return a slice that holds the same list (fewL), and leave old memory alone. A length of at most 2^20 alone is asked. -/
import Derived.Test.YtjkakoflfhjodaaMost
import Derived.Test.YtjkakoflfhjodaaBoo
namespace Go.Proofs.Ytjkakoflfhjodaa
open Go.RowKit
set_option linter.unusedSimpArgs false
set_option linter.unusedVariables false
set_option maxHeartbeats 1000000

/-- The first span among the first k that is not done and ends first; -1 if all are done. -/
def nx (v : Nat → Int) (d : Nat → Bool) : Nat → Int
  | 0 => -1
  | k + 1 => if d k = false ∧ (nx v d k < 0 ∨ v (k * 2 + 1) < v ((nx v d k).toNat * 2 + 1)) then (k : Int) else nx v d k
theorem nx_bd (v : Nat → Int) (d : Nat → Bool) (k : Nat) : -1 ≤ nx v d k ∧ nx v d k < k ∧ (0 ≤ nx v d k → d (nx v d k).toNat = false) := by
  induction k with
  | zero => simp [nx]
  | succ k ih =>
    simp only [nx]
    split
    · rename_i h; exact ⟨by omega, by omega, fun _ => by simpa using h.1⟩
    · exact ⟨by omega, by omega, ih.2.2⟩
theorem nx_done {v : Nat → Int} {d : Nat → Bool} {k : Nat} (h : d k = true) : nx v d (k + 1) = nx v d k := by
  rw [nx, if_neg]; simp [h]
theorem nx_first {v : Nat → Int} {d : Nat → Bool} {k : Nat} (h : d k = false) (h1 : nx v d k < 0) : nx v d (k + 1) = k := by
  rw [nx, if_pos ⟨h, Or.inl h1⟩]
theorem nx_yes {v : Nat → Int} {d : Nat → Bool} {k I : Nat} (h : d k = false) (h1 : nx v d k = I) (h2 : v (k * 2 + 1) < v (I * 2 + 1)) : nx v d (k + 1) = k := by
  rw [nx, if_pos ⟨h, Or.inr (by rw [h1]; exact h2)⟩]
theorem nx_no {v : Nat → Int} {d : Nat → Bool} {k I : Nat} (h1 : nx v d k = I) (h2 : ¬ v (k * 2 + 1) < v (I * 2 + 1)) : nx v d (k + 1) = I := by
  rw [nx, if_neg, h1]
  rw [h1]
  rintro ⟨_, h3 | h3⟩
  · omega
  · exact h2 h3
/-- After the point p the first k spans that hold it are done too. -/
def hit (v : Nat → Int) (p : Int) (d : Nat → Bool) (k : Nat) : Nat → Bool := fun j => if j < k then (d j || inB p (v (j * 2)) (v (j * 2 + 1))) else d j
/-- How many of the first k are not done. -/
def und (d : Nat → Bool) : Nat → Nat
  | 0 => 0
  | k + 1 => und d k + (if d k = true then 0 else 1)
theorem und_le (d : Nat → Bool) (k : Nat) : und d k ≤ k := by
  induction k with
  | zero => simp [und]
  | succ k ih => simp only [und]; split <;> omega
theorem und_mono {d d' : Nat → Bool} {k : Nat} (h : ∀ j, j < k → d j = true → d' j = true) : und d' k ≤ und d k := by
  induction k with
  | zero => simp [und]
  | succ k ih =>
    have h1 := ih fun j hj => h j (by omega)
    have h2 := h k (by omega)
    simp only [und]
    by_cases e : d k = true
    · rw [if_pos e, if_pos (h2 e)]; omega
    · rw [if_neg e]; split <;> omega
theorem und_lt {d d' : Nat → Bool} {k I : Nat} (h : ∀ j, j < k → d j = true → d' j = true) (hI : I < k) (h1 : d I = false) (h2 : d' I = true) : und d' k < und d k := by
  induction k with
  | zero => omega
  | succ k ih =>
    simp only [und]
    have h3 := h k (by omega)
    rcases Nat.lt_or_ge I k with h4 | h4
    · have h5 := ih (fun j hj => h j (by omega)) h4
      by_cases e : d k = true
      · rw [if_pos e, if_pos (h3 e)]; omega
      · rw [if_neg e]; split <;> omega
    · obtain rfl : I = k := by omega
      have h5 := und_mono (k := I) fun j hj => h j (by omega)
      rw [if_pos h2, if_neg (by simp [h1])]; omega
theorem und_hit {v : Nat → Int} {d : Nat → Bool} {n I : Nat} (h : nx v d n = I) (hv : v (I * 2) ≤ v (I * 2 + 1)) : und (hit v (v (I * 2 + 1)) d n) n < und d n := by
  have hb := nx_bd v d n
  rw [h] at hb
  have hI : I < n := by omega
  refine und_lt (fun j hj e => by simp [hit, hj, e]) hI (by have := hb.2.2 (by omega); simpa using this) ?_
  simp only [hit, hI, if_true, Bool.or_eq_true]
  exact Or.inr (inB_iff.2 (by omega))
/-- The points, greedily: at most f. -/
def few (v : Nat → Int) (n : Nat) : Nat → (Nat → Bool) → List Int
  | 0, _ => []
  | f + 1, d => if nx v d n < 0 then [] else v ((nx v d n).toNat * 2 + 1) :: few v n f (hit v (v ((nx v d n).toNat * 2 + 1)) d n)
theorem few_len (v : Nat → Int) (n : Nat) : ∀ f d, (few v n f d).length ≤ f := by
  intro f
  induction f with
  | zero => intro d; simp [few]
  | succ f ih => intro d; simp only [few]; split <;> simp; exact ih _
theorem few_stop {v : Nat → Int} {n f : Nat} {d : Nat → Bool} (h : nx v d n < 0) : few v n f d = [] := by
  cases f with
  | zero => rfl
  | succ f => simp [few, h]
theorem few_go {v : Nat → Int} {n f I : Nat} {d : Nat → Bool} (h : nx v d n = I) : few v n (f + 1) d = v (I * 2 + 1) :: few v n f (hit v (v (I * 2 + 1)) d n) := by
  rw [few, if_neg (by omega), h]; rfl
def fewL (n : Nat) (v : Nat → Int) : List Int := if spansB n v = true then few v n 13 (fun _ => false) else []
theorem fewL_yes {n : Nat} {v : Nat → Int} (h : spansB n v = true) : fewL n v = few v n 13 (fun _ => false) := if_pos h
theorem fewL_no {n : Nat} {v : Nat → Int} (h : ¬ spansB n v = true) : fewL n v = [] := if_neg h
theorem infoBool : (Try.prog.info? 4).map (fun i => (i.zero, i.size, i.bytes)) = some (some (.bool false), 1, 1) := by kernel_rfl

theorem impl_Few (A : Option Addr) (n c : Nat) (v : Nat → Int) (w : World) (hm : n ≤ 1048576) (f0 : Fl w A n 2 v) : Calls Try.prog 26 #[.slice A n c] w (IntRes w (fewL n v)) := by
  have hB := Below.refl w.heap.size w
  have hF0 := f0
  by_cases hs : spansB n v = true
  · obtain ⟨s1, s2, s3⟩ := spansB_inv hs
    have S3 := Lib.hid s3; clear s3
    have hmk := fun W => run_make_rowN (P := Try.prog) 50 4 _ _ _ Try.underlying50 infoBool .i64 .i64 n (by omega) (by omega) W
    rw [fewL_yes hs]
    have hS : ∀ w, _ := fun w => impl_SpansOk A n c v w
    simp only [hs] at hS
    have HS := Lib.hid hS; clear hS hs
    go_enter Try.func26, Try.ntmps26
    ((go_wp2_with fail); (with_reducible refine (HS.out _ f0).mono ?_); rintro _ w1 ⟨rfl, hb⟩; replace f0 := Fl.below f0 hb; replace hB := below_step hB hb; clear hb)
    go_wp2_with fail
    have q0 : OwnB (w1.alloc (.cells (madeCells #[.bool false] n) 4)) w1.heap.size 4 n (fun _ => false) := own_madeB (by decide) (by intro i hi; match i, hi with | 0, _ => rfl)
    have hb := below_alloc (Below.refl w1.heap.size w1) (.cells (madeCells #[.bool false] n) 4)
    have hz := hB.size
    replace hB := below_step hB hb
    replace f0 := f0.below hb
    have hW : w1.heap.size < (w1.alloc (.cells (madeCells #[.bool false] n) 4)).heap.size := by simp
    clear hb
    revert q0 hB f0 hW
    generalize w1.alloc (.cells (madeCells #[.bool false] n) 4) = W
    generalize w1.heap.size = g at hz
    intro q0 hB f0 hW
    go_loopw [3] (fun s wr => ∃ (f : Nat) (acc : List Int) (d : Nat → Bool), und d n < f ∧ f ≤ 13 ∧ acc.length + f ≤ 13 ∧ acc ++ few v n f d = few v n 13 (fun _ => false) ∧ OwnS wr W.heap.size s acc ∧ OwnB wr g 4 n d ∧ W.heap.size ≤ wr.heap.size ∧ Below w.heap.size w wr ∧ Fl wr A n 2 v) (fun s _ => 13 - lenOf s)
    case atStart => exact ⟨13, [], fun _ => false, by have := und_le (fun _ => false) n; omega, by omega, by simp, rfl, OwnS.nil _ _, q0, Nat.le_refl _, hB, f0⟩
    case round =>
      clear q0 hB f0
      obtain ⟨f, acc, d, hu, hf, hl, hE, p0, q0, hz1, hB, f0⟩ := hrel
      have HE := Lib.hid hE; clear hE
      obtain ⟨f', rfl⟩ : ∃ f', f = f' + 1 := ⟨f - 1, by omega⟩
      go_wp2_with fail
      obtain ⟨w2, hW2⟩ : ∃ w2 : World, w2 = wr := ⟨_, rfl⟩
      subst hW2
      go_loopw [5, 6, 19] (fun a b x wr => ∃ k : Nat, k ≤ n ∧ x = .int .i64 k ∧ ((nx v d k < 0 ∧ a = .int .i64 0 ∧ b = .bool false) ∨ (∃ I : Nat, nx v d k = I ∧ I < n ∧ a = .int .i64 (v (I * 2 + 1)) ∧ b = .bool true)) ∧ OwnS wr W.heap.size u3 acc ∧ OwnB wr g 4 n d ∧ W.heap.size ≤ wr.heap.size ∧ Below w.heap.size w wr ∧ Fl wr A n 2 v) (fun _ _ x _ => n - (intOf x).toNat)
      case atStart => exact ⟨0, Nat.zero_le _, rfl, Or.inl ⟨by simp [nx], rfl, rfl⟩, p0, q0, hz1, hB, f0⟩
      case round =>
        have e3 := p0.lenOf
        clear p0 q0 hz1 hB f0
        obtain ⟨k, hk, rfl, hab, p0, q0, hz1, hB, f0⟩ := hrel
        by_cases hkn : k < n
        · obtain ⟨b, off, rfl, hc⟩ := id f0 (by omega)
          have c0 : wr.cell? ⟨b, off + k * 2, none⟩ = _ := hc (k * 2) (by omega)
          have c1 : wr.cell? ⟨b, off + k * 2 + 1, none⟩ = _ := hc (k * 2 + 1) (by omega)
          have c2 := q0.cell hkn
          have l2 := lt_of_cell c2
          clear hc
          have hb := below_alloc (Below.refl wr.heap.size wr) (.cells #[.int .i64 (v (k * 2)), .int .i64 (v (k * 2 + 1))] 30)
          have HP := Lib.hid (And.intro (p0.below hb) (And.intro (q0.below hb) (And.intro (Nat.le_trans hz1 hb.size) (And.intro (below_step hB hb) (f0.below hb)))))
          clear p0 q0 hz1 hB f0 hb
          by_cases e : d k = true
          · rw [e] at c2
            have e1 := Lib.hid (nx_done (v := v) e)
            clear e
            rcases hab with ⟨h1, rfl, rfl⟩ | ⟨I, h1, hI, rfl, rfl⟩
            · have H1 := Lib.hid h1; clear h1
              go_wp2
              go_roundw
              case rel => exact ⟨k + 1, by omega, by go_num, Or.inl ⟨by rw [e1.out]; exact H1.out, rfl, rfl⟩, HP.out⟩
              case measure => simp [intOf]; omega
            · have H1 := Lib.hid h1; clear h1
              go_wp2
              go_roundw
              case rel => exact ⟨k + 1, by omega, by go_num, Or.inr ⟨I, by rw [e1.out]; exact H1.out, hI, rfl, rfl⟩, HP.out⟩
              case measure => simp [intOf]; omega
          · have e' : d k = false := by simpa using e
            clear e
            rw [e'] at c2
            rcases hab with ⟨h1, rfl, rfl⟩ | ⟨I, h1, hI, rfl, rfl⟩
            · have e1 := Lib.hid (nx_first e' h1)
              clear h1 e'
              go_wp2
              go_roundw
              case rel => exact ⟨k + 1, by omega, by go_num, Or.inr ⟨k, e1.out, hkn, rfl, rfl⟩, HP.out⟩
              case measure => simp [intOf]; omega
            · by_cases t : v (k * 2 + 1) < v (I * 2 + 1)
              · have e1 := Lib.hid (nx_yes e' h1 t)
                clear h1 e'
                go_wp2
                go_roundw
                case rel => exact ⟨k + 1, by omega, by go_num, Or.inr ⟨k, e1.out, hkn, rfl, rfl⟩, HP.out⟩
                case measure => simp [intOf]; omega
              · have e1 := Lib.hid (nx_no (d := d) h1 t)
                clear h1 e'
                go_wp2
                go_roundw
                case rel => exact ⟨k + 1, by omega, by go_num, Or.inr ⟨I, e1.out, hI, rfl, rfl⟩, HP.out⟩
                case measure => simp [intOf]; omega
        · obtain rfl : n = k := by omega
          rcases hab with ⟨h1, rfl, rfl⟩ | ⟨I, h1, hI, rfl, rfl⟩
          · rw [few_stop h1, List.append_nil] at HE
            clear h1
            go_wp2
            go_ret
            rw [← HE.out]
            exact (p0.weak (by omega)).res hB
          · have hu2 := und_hit h1 (S3.out I hI).2.1
            rw [few_go h1] at HE
            clear h1
            generalize v (I * 2 + 1) = p at *
            go_wp2_with (at_builtin; refine push_one rfl (.tmp 45) (.tmp 47) rfl W.heap.size _ _ p rfl rfl p0 (by omega) hz1 ?_; intro s' w3 hown' hgrow; have hB1 := below_grow2 hB p0 (by omega) hgrow; have q1 := q0.grow p0 hW hgrow; have hz3 := Nat.le_trans hz1 hgrow.size)
            clear p0 q0 hz1 hB f0 hgrow
            go_loopw [51] (fun x wr => ∃ k : Nat, k ≤ n ∧ x = .int .i64 k ∧ OwnS wr W.heap.size s' (acc ++ [p]) ∧ OwnB wr g 4 n (hit v p d k) ∧ W.heap.size ≤ wr.heap.size ∧ Below w.heap.size w wr) (fun x _ => n - (intOf x).toNat)
            case atStart => exact ⟨0, Nat.zero_le _, rfl, hown', q1.congr (fun j _ => by simp [hit]), hz3, hB1⟩
            case round =>
              have e4 := hown'.lenOf
              clear hown' q1 hz3 hB1
              obtain ⟨k, hk, rfl, p0, q0, hz1, hB⟩ := hrel
              by_cases hkn : k < n
              · obtain ⟨b, off, rfl, hc⟩ := (hF0.below hB) (by omega)
                have c0 : wr.cell? ⟨b, off + k * 2, none⟩ = _ := hc (k * 2) (by omega)
                have c1 : wr.cell? ⟨b, off + k * 2 + 1, none⟩ = _ := hc (k * 2 + 1) (by omega)
                have c2 : wr.cell? ⟨g, k, none⟩ = some (.bool (d k)) := (q0.cell hkn).trans (by simp [hit])
                have z2 := q0.frozen k
                have l2 := lt_of_cell c2
                clear hc
                have hb := below_alloc (Below.refl wr.heap.size wr) (.cells #[.int .i64 (v (k * 2)), .int .i64 (v (k * 2 + 1))] 30)
                have c5 : (wr.alloc (.cells #[.int .i64 (v (k * 2)), .int .i64 (v (k * 2 + 1))] 30)).cell? ⟨wr.heap.size, 0, none⟩ = some (.int .i64 (v (k * 2))) := by simp [go_sem]
                have c6 : (wr.alloc (.cells #[.int .i64 (v (k * 2)), .int .i64 (v (k * 2 + 1))] 30)).cell? ⟨wr.heap.size, 1, none⟩ = some (.int .i64 (v (k * 2 + 1))) := by simp [go_sem]
                have c7 := below_cell hb c2
                have z7 := below_frozen hb (lt_of_cell c2) z2
                have hz4 := Nat.le_trans hz1 hb.size
                have p9 := p0
                have q9 := q0
                have hB9 := hB
                replace p0 := p0.below hb
                replace q0 := q0.below hb
                replace hB := below_step hB hb
                clear hb
                by_cases e : d k = true
                · rw [e] at c2 c7
                  have e1 := Lib.hid (fun j (hj : j < n) => show (if j = k then true else hit v p d k j) = hit v p d (k + 1) j from by
                    simp only [hit]
                    by_cases e3 : j = k
                    · subst e3; rw [if_pos rfl, if_pos (by omega)]; simp [e]
                    · rw [if_neg e3]; by_cases e4 : j < k
                      · rw [if_pos e4, if_pos (by omega)]
                      · rw [if_neg e4, if_neg (by omega)])
                  clear e
                  go_wp2
                  go_roundw
                  case rel => exact ⟨k + 1, by omega, by go_num, (p9.far hW _ _).below (below_alloc (Below.refl _ _) _), ((q9.set k true).congr e1.out).below (below_alloc (Below.refl _ _) _), by simp; omega, by (repeat (first | exact Below.refl _ _ | assumption | (refine Below.drew ?_) | (refine below_alloc ?_ _) | (refine Below.setCell ?_ (by first | (simp; done) | (simp; omega) | omega | (have hq := hB.size; (try simp at hq ⊢); omega)) _) | (refine Below.alloc ?_ (by first | (simp; done) | (simp; omega) | omega | (have hq := hB.size; (try simp at hq ⊢); omega)) _) | (refine below_step ?_ (by assumption))))⟩
                  case measure => simp [intOf]; omega
                · have e' : d k = false := by simpa using e
                  clear e
                  rw [e'] at c2 c7
                  have e1 := Lib.hid (fun j (hj : j < n) => show (if j = k then inB p (v (k * 2)) (v (k * 2 + 1)) else hit v p d k j) = hit v p d (k + 1) j from by
                    simp only [hit]
                    by_cases e3 : j = k
                    · subst e3; rw [if_pos rfl, if_pos (by omega)]; simp [e']
                    · rw [if_neg e3]; by_cases e4 : j < k
                      · rw [if_pos e4, if_pos (by omega)]
                      · rw [if_neg e4, if_neg (by omega)])
                  clear e'
                  go_wp2_with (go_at_call 40; (with_reducible refine (impl_holds _ _ _ _).mono ?_); rintro _ w4 ⟨rfl, hb⟩; have hz5 := Nat.le_trans hz4 hb.size; replace p0 := p0.below hb; replace q0 := q0.below hb; replace z7 := below_frozen hb (lt_of_cell c7) z7; replace c7 := below_cell hb c7; replace hB := below_step hB hb; clear hb)
                  go_roundw
                  case rel => exact ⟨k + 1, by omega, by go_num, p0.far hW _ _, (q0.set k _).congr e1.out, by simpa using hz5, by (repeat (first | exact Below.refl _ _ | assumption | (refine Below.drew ?_) | (refine below_alloc ?_ _) | (refine Below.setCell ?_ (by first | (simp; done) | (simp; omega) | omega | (have hq := hB.size; (try simp at hq ⊢); omega)) _) | (refine Below.alloc ?_ (by first | (simp; done) | (simp; omega) | omega | (have hq := hB.size; (try simp at hq ⊢); omega)) _) | (refine below_step ?_ (by assumption))))⟩
                  case measure => simp [intOf]; omega
              · obtain rfl : n = k := by omega
                go_wp2
                go_roundw
                case rel => exact ⟨f', acc ++ [p], hit v p d n, by omega, by omega, by simp; omega, by rw [List.append_assoc]; exact HE.out, p0, q0, hz1, hB, hF0.below hB⟩
                case measure => rw [e3, e4]; simp; omega
  · rw [fewL_no hs]
    have hS : ∀ w, _ := fun w => impl_SpansOk A n c v w
    have e0 : spansB n v = false := by simpa using hs
    simp only [e0] at hS
    have HS := Lib.hid hS; clear hS hs e0
    go_enter Try.func26, Try.ntmps26
    ((go_wp2_with fail); (with_reducible refine (HS.out _ f0).mono ?_); rintro _ w1 ⟨rfl, hb⟩; replace f0 := Fl.below f0 hb; replace hB := below_step hB hb; clear hb)
    go_wp2_with fail
    go_ret
    exact ⟨none, 0, rfl, fun hl => absurd hl (by simp), hB⟩

theorem spec_Few (A : Option Addr) (n c : Nat) (v : Nat → Int) (w : World) (hm : n ≤ 1048576) (f0 : Fl w A n 2 v) : Calls Try.prog 25 #[.slice A n c] w (IntRes w (fewL n v)) := by
  have hB : Below w.heap.size w (w.alloc (.cells #[] 3)) := below_alloc (Below.refl _ _) _
  have hF0 := f0
  replace f0 := f0.below hB
  have p0 := OwnS.empty (w := w) (B := w.heap.size) (Nat.le_refl _)
  have l0 : w.heap.size < (w.alloc (.cells #[] 3)).heap.size := by simp
  have hS : ∀ w, _ := fun w => spec_SpansOk A n c v w hm
  by_cases hs : spansB n v = true
  · obtain ⟨s1, s2, s3⟩ := spansB_inv hs
    have S3 := Lib.hid s3; clear s3
    have hmk := fun W => run_make_rowN (P := Try.prog) 50 4 _ _ _ Try.underlying50 infoBool .i64 .i64 n (by omega) (by omega) W
    rw [fewL_yes hs]
    simp only [hs] at hS
    have HS := Lib.hid hS; clear hS hs
    go_enter Try.func25, Try.ntmps25
    ((go_wp2_with fail); (with_reducible refine (HS.out _ f0).mono ?_); rintro _ w1 ⟨rfl, hb⟩; replace p0 := OwnS.below p0 hb; replace f0 := Fl.below f0 hb; replace l0 := below_lt hb l0; replace hB := below_step hB hb; clear hb)
    go_wp2_with fail
    have q0 : OwnB (w1.alloc (.cells (madeCells #[.bool false] n) 4)) w1.heap.size 4 n (fun _ => false) := own_madeB (by decide) (by intro i hi; match i, hi with | 0, _ => rfl)
    have hb := below_alloc (Below.refl w1.heap.size w1) (.cells (madeCells #[.bool false] n) 4)
    replace hB := below_step hB hb
    replace f0 := f0.below hb
    replace p0 := p0.below hb
    have hW : w1.heap.size < (w1.alloc (.cells (madeCells #[.bool false] n) 4)).heap.size := by simp
    clear hb
    revert q0 hB f0 hW p0
    generalize w1.alloc (.cells (madeCells #[.bool false] n) 4) = W
    generalize w1.heap.size = g at l0
    intro q0 hB f0 p0 hW
    have HG := Lib.hid (show w.heap.size ≤ g from Nat.le_of_lt l0)
    go_loopw [3] (fun s wr => ∃ (f : Nat) (acc : List Int) (d : Nat → Bool), und d n < f ∧ f ≤ 13 ∧ acc.length + f ≤ 13 ∧ acc ++ few v n f d = few v n 13 (fun _ => false) ∧ s.ownBlock ≠ some g ∧ OwnS wr w.heap.size s acc ∧ OwnB wr g 4 n d ∧ Below w.heap.size w wr ∧ Fl wr A n 2 v) (fun s _ => 13 - lenOf s)
    case atStart => exact ⟨13, [], fun _ => false, by have := und_le (fun _ => false) n; omega, by omega, by simp, rfl, by simp [Value.ownBlock]; omega, p0, q0, hB, f0⟩
    case round =>
      clear q0 hB f0 p0
      obtain ⟨f, acc, d, hu, hf, hl, hE, hap, p0, q0, hB, f0⟩ := hrel
      have HE := Lib.hid hE; clear hE
      have HA := Lib.hid hap; clear hap
      obtain ⟨f', rfl⟩ : ∃ f', f = f' + 1 := ⟨f - 1, by omega⟩
      go_wp2_with fail
      obtain ⟨w2, hW2⟩ : ∃ w2 : World, w2 = wr := ⟨_, rfl⟩
      subst hW2
      go_loopw [5, 6] (fun a x wr => ∃ (k : Nat) (z : Int), k ≤ n ∧ x = .int .i64 k ∧ nx v d k = z ∧ -1 ≤ z ∧ z < n ∧ a = .int .i64 z ∧ OwnS wr w.heap.size u3 acc ∧ OwnB wr g 4 n d ∧ Below w.heap.size w wr ∧ Fl wr A n 2 v) (fun _ x _ => n - (intOf x).toNat)
      case atStart => exact ⟨0, -1, Nat.zero_le _, rfl, by simp [nx], by omega, by omega, rfl, p0, q0, hB, f0⟩
      case round =>
        have e3 := p0.lenOf
        clear p0 q0 hB f0
        obtain ⟨k, z, hk, rfl, h1, hz1, hz2, rfl, p0, q0, hB, f0⟩ := hrel
        by_cases hkn : k < n
        · obtain ⟨b, off, rfl, hc⟩ := id f0 (by omega)
          have c1 : wr.cell? ⟨b, off + k * 2 + 1, none⟩ = _ := hc (k * 2 + 1) (by omega)
          have c2 := q0.cell hkn
          by_cases e : d k = true
          · rw [e] at c2
            have e1 := Lib.hid ((nx_done (v := v) e).trans h1)
            clear e h1 hc
            go_wp2_with fail
            (have Ec1 := ext_cell c1; have Ec2 := ext_cell c2; refine calm_lit (by kernel_rfl) (by kernel_rfl) ?_; (repeat (first | go_big_quiet_step (fail) | simp only [TF])); refine wpQuiet_nil ?_; intro w1 hb; clear Ec1 Ec2; replace c1 := below_cell hb c1; replace c2 := below_cell hb c2; replace p0 := OwnS.below p0 hb; replace q0 := OwnB.below q0 hb; replace f0 := Fl.below f0 hb; replace hB := below_step hB hb; clear hb)
            go_wp2
            go_roundw
            case rel => exact ⟨k + 1, z, by omega, by go_num, e1.out, hz1, hz2, rfl, p0, q0, hB, f0⟩
            case measure => simp [intOf]; omega
          · have e' : d k = false := by simpa using e
            clear e
            rw [e'] at c2
            by_cases t0 : z < 0
            · have e1 := Lib.hid (nx_first (v := v) e' (by omega))
              clear h1 e' hc
              go_wp2_with fail
              (have Ec1 := ext_cell c1; have Ec2 := ext_cell c2; refine calm_lit (by kernel_rfl) (by kernel_rfl) ?_; (repeat (first | go_big_quiet_step (fail) | simp only [TF])); refine wpQuiet_nil ?_; intro w1 hb; clear Ec1 Ec2; replace c1 := below_cell hb c1; replace c2 := below_cell hb c2; replace p0 := OwnS.below p0 hb; replace q0 := OwnB.below q0 hb; replace f0 := Fl.below f0 hb; replace hB := below_step hB hb; clear hb)
              go_wp2
              go_roundw
              case rel => exact ⟨k + 1, k, by omega, by go_num, e1.out, by omega, by omega, rfl, p0, q0, hB, f0⟩
              case measure => simp [intOf]; omega
            · obtain ⟨I, rfl⟩ : ∃ I : Nat, z = I := ⟨z.toNat, by omega⟩
              have c3 : wr.cell? ⟨b, off + I * 2 + 1, none⟩ = _ := hc (I * 2 + 1) (by omega)
              clear hc
              have TF : decide ((I : Int) < 0) = false := by simp
              by_cases t : v (k * 2 + 1) < v (I * 2 + 1)
              · have e1 := Lib.hid (nx_yes e' h1 t)
                clear h1 e'
                go_wp2_with fail
                (have Ec1 := ext_cell c1; have Ec2 := ext_cell c2; have Ec3 := ext_cell c3; refine calm_lit (by kernel_rfl) (by kernel_rfl) ?_; (repeat (first | go_big_quiet_step (fail) | simp only [TF])); refine wpQuiet_nil ?_; intro w1 hb; clear Ec1 Ec2 Ec3; replace c1 := below_cell hb c1; replace c2 := below_cell hb c2; replace c3 := below_cell hb c3; replace p0 := OwnS.below p0 hb; replace q0 := OwnB.below q0 hb; replace f0 := Fl.below f0 hb; replace hB := below_step hB hb; clear hb)
                go_wp2
                go_roundw
                case rel => exact ⟨k + 1, k, by omega, by go_num, e1.out, by omega, by omega, rfl, p0, q0, hB, f0⟩
                case measure => simp [intOf]; omega
              · have e1 := Lib.hid (nx_no (d := d) h1 t)
                clear h1 e'
                go_wp2_with fail
                (have Ec1 := ext_cell c1; have Ec2 := ext_cell c2; have Ec3 := ext_cell c3; refine calm_lit (by kernel_rfl) (by kernel_rfl) ?_; (repeat (first | go_big_quiet_step (fail) | simp only [TF])); refine wpQuiet_nil ?_; intro w1 hb; clear Ec1 Ec2 Ec3; replace c1 := below_cell hb c1; replace c2 := below_cell hb c2; replace c3 := below_cell hb c3; replace p0 := OwnS.below p0 hb; replace q0 := OwnB.below q0 hb; replace f0 := Fl.below f0 hb; replace hB := below_step hB hb; clear hb)
                go_wp2
                go_roundw
                case rel => exact ⟨k + 1, I, by omega, by go_num, e1.out, by omega, by omega, rfl, p0, q0, hB, f0⟩
                case measure => simp [intOf]; omega
        · obtain rfl : n = k := by omega
          by_cases t0 : z < 0
          · rw [few_stop (by omega), List.append_nil] at HE
            clear h1
            go_wp2
            go_ret
            rw [← HE.out]
            exact p0.res hB
          · obtain ⟨I, rfl⟩ : ∃ I : Nat, z = I := ⟨z.toNat, by omega⟩
            have hu2 := und_hit h1 (S3.out I (by omega)).2.1
            rw [few_go h1] at HE
            obtain ⟨b, off, rfl, hc⟩ := id f0 (by omega)
            have c3 : wr.cell? ⟨b, off + I * 2 + 1, none⟩ = _ := hc (I * 2 + 1) (by omega)
            clear hc
            clear h1
            generalize v (I * 2 + 1) = p at *
            go_wp2_with (at_builtin; refine push_one2 rfl (.tmp 54) (.tmp 56) rfl w.heap.size _ _ p rfl rfl p0 (by omega) hB.size ?_; intro s' w3 hown' hgrow hap; have hB1 := below_grow hB p0 hgrow; have q1 := q0.grow2 hgrow HA.out; have HA1 := Lib.hid (hap g q0.lt HA.out); clear hap)
            clear p0 q0 hB f0 hgrow
            go_loopw [8] (fun x wr => ∃ k : Nat, k ≤ n ∧ x = .int .i64 k ∧ OwnS wr w.heap.size s' (acc ++ [p]) ∧ OwnB wr g 4 n (hit v p d k) ∧ Below w.heap.size w wr) (fun x _ => n - (intOf x).toNat)
            case atStart => exact ⟨0, Nat.zero_le _, rfl, hown', q1.congr (fun j _ => by simp [hit]), hB1⟩
            case round =>
              have e4 := hown'.lenOf
              clear hown' q1 hB1
              obtain ⟨k, hk, rfl, p0, q0, hB⟩ := hrel
              by_cases hkn : k < n
              · obtain ⟨b', off', eA, hc⟩ := (hF0.below hB) (by omega)
                obtain ⟨rfl, rfl⟩ : b = b' ∧ off = off' := by simpa using eA
                have c0 : wr.cell? ⟨b, off + k * 2, none⟩ = _ := hc (k * 2) (by omega)
                have c1 : wr.cell? ⟨b, off + k * 2 + 1, none⟩ = _ := hc (k * 2 + 1) (by omega)
                have c2 : wr.cell? ⟨g, k, none⟩ = some (.bool (d k)) := (q0.cell hkn).trans (by simp [hit])
                have z2 := q0.frozen k
                have l2 := lt_of_cell c2
                clear hc
                by_cases e : d k = true
                · rw [e] at c2
                  have e1 := Lib.hid (fun j (hj : j < n) => show (if j = k then true else hit v p d k j) = hit v p d (k + 1) j from by
                    simp only [hit]
                    by_cases e3 : j = k
                    · subst e3; rw [if_pos rfl, if_pos (by omega)]; simp [e]
                    · rw [if_neg e3]; by_cases e4 : j < k
                      · rw [if_pos e4, if_pos (by omega)]
                      · rw [if_neg e4, if_neg (by omega)])
                  clear e
                  go_wp2
                  go_roundw
                  case rel => exact ⟨k + 1, by omega, by go_num, p0.set HA1.out _, (q0.set k true).congr e1.out, by have := HG.out; (repeat (first | exact Below.refl _ _ | assumption | (refine Below.drew ?_) | (refine below_alloc ?_ _) | (refine Below.setCell ?_ (by first | (simp; done) | (simp; omega) | omega | (have hq := hB.size; (try simp at hq ⊢); omega)) _) | (refine Below.alloc ?_ (by first | (simp; done) | (simp; omega) | omega | (have hq := hB.size; (try simp at hq ⊢); omega)) _) | (refine below_step ?_ (by assumption))))⟩
                  case measure => simp [intOf]; omega
                · have e' : d k = false := by simpa using e
                  clear e
                  rw [e'] at c2
                  have e1 := Lib.hid (fun j (hj : j < n) => show (if j = k then inB p (v (k * 2)) (v (k * 2 + 1)) else hit v p d k j) = hit v p d (k + 1) j from by
                    simp only [hit]
                    by_cases e3 : j = k
                    · subst e3; rw [if_pos rfl, if_pos (by omega)]; simp [e']
                    · rw [if_neg e3]; by_cases e4 : j < k
                      · rw [if_pos e4, if_pos (by omega)]
                      · rw [if_neg e4, if_neg (by omega)])
                  clear e'
                  go_wp2_with (go_at_call 39; (with_reducible refine (spec_l32In _ _ _ _).mono ?_); rintro _ w4 ⟨rfl, hb⟩; replace p0 := p0.below hb; replace q0 := q0.below hb; replace z2 := below_frozen hb (lt_of_cell c2) z2; replace c2 := below_cell hb c2; replace hB := below_step hB hb; clear hb)
                  go_roundw
                  case rel => exact ⟨k + 1, by omega, by go_num, p0.set HA1.out _, (q0.set k _).congr e1.out, by have := HG.out; (repeat (first | exact Below.refl _ _ | assumption | (refine Below.drew ?_) | (refine below_alloc ?_ _) | (refine Below.setCell ?_ (by first | (simp; done) | (simp; omega) | omega | (have hq := hB.size; (try simp at hq ⊢); omega)) _) | (refine Below.alloc ?_ (by first | (simp; done) | (simp; omega) | omega | (have hq := hB.size; (try simp at hq ⊢); omega)) _) | (refine below_step ?_ (by assumption))))⟩
                  case measure => simp [intOf]; omega
              · obtain rfl : n = k := by omega
                go_wp2
                go_roundw
                case rel => exact ⟨f', acc ++ [p], hit v p d n, by omega, by omega, by simp; omega, by rw [List.append_assoc]; exact HE.out, HA1.out, p0, q0, hB, hF0.below hB⟩
                case measure => rw [e3, e4]; simp; omega
  · rw [fewL_no hs]
    have e0 : spansB n v = false := by simpa using hs
    simp only [e0] at hS
    have HS := Lib.hid hS; clear hS hs e0
    go_enter Try.func25, Try.ntmps25
    ((go_wp2_with fail); (with_reducible refine (HS.out _ f0).mono ?_); rintro _ w1 ⟨rfl, hb⟩; replace p0 := OwnS.below p0 hb; replace f0 := Fl.below f0 hb; replace hB := below_step hB hb; clear hb)
    go_wp2_with fail
    go_ret
    exact p0.res hB
end Go.Proofs.Ytjkakoflfhjodaa
