/- The contracts of ResiduesOf. -/
import Derived.Test.YtmnmnkenboejpaaTops
namespace Go.Proofs.Ytmnmnkenboejpaa
open Go.RowKit
set_option linter.unusedSimpArgs false
set_option linter.unusedVariables false
set_option maxHeartbeats 4000000
theorem step_push_one {ops : Array Oper} {o : Oper} {a : Act} {K : Act → World → Prop} {Q : Exit → Act → World → Prop} {E : Prop} {wr w1 : World} (hgd : o.guard = none) (s x : Operand)
    (ho : o.op = .call { callee := .builtin .append, args := #[s, x], argTypes := #[23, 23] }) (B : Nat) (sv : Value) (l : List Int) (y : Int) (hs : a.eval s = sv)
    (hx : a.eval x = .slice (some ⟨wr.heap.size, 0, none⟩) 1 1) (hown : OwnS wr B sv l) (hlen : l.length ≤ 1048576) (hB : B ≤ wr.heap.size) (hw1 : w1 = wr.alloc (.cells #[.int .i64 y] 3))
    (h : ∀ v' w', OwnS w' B v' (l ++ [y]) → wr.grownBy w' sv.ownBlock → K (a.put o.dst v') w') :
    if Region.wanted o (yielded ops a.tmps) = true then Oper.wp Try.prog o a w1 K Q else E := by
  subst hw1
  refine step_push_list hgd s x ho B sv l [y] (some ⟨wr.heap.size, 0, none⟩) 1 1 rfl hs hx (hown.below (below_alloc (Below.refl _ _) _)) (fun _ => ⟨wr.heap.size, 0, rfl, fun j hj => ?_⟩) (fun e => by cases e) (by simp only [List.length_singleton]; omega) (Nat.le_trans hB (below_alloc (Below.refl wr.heap.size wr) _).size) ?_
  · obtain rfl : j = 0 := by omega
    simp [go_sem, gl]
  · intro v' w' h1 h2
    refine h v' w' h1 ?_
    have h3 : wr.grownBy (wr.alloc (.cells #[.int .i64 y] 3)) none := World.grownBy_alloc wr _ none
    refine ⟨h2.os.trans h3.os, h2.tape.trans h3.tape, h2.output.trans h3.output, Nat.le_trans h3.size h2.size, fun k hk hne => ?_⟩
    rw [h2.block k (Nat.lt_of_lt_of_le hk h3.size) hne, h3.block k hk (by simp)]
theorem step_push_one2 {ops : Array Oper} {o : Oper} {a : Act} {K : Act → World → Prop} {Q : Exit → Act → World → Prop} {E : Prop} {wr w1 : World} (hgd : o.guard = none) (s x : Operand)
    (ho : o.op = .call { callee := .builtin .append, args := #[s, x], argTypes := #[23, 23] }) (B : Nat) (sv : Value) (l : List Int) (y : Int) (hs : a.eval s = sv)
    (hx : a.eval x = .slice (some ⟨wr.heap.size, 0, none⟩) 1 1) (hown : OwnS wr B sv l) (hlen : l.length ≤ 1048576) (hB : B ≤ wr.heap.size) (hw1 : w1 = wr.alloc (.cells #[.int .i64 y] 3))
    (h : ∀ v' w', OwnS w' B v' (l ++ [y]) → wr.grownBy w' sv.ownBlock → (∀ b, v'.ownBlock = some b → sv.ownBlock = some b ∨ wr.heap.size ≤ b) → K (a.put o.dst v') w') :
    if Region.wanted o (yielded ops a.tmps) = true then Oper.wp Try.prog o a w1 K Q else E := by
  subst hw1
  refine step_push_list2 hgd s x ho B sv l [y] (some ⟨wr.heap.size, 0, none⟩) 1 1 rfl hs hx (hown.below (below_alloc (Below.refl _ _) _)) (fun _ => ⟨wr.heap.size, 0, rfl, fun j hj => ?_⟩) (fun e => by cases e) (by simp only [List.length_singleton]; omega) (Nat.le_trans hB (below_alloc (Below.refl wr.heap.size wr) _).size) ?_
  · obtain rfl : j = 0 := by omega
    simp [go_sem, gl]
  · intro v' w' h1 h2 h4
    refine h v' w' h1 ?_ (fun b hb => (h4 b hb).imp id (fun h5 => Nat.le_trans (below_alloc (Below.refl wr.heap.size wr) _).size h5))
    have h3 : wr.grownBy (wr.alloc (.cells #[.int .i64 y] 3)) none := World.grownBy_alloc wr _ none
    refine ⟨h2.os.trans h3.os, h2.tape.trans h3.tape, h2.output.trans h3.output, Nat.le_trans h3.size h2.size, fun k hk hne => ?_⟩
    rw [h2.block k (Nat.lt_of_lt_of_le hk h3.size) hne, h3.block k hk (by simp)]
theorem OwnS.lift {w : World} {B B' : Nat} {s : Value} {l : List Int} (h : OwnS w B s l) (hB : B' ≤ B) : OwnS w B' s l := by
  refine ⟨h.1, ?_⟩
  rcases h.2 with h0 | ⟨g, cap, cur, rfl, hb, r⟩
  · exact Or.inl h0
  · exact Or.inr ⟨g, cap, cur, rfl, Nat.le_trans hB hb, r⟩
def resT (L : List (List Int)) (n : Nat) (v : Nat → Int) : List Int := (List.range n).map fun i => wrap64 (wrap64 (detG L * v i) - dotV (gl (L.getD i [])) (gl (topsL L v)) (L.getD 0 []).length)
/-- The residues. -/
def resV (L : List (List Int)) (n : Nat) (v : Nat → Int) : List Int := if rdB L n v = true then resT L n v else []
theorem rdB_at {L : List (List Int)} {n : Nat} {v : Nat → Int} (h : rdB L n v = true) : desB L = true ∧ n = L.length := by
  simp only [rdB, detB, Bool.and_eq_true, decide_eq_true_eq] at h
  exact ⟨h.1.1.1, h.1.2⟩
set_option maxRecDepth 100000 in
theorem impl_Res (A B : Option Addr) (c d n : Nat) (L : List (List Int)) (v : Nat → Int) (w : World) (hn : L.length ≤ 1048576) (hr : ∀ r ∈ L, r.length ≤ 1048576) (hn2 : n ≤ 1048576) (f0 : Fm w A L) (f1 : Fl w B n 1 v) :
    Calls Try.prog 20 #[.slice A L.length c, .slice B n d] w fun e w' => ∃ s, e = .returned s ∧ OwnS w' w.heap.size s (resV L n v) ∧ (rdB L n v = false → s = .slice none 0 0) ∧ Below w.heap.size w w' := by
  have hRd := fun w f g => impl_ReadingsOk A B c d n L v w hn hr hn2 f g
  rcases Bool.eq_false_or_eq_true (rdB L n v) with ht | ht
  · rw [ht] at hRd
    obtain ⟨hd, hnL⟩ := rdB_at ht
    have hSo := fun w f g => impl_solved A B c d n L v w hd hnL f g
    obtain ⟨⟨hL1, hL8⟩, ⟨hm1, hm4⟩, hrl, _⟩ := des_at hd
    have hres : resV L n v = (List.range n).map fun i => wrap64 (wrap64 (detG L * v i) - dotV (gl (L.getD i [])) (gl (topsL L v)) (L.getD 0 []).length) := by unfold resV; rw [if_pos ht]; rfl
    obtain ⟨m, hm⟩ : ∃ m, m = (L.getD 0 []).length := ⟨_, rfl⟩
    obtain ⟨D, hD⟩ : ∃ D, D = detG L := ⟨_, rfl⟩
    rw [← hm] at hres hrl hm1 hm4
    rw [← hm, ← hD] at hSo
    rw [← hD] at hres
    have HRES := Lib.hid hres; clear hres
    have HRL := Lib.hid hrl; clear hrl
    have HNL := Lib.hid hnL
    have HF := Lib.hid f0; have HF1 := Lib.hid f1
    rw [← hnL] at hL1 hL8 hRd ⊢
    have HTT := Lib.hid ht
    clear hd hnL hr hn hm hD ht
    go_enter Try.func20, Try.ntmps20
    go_wp2_with fail
    with_reducible refine (hRd _ f0 f1).mono ?_
    rintro _ w1 ⟨rfl, hb⟩
    replace f0 := f0.below hb
    replace f1 := f1.below hb
    go_wp2_with fail
    with_reducible refine (hSo _ f0 f1).mono ?_
    rintro _ w2 ⟨A', c', rfl, ft, hb2⟩
    replace hb := below_step hb hb2
    have HFT := Lib.hid ft
    have HB := Lib.hid hb
    clear hRd hSo f0 f1 hb2 ft hb
    go_wp2_with fail
    go_loopw [7, 22] (fun s i wr => ∃ j : Nat, j ≤ n ∧ i = .int .i64 j ∧ OwnS wr w2.heap.size s ((resV L n v).take j) ∧ Below w2.heap.size w2 wr) (fun _ i _ => n - (intOf i).toNat)
    case atStart => exact ⟨0, Nat.zero_le _, rfl, OwnS.nil _ _, Below.refl _ _⟩
    case round =>
      obtain ⟨j, hj, rfl, p0, hB2⟩ := hrel
      by_cases hjn : j < n
      · obtain ⟨r, hrk⟩ : ∃ r, L[j]? = some r := ⟨_, List.getElem?_eq_getElem (by have := HNL.out; omega)⟩
        have hrm : r.length = m := HRL.out r (List.mem_of_getElem? hrk)
        have htk : (resV L n v).take (j + 1) = (resV L n v).take j ++ [wrap64 (wrap64 (D * v j) - dotV (gl r) (gl (topsL L v)) m)] := by
          rw [HRES.out, ← getD_of hrk]; exact take_map_range _ _ _ hjn
        have HTK := Lib.hid htk; clear htk
        obtain ⟨b, off, rfl, hc⟩ := (HF.out.below (below_step HB.out hB2)) (by have := HNL.out; omega)
        obtain ⟨Ai, ci, c0, f1⟩ := hc j r hrk
        rw [hrm] at c0 f1
        obtain ⟨bv, ov, rfl, hcv⟩ := (HF1.out.below HB.out) (by omega)
        have cw := hcv j (by omega)
        have c1 := below_cell hB2 cw
        have ft := HFT.out.below hB2
        have hP := fun w f g => impl_product Ai A' m m ci c' (gl r) (gl (topsL L v)) w (by omega) (Nat.le_refl _) f g
        obtain ⟨X, hX⟩ : ∃ X, X = dotV (gl r) (gl (topsL L v)) m := ⟨_, rfl⟩
        rw [← hX] at hP HTK
        clear hc hcv hrk hrm hX
        have hj1 : (j : Int) < (n : Int) := by omega
        have hj0 : (0 : Int) ≤ (j : Int) := Int.natCast_nonneg _
        have htl : ((resV L n v).take j).length ≤ 1048576 := by rw [HRES.out]; simp; omega
        have hB0 := hB2.size
        have hlt := fun q h => (p0.base (g := q) h).1
        have HLT := Lib.hid hlt; clear hlt
        have HP0 := Lib.hid p0; clear p0
        have fld : Fl wr.drew Ai m 1 (gl r) := f1.below (Below.refl _ _).drew
        have ftd : Fl wr.drew A' m 1 (gl (topsL L v)) := ft.below (Below.refl _ _).drew
        clear f1 ft
        go_wp2_with fail
        go_region_held3 (fun w' => w'.cell? ⟨bv, ov + j, none⟩ = some (.int .i64 (v j)))
          (first
            | exact c1
            | exact below_cell (below_step hB2.drew hb1) cw
            | exact below_cell (below_alloc (below_step hB2.drew hb1) _) cw
            | exact below_cell (Below.grown (below_step hB2.drew hb1) hg3 (Nat.le_trans hB2.size hb1.size) HLT.out) cw)
          (first
            | (go_at_call 39; with_reducible refine (hP _ fld ftd).mono ?_; rintro _ w1 ⟨rfl, hb1⟩)
            | (refine step_push_one rfl (.tmp 27) (.tmp 38) rfl w2.heap.size _ _ _ rfl rfl ((HP0.out.below (w' := wr.drew) (Below.refl _ _).drew).below hb1) htl (Nat.le_trans hB0 hb1.size) rfl ?_; intro s3 w3 o3 hg3))
        go_wp2_with fail
        go_roundw
        case rel => exact ⟨j + 1, by omega, by go_num, by rw [HTK.out]; simpa only [IntWalk.i64_left] using o3, Below.grown (below_step hB2.drew hb1) hg3 (Nat.le_trans hB2.size hb1.size) HLT.out⟩
        case measure => simp [intOf]; omega
      · obtain rfl : j = n := by omega
        have htk : (resV L j v).take j = resV L j v := List.take_of_length_le (by rw [HRES.out]; simp)
        rw [htk] at p0
        have hsz := HB.out.size
        have HK := Lib.hid p0; clear p0
        have HB2 := Lib.hid (below_step HB.out hB2)
        clear hB2
        go_wp2_with fail
        go_ret
        refine ⟨_, rfl, HK.out.lift hsz, ?_, HB2.out⟩
        intro e; rw [HTT.out] at e; cases e
  · rw [ht] at hRd
    have hv : resV L n v = [] := by unfold resV; rw [if_neg (by rw [ht]; simp)]
    have HV := Lib.hid hv; clear hv
    clear ht
    go_enter Try.func20, Try.ntmps20
    go_wp2_with fail
    with_reducible refine (hRd _ f0 f1).mono ?_
    rintro _ w1 ⟨rfl, hb⟩
    go_wp2_with fail
    go_ret
    exact ⟨_, rfl, by rw [HV.out]; exact OwnS.nil _ _, fun _ => rfl, hb⟩
set_option maxRecDepth 100000 in
theorem spec_Res (A B : Option Addr) (c d n : Nat) (L : List (List Int)) (v : Nat → Int) (w : World) (hn : L.length ≤ 1048576) (hr : ∀ r ∈ L, r.length ≤ 1048576) (hn2 : n ≤ 1048576) (f0 : Fm w A L) (f1 : Fl w B n 1 v) :
    Calls Try.prog 19 #[.slice A L.length c, .slice B n d] w fun e w' => ∃ s, e = .returned s ∧ OwnS w' w.heap.size s (resV L n v) ∧ Below w.heap.size w w' := by
  have hRd := fun w f g => spec_ReadingsOk A B c d n L v w hn hr hn2 f g
  have k0 : OwnS (w.alloc (.cells #[] 3)) w.heap.size (.slice (some ⟨w.heap.size, 0, none⟩) 0 0) [] := OwnS.empty (Nat.le_refl _)
  have hba := below_alloc (Below.refl w.heap.size w) (.cells #[] 3)
  have HK0 := Lib.hid k0; clear k0
  have HBA := Lib.hid hba; clear hba
  rcases Bool.eq_false_or_eq_true (rdB L n v) with ht | ht
  · rw [ht] at hRd
    obtain ⟨hd, hnL⟩ := rdB_at ht
    have hG := gram_sq hd
    have hGr := fun w f => spec_GramOf A c L w hd f
    have hDt := fun A c w f => spec_det (L.getD 0 []).length A c (gramL L) w hG.len hG.row (by have := hG.m4; omega) f
    have hSo := fun w f g => spec_Tops A B c d n L v w hd hnL f g
    obtain ⟨⟨hL1, hL8⟩, ⟨hm1, hm4⟩, hrl, _⟩ := des_at hd
    have hres : resV L n v = (List.range n).map fun i => wrap64 (wrap64 (detG L * v i) - dotV (gl (L.getD i [])) (gl (topsL L v)) (L.getD 0 []).length) := by unfold resV; rw [if_pos ht]; rfl
    have hglen : (gramL L).length = (L.getD 0 []).length := gram_len
    have hdt : detG L = detF (L.getD 0 []).length (gramL L) := rfl
    obtain ⟨m, hm⟩ : ∃ m, m = (L.getD 0 []).length := ⟨_, rfl⟩
    obtain ⟨D, hD⟩ : ∃ D, D = detG L := ⟨_, rfl⟩
    rw [← hm] at hres hrl hm1 hm4 hglen hdt
    rw [← hm] at hSo
    rw [← hm, ← hdt, ← hD] at hDt
    rw [← hD] at hres
    have HRES := Lib.hid hres; clear hres
    have HRL := Lib.hid hrl; clear hrl
    have HNL := Lib.hid hnL
    have HGL := Lib.hid hglen; clear hglen
    have HF := Lib.hid f0; have HF1 := Lib.hid f1
    rw [← hnL] at hL1 hL8 hRd hGr ⊢
    clear hd hnL hr hn hm hD ht hG hdt
    replace f0 := f0.below HBA.out
    replace f1 := f1.below HBA.out
    go_enter Try.func19, Try.ntmps19
    go_wp2_with fail
    with_reducible refine (hRd _ f0 f1).mono ?_
    rintro _ w1 ⟨rfl, hb⟩
    replace f0 := f0.below hb
    replace f1 := f1.below hb
    have HK1 := Lib.hid (HK0.out.below hb)
    replace hb := below_step HBA.out hb
    clear HK0 HBA hRd
    go_wp2_with fail
    with_reducible refine (hGr _ f0).mono ?_
    rintro _ w2 ⟨sg, rfl, og, hb2⟩
    obtain ⟨Ag, cg, rfl, fg, _⟩ := og.outc
    rw [HGL.out]
    have HK2 := Lib.hid (HK1.out.below hb2)
    replace hb := below_step hb hb2
    replace f0 := f0.below hb2
    replace f1 := f1.below hb2
    clear og hb2 HK1 hGr
    go_wp2_with fail
    with_reducible refine (hDt _ _ _ fg).mono ?_
    rintro _ w3 ⟨rfl, hb2⟩
    have HK3 := Lib.hid (HK2.out.below hb2)
    replace hb := below_step hb hb2
    replace f0 := f0.below hb2
    replace f1 := f1.below hb2
    clear hb2 HK2 hDt fg
    go_wp2_with fail
    with_reducible refine (hSo _ f0 f1).mono ?_
    rintro _ w4 ⟨A', c', rfl, ft, hA', hb2⟩
    have hno : ∀ b off, A' = some ⟨b, off, none⟩ → (Value.slice (some ⟨w.heap.size, 0, none⟩) 0 0).ownBlock ≠ some b := fun b off e e2 => by have := hA' b off e; have := (HK3.out.base e2).2; omega
    have HNO := Lib.hid hno; clear hno hA'
    have HK4 := Lib.hid (HK3.out.below hb2)
    replace hb := below_step hb hb2
    have HFT := Lib.hid ft
    have HB := Lib.hid hb
    clear hSo f0 f1 hb2 ft hb HK3
    go_wp2_with fail
    go_loopw [5, 8] (fun s i wr => ∃ j : Nat, j ≤ n ∧ i = .int .i64 j ∧ OwnS wr w.heap.size s ((resV L n v).take j) ∧ Below w.heap.size w wr ∧ Fl wr A' m 1 (gl (topsL L v)) ∧ ∀ b off, A' = some ⟨b, off, none⟩ → s.ownBlock ≠ some b) (fun _ i _ => n - (intOf i).toNat)
    case atStart => exact ⟨0, Nat.zero_le _, rfl, HK4.out, HB.out, HFT.out, HNO.out⟩
    case round =>
      clear HFT HB HK4 HNO
      obtain ⟨j, hj, rfl, p0, hB2, ft, hno⟩ := hrel
      have HNO := Lib.hid hno; clear hno
      by_cases hjn : j < n
      · obtain ⟨r, hrk⟩ : ∃ r, L[j]? = some r := ⟨_, List.getElem?_eq_getElem (by have := HNL.out; omega)⟩
        have hrm : r.length = m := HRL.out r (List.mem_of_getElem? hrk)
        have htk : (resV L n v).take (j + 1) = (resV L n v).take j ++ [wrap64 (wrap64 (D * v j) - dotV (gl r) (gl (topsL L v)) m)] := by
          rw [HRES.out, ← getD_of hrk]; exact take_map_range _ _ _ hjn
        have HTK := Lib.hid htk; clear htk
        obtain ⟨b, off, rfl, hc⟩ := HF.out (by have := HNL.out; omega)
        obtain ⟨Ai, ci, cu, f1⟩ := hc j r hrk
        rw [hrm] at cu f1
        obtain ⟨bv, ov, rfl, hcv⟩ := HF1.out (by omega)
        have cw := hcv j (by omega)
        have c1 := below_cell hB2 cw
        have c0 := below_cell hB2 cu
        have hP := fun w f g => spec_product Ai A' m m ci c' (gl r) (gl (topsL L v)) w (by omega) (Nat.le_refl _) f g
        obtain ⟨X, hX⟩ : ∃ X, X = dotV (gl r) (gl (topsL L v)) m := ⟨_, rfl⟩
        rw [← hX] at hP HTK
        clear hc hcv hrk hrm hX
        have hj1 : (j : Int) < (n : Int) := by omega
        have hj0 : (0 : Int) ≤ (j : Int) := Int.natCast_nonneg _
        have htl : ((resV L n v).take j).length ≤ 1048576 := by rw [HRES.out]; simp; omega
        have hB0 := hB2.size
        have hlt := fun q h => (p0.base (g := q) h).1
        have HLT := Lib.hid hlt; clear hlt
        have HP0 := Lib.hid p0; clear p0
        have fld : Fl wr.drew Ai m 1 (gl r) := f1.below hB2.drew
        have ftd : Fl wr.drew A' m 1 (gl (topsL L v)) := ft.below (Below.refl _ _).drew
        have hfA := ft
        have HFA := Lib.hid hfA
        clear f1 ft hfA
        go_wp2_with fail
        go_region_held3 (fun w' => w'.cell? ⟨bv, ov + j, none⟩ = some (.int .i64 (v j)) ∧ w'.cell? ⟨b, off + j, none⟩ = some (.slice Ai m ci))
          ((repeat' apply And.intro) <;> first
            | exact c1
            | exact c0
            | exact below_cell (below_step hB2.drew hb1) cw
            | exact below_cell (below_step hB2.drew hb1) cu
            | exact below_cell (below_alloc (below_step hB2.drew hb1) _) cw
            | exact below_cell (below_alloc (below_step hB2.drew hb1) _) cu
            | exact below_cell (Below.grown (below_step hB2.drew hb1) hg3 (Nat.le_trans hB2.size hb1.size) HLT.out) cw
            | exact below_cell (Below.grown (below_step hB2.drew hb1) hg3 (Nat.le_trans hB2.size hb1.size) HLT.out) cu)
          (first
            | (go_at_call 38; with_reducible refine (hP _ fld ftd).mono ?_; rintro _ w1 ⟨rfl, hb1⟩)
            | (refine step_push_one2 rfl (.tmp 27) (.tmp 41) rfl w.heap.size _ _ _ rfl rfl ((HP0.out.below (w' := wr.drew) (Below.refl _ _).drew).below hb1) htl (Nat.le_trans hB0 hb1.size) rfl ?_; intro s3 w3 o3 hg3 hat))
        go_wp2_with fail
        go_roundw
        case rel =>
          have hb3 := Below.grown (below_step hB2.drew hb1) hg3 (Nat.le_trans hB2.size hb1.size) HLT.out
          refine ⟨j + 1, by omega, by go_num, by rw [HTK.out]; simpa only [IntWalk.i64_left] using o3, hb3, fun hm => ?_, fun b off e e2 => ?_⟩
          · obtain ⟨b, off, e, hcc⟩ := (ftd.below hb1) hm
            exact ⟨b, off, e, fun q hq => hg3.cell (hcc q hq) (fun e2 => HNO.out b off e e2.symm)⟩
          · rcases hat b e2 with e3 | e3
            · exact HNO.out b off e e3
            · obtain ⟨b', off', e', hcc⟩ := HFA.out (by omega)
              rw [e] at e'
              injection e' with e'; injection e' with e4 e5
              have h6 := lt_of_cell (hcc 0 (by omega))
              have h7 : wr.heap.size ≤ w1.heap.size := hb1.size
              simp only at h6
              omega
        case measure => simp [intOf]; omega
      · obtain rfl : j = n := by omega
        have htk : (resV L j v).take j = resV L j v := List.take_of_length_le (by rw [HRES.out]; simp)
        rw [htk] at p0
        have HK := Lib.hid p0; clear p0
        have HB2 := Lib.hid hB2
        clear hB2
        go_wp2_with fail
        go_ret
        exact ⟨_, rfl, HK.out, HB2.out⟩
  · rw [ht] at hRd
    have hv : resV L n v = [] := by unfold resV; rw [if_neg (by rw [ht]; simp)]
    have HV := Lib.hid hv; clear hv
    clear ht
    replace f0 := f0.below HBA.out
    replace f1 := f1.below HBA.out
    go_enter Try.func19, Try.ntmps19
    go_wp2_with fail
    with_reducible refine (hRd _ f0 f1).mono ?_
    rintro _ w1 ⟨rfl, hb⟩
    have HK1 := Lib.hid (HK0.out.below hb)
    replace hb := below_step HBA.out hb
    clear HK0 HBA
    go_wp2_with fail
    go_ret
    exact ⟨_, rfl, by rw [HV.out]; exact HK1.out, hb⟩
end Go.Proofs.Ytmnmnkenboejpaa
