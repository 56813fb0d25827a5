/- The contracts of SwapRows, for 0 ≤ i < k < n. -/
import Derived.Test.YtmnmnkenboejpaaSqs
import Derived.BigRegion
namespace Go.Proofs.Ytmnmnkenboejpaa
open Go.RowKit
set_option linter.unusedSimpArgs false
set_option linter.unusedVariables false
set_option maxHeartbeats 4000000
/-- Readings i and k exchanged. -/
def swp (v : Nat → Int) (i k : Nat) : Nat → Int := fun j => if j = i then v k else if j = k then v i else v j
theorem gl_range (v : Nat → Int) (n : Nat) : ∀ j, j < n * 1 → v j = gl ((List.range n).map v) j := fun j hj => (gl_map_range v (by omega)).symm
theorem OwnS.one_block {w : World} {B : Nat} {s : Value} {l : List Int} {n : Nat} (h : OwnS w B s l) (hn : n = l.length) (hl : 0 < n) : ∃ g c, s = .slice (some ⟨g, 0, none⟩) n c ∧ B ≤ g ∧ Own w g 3 (n * 1) (gl l) := by
  subst hn
  rcases h.2 with ⟨rfl, h0⟩ | ⟨g, cap, cur, rfl, hb, hh, hl, hm, hsz, ht⟩
  · omega
  · refine ⟨g, cap, rfl, hb, cur, hh, fun j hj => ?_⟩
    have hj' : j < l.length := by omega
    have h1 : (cur.toList.take (l.length * 1))[j]? = (l.map (Value.int .i64))[j]? := by rw [ht]
    rw [List.getElem?_take] at h1
    simp only [Nat.mul_one, hj', if_true, Array.getElem?_toList, List.getElem?_map, List.getElem?_eq_getElem hj', Option.map_some] at h1
    rw [h1]
    simp [gl, List.getElem?_eq_getElem hj']
set_option maxRecDepth 100000 in
theorem impl_Swap (B : Option Addr) (d n i k : Nat) (v : Nat → Int) (w : World) (hn : n ≤ 1048576) (hi : i < k) (hk : k < n) (f1 : Fl w B n 1 v) :
    Calls Try.prog 29 #[.slice B n d, .int .i64 i, .int .i64 k] w (Res1 w n (swp v i k)) := by
  have hcp := fun w f => impl_copyInts B n d ((List.range n).map v) w (by simp) f (fun e => by obtain ⟨b, off, e2, _⟩ := f (by omega); rw [e] at e2; cases e2) (by simp; omega)
  have f2 : ∀ w, Fl w B n 1 v → Fl w B n 1 (gl ((List.range n).map v)) := fun w f => f.congr (gl_range v n)
  have h1 : inB (i : Int) 0 ((n : Int) - 1) = true := inB_iff.2 (by omega)
  have h2 : inB (k : Int) 0 ((n : Int) - 1) = true := inB_iff.2 (by omega)
  go_enter Try.func29, Try.ntmps29
  go_wp2_with fail
  with_reducible refine (hcp _ (f2 _ f1)).mono ?_
  rintro _ w1 ⟨s, rfl, ow, hb⟩
  have hr := (IntRes.res1 (ow.res hb) (by simp; omega))
  simp only [List.length_map, List.length_range] at hr
  obtain ⟨g, c, e, hg, o1, _⟩ := hr
  injection e with e
  subst e
  clear ow hcp f2
  have o2 : Own w1 g 3 (n * 1) v := o1.congr (fun j hj => (gl_range v n j hj).symm)
  clear o1
  go_wp2_with (go_at_call 51; (with_reducible refine (in_any _ _ _ _).mono ?_); rintro _ _ ⟨rfl, rfl⟩)
  have c0 : w1.cell? ⟨g, i, none⟩ = some (.int .i64 (v i)) := o2.cell (by omega)
  have c1 : w1.cell? ⟨g, k, none⟩ = some (.int .i64 (v k)) := o2.cell (by omega)
  have z0 := o2.frozen i
  have z1 := o2.frozen k
  have hne : ¬ i = k := by omega
  have hi0 : (0 : Int) ≤ (i : Int) := by omega
  have hi1 : (i : Int) < (n : Int) := by omega
  have hk0 : (0 : Int) ≤ (k : Int) := by omega
  have hk1 : (k : Int) < (n : Int) := by omega
  have O2 := Lib.hid o2; clear o2
  have HB := Lib.hid hb; clear hb
  go_region
  go_wp2_with fail
  go_ret
  have o3 := ((O2.out.set i (v k)).set k (v i)).congr (v' := swp v i k) (fun j hj => by
    unfold swp
    repeat' split
    all_goals first | rfl | omega)
  exact ⟨g, c, rfl, hg, o3.of_block rfl, by
    have hB := HB.out
    (repeat (first | exact Below.refl _ _ | assumption | (refine Below.drew ?_) | (refine below_alloc ?_ _) | (refine Below.setCell ?_ (by first | (simp; done) | (simp; omega) | omega | (have hq := hB.size; (try simp at hq ⊢); omega)) _) | (refine Below.alloc ?_ (by first | (simp; done) | (simp; omega) | omega | (have hq := hB.size; (try simp at hq ⊢); omega)) _) | (refine below_step ?_ (by assumption))))⟩
set_option maxRecDepth 100000 in
theorem spec_Swap (B : Option Addr) (d n i k : Nat) (v : Nat → Int) (w : World) (hn : n ≤ 1048576) (hi : i < k) (hk : k < n) (f1 : Fl w B n 1 v) :
    Calls Try.prog 45 #[.slice B n d, .int .i64 i, .int .i64 k] w (Res1 w n (swp v i k)) := by
  have h1 : inB (i : Int) 0 ((n : Int) - 1) = true := inB_iff.2 (by omega)
  have h2 : inB (k : Int) 0 ((n : Int) - 1) = true := inB_iff.2 (by omega)
  obtain ⟨bb, ob, rfl, hcb⟩ := id f1 (by omega)
  have k0 : OwnS (w.alloc (.cells #[] 3)) w.heap.size (.slice (some ⟨w.heap.size, 0, none⟩) 0 0) [] := OwnS.empty (Nat.le_refl _)
  have hba := below_alloc (Below.refl w.heap.size w) (.cells #[] 3)
  have f2 : Fl (w.alloc (.cells #[] 3)) (some ⟨bb, ob, none⟩) n 1 (gl ((List.range n).map v)) := (f1.congr (gl_range v n)).below hba
  have HK0 := Lib.hid k0; clear k0
  have HBA := Lib.hid hba; clear hba
  have F2 := Lib.hid f2; clear f2
  have C := Lib.hid hcb; clear hcb
  go_enter Try.func45, Try.ntmps45
  go_wp2_with (at_builtin; refine push_list rfl (.tmp 8) (.tmp 9) rfl w.heap.size _ [] ((List.range n).map v) (some ⟨bb, ob, none⟩) n d (by simp) rfl rfl (by first | exact HK0.out | simpa using HK0.out) (by first | exact F2.out | simpa using F2.out) (fun e => by cases e) (by simp; omega) (by simp) ?_; intro s w1 ow hgr; have hb : Below w.heap.size w w1 := HBA.out.grown hgr HBA.out.size (fun k2 hk2 => by injection hk2 with hk2; exact Nat.le_of_eq hk2); obtain ⟨g, c, rfl, hg, o1⟩ := ow.one_block (n := n) (by simp) (by omega); clear ow hgr; replace HBA := Lib.hid hb; clear hb)
  have o2 : Own w1 g 3 (n * 1) v := o1.congr (fun j hj => (gl_range v n j hj).symm)
  clear o1
  have hb := HBA.out
  with_reducible refine (l01In_any _ _ _ _).mono ?_
  rintro _ _ ⟨rfl, rfl⟩
  have c2 : w1.cell? ⟨bb, ob + i, none⟩ = some (.int .i64 (v i)) := below_cell hb (C.out i (by omega))
  have c3 : w1.cell? ⟨bb, ob + k, none⟩ = some (.int .i64 (v k)) := below_cell hb (C.out k (by omega))
  have l2 : bb < w.heap.size := by have := lt_of_cell (C.out i (by omega)); simpa using this
  have c0 : w1.cell? ⟨g, i, none⟩ = some (.int .i64 (v i)) := o2.cell (by omega)
  have c1 : w1.cell? ⟨g, k, none⟩ = some (.int .i64 (v k)) := o2.cell (by omega)
  have z0 := o2.frozen i
  have z1 := o2.frozen k
  have hne : ¬ i = k := by omega
  have hne2 : ¬ bb = g := by omega
  have hne3 : ¬ g = bb := by omega
  have hi0 : (0 : Int) ≤ (i : Int) := by omega
  have hi1 : (i : Int) < (n : Int) := by omega
  have hk0 : (0 : Int) ≤ (k : Int) := by omega
  have hk1 : (k : Int) < (n : Int) := by omega
  have O2 := Lib.hid o2; clear o2
  have HB := Lib.hid hb; clear hb
  go_wp2_with (go_at_call 59; (with_reducible refine (l01In_any _ _ _ _).mono ?_); rintro _ _ ⟨rfl, rfl⟩)
  go_ret
  have o3 := ((O2.out.set i (v k)).set k (v i)).congr (v' := swp v i k) (fun j hj => by
    unfold swp
    repeat' split
    all_goals first | rfl | omega)
  exact ⟨g, c, rfl, hg, o3.of_block rfl, by
    have hB := HB.out
    (repeat (first | exact Below.refl _ _ | assumption | (refine Below.drew ?_) | (refine below_alloc ?_ _) | (refine Below.setCell ?_ (by first | (simp; done) | (simp; omega) | omega | (have hq := hB.size; (try simp at hq ⊢); omega)) _) | (refine Below.alloc ?_ (by first | (simp; done) | (simp; omega) | omega | (have hq := hB.size; (try simp at hq ⊢); omega)) _) | (refine below_step ?_ (by assumption))))⟩
end Go.Proofs.Ytmnmnkenboejpaa
