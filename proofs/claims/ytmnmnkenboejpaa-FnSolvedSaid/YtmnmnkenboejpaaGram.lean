/- Slices of rows that a call makes; the contracts of column and GramOf. -/
import Derived.Test.YtmnmnkenboejpaaDes
import Derived.Test.YtmnmnkenboejpaaRes
import Derived.Maps.AppendAt
namespace Go.Proofs.Ytmnmnkenboejpaa
open Go.RowKit
set_option linter.unusedSimpArgs false
set_option linter.unusedVariables false
set_option maxHeartbeats 4000000
/-- The slice value s owns, from block B on, the rows L; each row stands in another block. -/
def OwnM (w : World) (B : Nat) (s : Value) (L : List (List Int)) : Prop := ∃ vs : List Value, w.ownsRow B 23 1 s L.length vs ∧ vs.length = L.length ∧ ∀ (i : Nat) (r : List Int), L[i]? = some r → ∃ Ai ci, vs[i]? = some (.slice Ai r.length ci) ∧ Fl w Ai r.length 1 (gl r) ∧ r.length ≤ ci ∧ ∀ b off, Ai = some ⟨b, off, none⟩ → s.ownBlock ≠ some b ∧ b < w.heap.size
theorem OwnM.nil (w : World) (B : Nat) : OwnM w B (.slice none 0 0) [] := ⟨[], World.ownsRow_nil _ _ _ _, rfl, fun i r h => by simp at h⟩
theorem OwnM.empty {w : World} {B : Nat} (hB : B ≤ w.heap.size) : OwnM (w.alloc (.cells #[] 23)) B (.slice (some ⟨w.heap.size, 0, none⟩) 0 0) [] :=
  ⟨[], ⟨by simp, Or.inr ⟨w.heap.size, 0, #[], rfl, hB, heap_alloc_new w _, Nat.le_refl _, by unfold maxLen; omega, by simp, by simp⟩⟩, rfl, fun i r h => by simp at h⟩
theorem OwnM.base {w : World} {B g : Nat} {s : Value} {L : List (List Int)} (h : OwnM w B s L) (hg : s.ownBlock = some g) : B ≤ g ∧ g < w.heap.size := by
  obtain ⟨vs, h1, _, _⟩ := h
  exact h1.lt g hg
theorem OwnM.below {w w' : World} {B : Nat} {s : Value} {L : List (List Int)} (h : OwnM w B s L) (hb : Below w.heap.size w w') : OwnM w' B s L := by
  obtain ⟨vs, h1, h2, h3⟩ := h
  refine ⟨vs, World.ownsRow.kept h1 (row := none) ⟨hb.os, hb.tape, hb.output, hb.size, fun k hk _ => hb.block k hk⟩ (by cases s.ownBlock with | none => exact Or.inl rfl | some q => right; simp), h2, fun i r hr => ?_⟩
  obtain ⟨Ai, ci, e1, e2, e4, e3⟩ := h3 i r hr
  exact ⟨Ai, ci, e1, e2.below hb, e4, fun b off e => ⟨(e3 b off e).1, Nat.lt_of_lt_of_le (e3 b off e).2 hb.size⟩⟩
/-- The slice at A holds the rows L, and each has room for its length. -/
def Fmc (w : World) (A : Option Addr) (L : List (List Int)) : Prop := 0 < L.length → ∃ b off, A = some ⟨b, off, none⟩ ∧ ∀ (i : Nat) (r : List Int), L[i]? = some r → ∃ Ai ci, w.cell? ⟨b, off + i, none⟩ = some (.slice Ai r.length ci) ∧ Fl w Ai r.length 1 (gl r) ∧ r.length ≤ ci
theorem Fmc.below {w w' : World} {A : Option Addr} {L : List (List Int)} (h : Fmc w A L) (hb : Below w.heap.size w w') : Fmc w' A L := fun h0 => by
  obtain ⟨b, off, e, hc⟩ := h h0
  refine ⟨b, off, e, fun i r hr => ?_⟩
  obtain ⟨Ai, ci, h1, h2, h3⟩ := hc i r hr
  exact ⟨Ai, ci, below_cell hb h1, h2.below hb, h3⟩
theorem Fmc.fm {w : World} {A : Option Addr} {L : List (List Int)} (h : Fmc w A L) : Fm w A L := fun h0 => by
  obtain ⟨b, off, e, hc⟩ := h h0
  refine ⟨b, off, e, fun i r hr => ?_⟩
  obtain ⟨Ai, ci, h1, h2, _⟩ := hc i r hr
  exact ⟨Ai, ci, h1, h2⟩
theorem OwnM.outc {w : World} {B : Nat} {s : Value} {L : List (List Int)} (h : OwnM w B s L) : ∃ A c, s = .slice A L.length c ∧ Fmc w A L ∧ L.length ≤ c := by
  obtain ⟨vs, h1, h2, h3⟩ := h
  rcases h1.2 with ⟨rfl, h0⟩ | ⟨g, cap, cur, rfl, hb, hh, hl, hm, hsz, ht⟩
  · exact ⟨none, 0, by rw [h0], fun hn => absurd hn (by omega), by omega⟩
  · refine ⟨some ⟨g, 0, none⟩, cap, rfl, fun _ => ⟨g, 0, rfl, fun i r hr => ?_⟩, hl⟩
    obtain ⟨Ai, ci, e1, e2, e4, _⟩ := h3 i r hr
    refine ⟨Ai, ci, ?_, e2, e4⟩
    have hi := (List.getElem?_eq_some_iff.1 hr).1
    have h4 : (cur.toList.take (L.length * 1))[i]? = vs[i]? := by rw [ht]
    rw [List.getElem?_take, if_pos (by omega), Array.getElem?_toList, e1] at h4
    simp [World.cell?, hh, h4]
theorem OwnM.out {w : World} {B : Nat} {s : Value} {L : List (List Int)} (h : OwnM w B s L) : ∃ A c, s = .slice A L.length c ∧ Fm w A L ∧ L.length ≤ c := by
  obtain ⟨A, c, e, h1, h2⟩ := h.outc
  exact ⟨A, c, e, h1.fm, h2⟩
/-- One row appended. -/
theorem run_push_row (ty : TypeId) (B : Nat) (sv : Value) (L : List (List Int)) (r : List Int) (Ar : Option Addr) (cr n : Nat) (wr w1 : World) (hn : r.length = n) (hown : OwnM wr B sv L) (hlen : L.length ≤ 1048576) (hB : B ≤ wr.heap.size)
    (hr : Fl wr Ar r.length 1 (gl r)) (hcr : r.length ≤ cr) (hAr : ∀ b off, Ar = some ⟨b, off, none⟩ → sv.ownBlock ≠ some b ∧ b < wr.heap.size) (hw1 : w1 = wr.alloc (.cells #[.slice Ar n cr] 23)) :
    ∃ v' w', (Builtin.append_ #[22, 22] ty #[sv, .slice (some ⟨wr.heap.size, 0, none⟩) 1 1]).run Try.prog w1 = .ok v' w' ∧ OwnM w' B v' (L ++ [r]) ∧ wr.grownBy w' sv.ownBlock := by
  subst hn hw1
  obtain ⟨i0, hi, hz0, hz1, hz2⟩ := info_parts infoIntS
  obtain ⟨vs, o1, o2, o3⟩ := hown
  obtain ⟨v', w', hrun, h1, h2, _, hat⟩ := run_append_own_at (P := Try.prog) (wr.alloc (.cells #[.slice Ar r.length cr] 23)) B 22 ty 23 i0 (.slice none 0 0) 1 24 Try.underlying22 hi hz0 hz1 hz2 rfl (by decide) sv L.length vs (World.ownsRow.alloc o1 _) ⟨wr.heap.size, 0, none⟩ 1 1 [.slice Ar r.length cr] rfl
    (by
      intro j u hj
      match j, hj with
      | 0, hj => simp at hj; subst hj; simp [Addr.add]) (by intro u hu; simp at hu; subst hu; rfl) (by unfold maxLen; omega) (by omega) (by simp; omega)
  refine ⟨v', w', hrun, ?_⟩
  have h3 : wr.grownBy (wr.alloc (.cells #[.slice Ar r.length cr] 23)) none := World.grownBy_alloc wr _ none
  have hgr : wr.grownBy w' sv.ownBlock := by
    refine ⟨h2.os.trans h3.os, h2.tape.trans h3.tape, h2.output.trans h3.output, Nat.le_trans h3.size h2.size, fun k hk hne => ?_⟩
    rw [h2.block k (Nat.lt_of_lt_of_le hk h3.size) hne, h3.block k hk (by simp)]
  have keep : ∀ {A' : Option Addr} {r' : List Int}, Fl wr A' r'.length 1 (gl r') → (∀ b off, A' = some ⟨b, off, none⟩ → sv.ownBlock ≠ some b ∧ b < wr.heap.size) →
      Fl w' A' r'.length 1 (gl r') ∧ ∀ b off, A' = some ⟨b, off, none⟩ → v'.ownBlock ≠ some b ∧ b < w'.heap.size := fun hF hA => by
    refine ⟨fun hn => ?_, fun b off e => ⟨?_, Nat.lt_of_lt_of_le (hA b off e).2 hgr.size⟩⟩
    · obtain ⟨b, off, e, hc⟩ := hF hn
      exact ⟨b, off, e, fun j hj => hgr.cell (hc j hj) (fun e2 => (hA b off e).1 e2.symm)⟩
    · rcases hat with hat | hat
      · rw [hat]; exact (hA b off e).1
      · rw [hat]
        intro e2
        injection e2 with e2
        have := (hA b off e).2
        simp at e2
        omega
  refine ⟨⟨vs ++ [.slice Ar r.length cr], by simpa using h1, by simp [o2], fun i r' hr' => ?_⟩, hgr⟩
  rcases Nat.lt_or_ge i L.length with hi' | hi'
  · rw [List.getElem?_append_left hi'] at hr'
    obtain ⟨Ai, ci, e1, e2, e4, e3⟩ := o3 i r' hr'
    obtain ⟨k1, k2⟩ := keep e2 e3
    exact ⟨Ai, ci, by rw [List.getElem?_append_left (by omega)]; exact e1, k1, e4, k2⟩
  · rw [List.getElem?_append_right hi'] at hr'
    have hlt := (List.getElem?_eq_some_iff.1 hr').1
    simp at hlt
    have : i = L.length := by omega
    subst this
    simp at hr'
    subst hr'
    obtain ⟨k1, k2⟩ := keep hr hAr
    exact ⟨Ar, cr, by rw [List.getElem?_append_right (by omega)]; simp [o2], k1, hcr, k2⟩
theorem push_row {ops : Array Oper} {rest : List Oper} {o : Oper} {a : Act} {Q : Exit → Act → World → Prop} {wr : World} (hgd : o.guard = none) (s x : Operand)
    (ho : o.op = .call { callee := .builtin .append, args := #[s, x], argTypes := #[22, 22] }) (B : Nat) (sv : Value) (L : List (List Int)) (r : List Int) (Ar : Option Addr) (cr n : Nat) (hn : r.length = n) (hs : a.eval s = sv)
    (hx : a.eval x = .slice (some ⟨wr.heap.size, 0, none⟩) 1 1) (hown : OwnM wr B sv L) (hlen : L.length ≤ 1048576) (hB : B ≤ wr.heap.size)
    (hr : Fl wr Ar r.length 1 (gl r)) (hcr : r.length ≤ cr) (hAr : ∀ b off, Ar = some ⟨b, off, none⟩ → sv.ownBlock ≠ some b ∧ b < wr.heap.size)
    (h : ∀ v' w', OwnM w' B v' (L ++ [r]) → wr.grownBy w' sv.ownBlock → wpList Try.prog ops Q rest (a.put o.dst v') w') :
    wpList Try.prog ops Q (o :: rest) a (wr.alloc (.cells #[.slice Ar n cr] 23)) := by
  refine wpList_plain hgd fun K hK => ?_
  obtain ⟨v', w', hrun, h1, h2⟩ := run_push_row o.type B sv L r Ar cr n wr _ hn hown hlen hB hr hcr hAr rfl
  unfold Oper.wp execOp
  simp only [ho, resolve, invoke, builtin, Sem.run_bind, Sem.run_pure, Result.andThen_ok, List.map_toArray, List.map_cons, List.map_nil, hs, hx, hrun]
  exact hK _ _ (h v' w' h1 h2)
theorem step_push_row {ops : Array Oper} {o : Oper} {a : Act} {K : Act → World → Prop} {Q : Exit → Act → World → Prop} {E : Prop} {wr w1 : World} (hgd : o.guard = none) (s x : Operand)
    (ho : o.op = .call { callee := .builtin .append, args := #[s, x], argTypes := #[22, 22] }) (B : Nat) (sv : Value) (L : List (List Int)) (r : List Int) (Ar : Option Addr) (cr n : Nat) (hn : r.length = n) (hs : a.eval s = sv)
    (hx : a.eval x = .slice (some ⟨wr.heap.size, 0, none⟩) 1 1) (hown : OwnM wr B sv L) (hlen : L.length ≤ 1048576) (hB : B ≤ wr.heap.size)
    (hr : Fl wr Ar r.length 1 (gl r)) (hcr : r.length ≤ cr) (hAr : ∀ b off, Ar = some ⟨b, off, none⟩ → sv.ownBlock ≠ some b ∧ b < wr.heap.size) (hw1 : w1 = wr.alloc (.cells #[.slice Ar n cr] 23))
    (h : ∀ v' w', OwnM w' B v' (L ++ [r]) → wr.grownBy w' sv.ownBlock → K (a.put o.dst v') w') :
    if Region.wanted o (yielded ops a.tmps) = true then Oper.wp Try.prog o a w1 K Q else E := by
  have hw : Region.wanted o (yielded ops a.tmps) = true := by simp [Region.wanted, hgd]
  rw [if_pos hw]
  obtain ⟨v', w', hrun, h1, h2⟩ := run_push_row o.type B sv L r Ar cr n wr w1 hn hown hlen hB hr hcr hAr hw1
  unfold Oper.wp execOp
  simp only [ho, resolve, invoke, builtin, Sem.run_bind, Sem.run_pure, Result.andThen_ok, List.map_toArray, List.map_cons, List.map_nil, hs, hx, hrun]
  exact h v' w' h1 h2
/-- A column. -/
def colL (L : List (List Int)) (k : Nat) : List Int := L.map fun r => r.getD k 0
theorem impl_column (A : Option Addr) (c : Nat) (L : List (List Int)) (k : Nat) (w : World) (hn : L.length ≤ 1048576) (hr : ∀ r ∈ L, k < r.length ∧ r.length ≤ 1048576) (f0 : Fm w A L) :
    Calls Try.prog 63 #[.slice A L.length c, .int .i64 k] w fun e w' => ∃ s, e = .returned s ∧ OwnS w' w.heap.size s (colL L k) ∧ Below w.heap.size w w' := by
  obtain ⟨n, hn2⟩ : ∃ n, n = L.length := ⟨_, rfl⟩
  have HN := Lib.hid hn2
  simp only [← hn2] at hn ⊢
  clear hn2
  have HF := Lib.hid f0; clear f0
  have HR := Lib.hid hr; clear hr
  go_enter Try.func63, Try.ntmps63
  go_wp2_with fail
  go_loopw [5, 10] (fun s i wr => ∃ j : Nat, j ≤ n ∧ i = .int .i64 j ∧ OwnS wr w.heap.size s ((colL L k).take j) ∧ Below w.heap.size w wr) (fun _ i _ => n - (intOf i).toNat)
  case atStart => exact ⟨0, Nat.zero_le _, rfl, OwnS.nil _ _, Below.refl _ _⟩
  case round =>
    obtain ⟨j, hj, rfl, k0, hB⟩ := hrel
    have hnl := HN.out
    by_cases hjn : j < n
    · obtain ⟨r, hrk⟩ : ∃ r, L[j]? = some r := ⟨_, List.getElem?_eq_getElem (by omega)⟩
      obtain ⟨hkr, hrl⟩ := HR.out r (List.mem_of_getElem? hrk)
      have htk : (colL L k).take (j + 1) = (colL L k).take j ++ [gl r k] := by
        rw [List.take_add_one]
        simp [colL, hrk, gl]
      have HTK := Lib.hid htk; clear htk
      have htl : ((colL L k).take j).length ≤ 1048576 := by simp [colL]; omega
      obtain ⟨b, off, rfl, hc⟩ := (HF.out.below hB) (by omega)
      obtain ⟨Ai, ci, c0, f1⟩ := hc j r hrk
      obtain ⟨bi, oi, rfl, hci⟩ := f1 (by omega)
      have c1 := hci k (by omega)
      clear hc hci hnl hrk
      have hB0 := hB.size
      have hi0 : (0 : Int) ≤ (k : Int) := Int.natCast_nonneg _
      have hi1 : (k : Int) < (r.length : Int) := by omega
      have hlt := fun q h => (k0.base (g := q) h).1
      have HLT := Lib.hid hlt; clear hlt
      go_wp2_with (at_builtin; refine push_one rfl (.tmp 14) (.tmp 19) rfl w.heap.size _ _ (gl r k) rfl rfl k0 htl hB0 ?_; intro s' w2 hown hgrow; have HG := Lib.hid hgrow; clear hgrow; have HW := Lib.hid hown; clear hown)
      go_roundw
      case rel => exact ⟨j + 1, by omega, by go_num, by rw [HTK.out]; exact HW.out, hB.grown HG.out hB0 HLT.out⟩
      case measure => simp [intOf]; omega
    · obtain rfl : j = n := by omega
      have htk : (colL L k).take j = colL L k := List.take_of_length_le (by simp [colL]; omega)
      rw [htk] at k0
      have HK := Lib.hid k0; clear k0
      go_wp2_with fail
      go_ret
      exact ⟨_, rfl, HK.out, hB⟩
theorem OwnS.outc {w : World} {B : Nat} {s : Value} {l : List Int} (h : OwnS w B s l) : ∃ A c, s = .slice A l.length c ∧ Fl w A l.length 1 (gl l) ∧ (∀ b off, A = some ⟨b, off, none⟩ → B ≤ b ∧ b < w.heap.size) ∧ l.length ≤ c ∧ (A = none → c = 0) := by
  rcases h.2 with ⟨rfl, h0⟩ | ⟨g, cap, cur, rfl, hbg, hh, hl, hm, hsz, htk⟩
  · exact ⟨none, 0, by rw [h0], by rw [h0]; exact Fl.nil, (fun g off e => by cases e), by omega, fun _ => rfl⟩
  · refine ⟨some ⟨g, 0, none⟩, cap, rfl, fun _ => ⟨g, 0, rfl, fun j hj => ?_⟩, fun g' off e => ?_, hl, fun e => by cases e⟩
    · have hj' : j < l.length := by omega
      have h1 : (cur.toList.take (l.length * 1))[j]? = (l.map (Value.int .i64))[j]? := by rw [htk]
      rw [List.getElem?_take] at h1
      simp only [Nat.mul_one, hj', if_true, Array.getElem?_toList, List.getElem?_map, List.getElem?_eq_getElem hj', Option.map_some] at h1
      simp [World.cell?, hh, h1, gl, List.getElem?_eq_getElem hj']
    · injection e with e; injection e with e1 e2
      have := (Array.getElem?_eq_some_iff.1 hh).1
      omega
theorem OwnS.out {w : World} {B : Nat} {s : Value} {l : List Int} (h : OwnS w B s l) : ∃ A c, s = .slice A l.length c ∧ Fl w A l.length 1 (gl l) ∧ (∀ b off, A = some ⟨b, off, none⟩ → B ≤ b ∧ b < w.heap.size) := by
  obtain ⟨A, c, e, h1, h2, _⟩ := h.outc
  exact ⟨A, c, e, h1, h2⟩
theorem des_at {L : List (List Int)} (h : desB L = true) : (1 ≤ L.length ∧ L.length ≤ 8) ∧ (1 ≤ (L.getD 0 []).length ∧ (L.getD 0 []).length ≤ 4) ∧ (∀ r ∈ L, r.length = (L.getD 0 []).length) ∧ ∀ r ∈ L, ∀ j, j < r.length → -1 ≤ gl r j ∧ gl r j ≤ 1 := by
  simp only [desB, Bool.and_eq_true] at h
  obtain ⟨⟨h1, h2⟩, h3⟩ := h
  have h1 := inB_iff.1 h1
  have h2 := inB_iff.1 h2
  have key : ∀ r ∈ L, rowB [r, L.getD 0 []] 0 = true → True := fun _ _ _ => trivial
  have hrow : ∀ r ∈ L, r.length = (L.getD 0 []).length ∧ sgB r.length (gl r) = true := fun r hr => by
    obtain ⟨i, hi⟩ := List.getElem?_of_mem hr
    have hlt := (List.getElem?_eq_some_iff.1 hi).1
    have h4 := allN_iff.1 h3 i hlt
    simp only [rowB, Bool.and_eq_true, decide_eq_true_eq, getD_of hi] at h4
    exact h4
  refine ⟨by omega, by omega, fun r hr => (hrow r hr).1, fun r hr j hj => ?_⟩
  exact inB_iff.1 (allN_iff.1 (hrow r hr).2 j hj)
def gramV (L : List (List Int)) (i k : Nat) : Int := dotV (gl (colL L i)) (gl (colL L k)) L.length
def gramR (L : List (List Int)) (i : Nat) : List Int := (List.range (L.getD 0 []).length).map (gramV L i)
def gramL (L : List (List Int)) : List (List Int) := (List.range (L.getD 0 []).length).map (gramR L)
theorem take_map_range {α : Type} (f : Nat → α) (m j : Nat) (hj : j < m) : ((List.range m).map f).take (j + 1) = ((List.range m).map f).take j ++ [f j] := by
  rw [List.take_add_one]
  simp [hj]
set_option maxRecDepth 100000 in
theorem impl_GramOf (A : Option Addr) (c : Nat) (L : List (List Int)) (w : World) (hd : desB L = true) (f0 : Fm w A L) :
    Calls Try.prog 55 #[.slice A L.length c] w fun e w' => ∃ s, e = .returned s ∧ OwnM w' w.heap.size s (gramL L) ∧ Below w.heap.size w w' := by
  obtain ⟨⟨hL1, hL8⟩, ⟨hm1, hm4⟩, hrl, _⟩ := des_at hd
  have hr2 : ∀ r ∈ L, r.length ≤ 1048576 := fun r hr => by have := hrl r hr; omega
  have hDes := fun w f => impl_DesignOk A c L w (by omega) hr2 f
  rw [hd] at hDes
  obtain ⟨m, hm⟩ : ∃ m, m = (L.getD 0 []).length := ⟨_, rfl⟩
  rw [← hm] at hm1 hm4 hrl
  have HM := Lib.hid hm; clear hm
  have HRL := Lib.hid hrl; clear hrl
  have hCol := fun i w (hi : i < m) f => impl_column A c L i w (by omega) (fun r hr => ⟨by have := HRL.out r hr; omega, hr2 r hr⟩) f
  have HF := Lib.hid f0
  obtain ⟨n, hn2⟩ : ∃ n, n = L.length := ⟨_, rfl⟩
  have HN := Lib.hid hn2
  simp only [← hn2] at hL1 hL8 hDes hCol ⊢
  clear hn2 hd
  obtain ⟨b, off, rfl, hc⟩ := f0 (by have := HN.out; omega)
  obtain ⟨r0, hr0⟩ : ∃ r, L[0]? = some r := ⟨_, List.getElem?_eq_getElem (by have := HN.out; omega)⟩
  obtain ⟨Ai, ci, c0, _⟩ := hc 0 r0 hr0
  have hr0m : r0.length = m := HRL.out r0 (List.mem_of_getElem? hr0)
  rw [Nat.add_zero, hr0m] at c0
  clear hc hr0 hr0m
  have hgl : gramL L = (List.range m).map (gramR L) := by unfold gramL; rw [← HM.out]
  have hgr : ∀ i, gramR L i = (List.range m).map (gramV L i) := fun i => by unfold gramR; rw [← HM.out]
  have HGL := Lib.hid hgl; clear hgl
  have HGR := Lib.hid hgr; clear hgr
  have hn0 : (0 : Int) < (n : Int) := by omega
  go_enter Try.func55, Try.ntmps55
  go_wp2_with (go_at_call 52; (with_reducible refine (hDes _ f0).mono ?_); rintro _ _ ⟨rfl, rfl⟩)
  clear hDes f0
  go_loopw [3, 14] (fun s i wr => ∃ j : Nat, j ≤ m ∧ i = .int .i64 j ∧ OwnM wr w.heap.size s ((gramL L).take j) ∧ Below w.heap.size w wr) (fun _ i _ => m - (intOf i).toNat)
  case atStart => exact ⟨0, Nat.zero_le _, rfl, OwnM.nil _ _, Below.refl _ _⟩
  case round =>
    obtain ⟨j, hj, rfl, k0, hB⟩ := hrel
    by_cases hjm : j < m
    · have c1 := below_cell hB c0
      have htk : (gramL L).take (j + 1) = (gramL L).take j ++ [gramR L j] := by rw [HGL.out]; exact take_map_range _ _ _ hjm
      have HTK := Lib.hid htk; clear htk
      have HK0 := Lib.hid k0; clear k0
      obtain ⟨W, hW⟩ : ∃ W, W = wr := ⟨_, rfl⟩
      have HB := Lib.hid hB
      have hW0 := hB.size
      go_wp2_with fail
      rw [← hW]
      go_loopw [5, 21] (fun s i wr => ∃ k : Nat, k ≤ m ∧ i = .int .i64 k ∧ OwnS wr W.heap.size s ((gramR L j).take k) ∧ Below W.heap.size W wr) (fun _ i _ => m - (intOf i).toNat)
      case atStart => exact ⟨0, Nat.zero_le _, rfl, OwnS.nil _ _, Below.refl _ _⟩
      case round =>
        obtain ⟨k, hk, rfl, p0, hB2⟩ := hrel
        by_cases hkm : k < m
        · have htk : (gramR L j).take (k + 1) = (gramR L j).take k ++ [gramV L j k] := by rw [HGR.out]; exact take_map_range _ _ _ hkm
          have HTK2 := Lib.hid htk; clear htk
          have hf0 : Fm wr (some ⟨b, off, none⟩) L := HF.out.below (below_step (by rw [hW]; exact HB.out) hB2)
          go_wp2_with fail
          with_reducible refine (hCol j _ hjm hf0).mono ?_
          rintro _ w1 ⟨s1, rfl, o1, hb1⟩
          replace p0 := p0.below hb1
          replace hB2 := below_step hB2 hb1
          replace hf0 := hf0.below hb1
          go_wp2_with fail
          with_reducible refine (hCol k _ hkm hf0).mono ?_
          rintro _ w2 ⟨s2, rfl, o2, hb2⟩
          replace p0 := p0.below hb2
          replace hB2 := below_step hB2 hb2
          replace o1 := o1.below hb2
          obtain ⟨A1, d1, rfl, f1, _⟩ := o1.out
          obtain ⟨A2, d2, rfl, f2, _⟩ := o2.out
          have hl1 : (colL L j).length = n := by rw [HN.out]; simp [colL]
          have hl2 : (colL L k).length = n := by rw [HN.out]; simp [colL]
          rw [hl1] at f1
          rw [hl2] at f2
          have hP := fun w f g => impl_product A1 A2 n n d1 d2 (gl (colL L j)) (gl (colL L k)) w (by omega) (Nat.le_refl _) f g
          have hgv : dotV (gl (colL L j)) (gl (colL L k)) n = gramV L j k := by unfold gramV; rw [← HN.out]
          rw [hgv] at hP
          rw [hl1, hl2]
          clear hb1 hb2 o1 o2 hl1 hl2 hgv hf0
          go_wp2_with fail
          with_reducible refine (hP _ f1 f2).mono ?_
          rintro _ w3 ⟨rfl, hb3⟩
          replace p0 := p0.below hb3
          replace hB2 := below_step hB2 hb3
          clear hb3 f1 f2 hP
          have htl : ((gramR L j).take k).length ≤ 1048576 := by rw [HGR.out]; simp; omega
          have hB0 := hB2.size
          have hlt := fun q h => (p0.base (g := q) h).1
          have HLT := Lib.hid hlt; clear hlt
          go_wp2_with (at_builtin; refine push_one rfl (.tmp 24) (.tmp 32) rfl W.heap.size _ _ (gramV L j k) rfl rfl p0 htl hB0 ?_; intro s' w4 hown hgrow; have HG := Lib.hid hgrow; clear hgrow; have HW := Lib.hid hown; clear hown)
          go_roundw
          case rel => exact ⟨k + 1, by omega, by go_num, by rw [HTK2.out]; exact HW.out, hB2.grown HG.out hB0 HLT.out⟩
          case measure => simp [intOf]; omega
        · obtain rfl : k = m := by omega
          have htk : (gramR L j).take k = gramR L j := List.take_of_length_le (by rw [HGR.out]; simp)
          rw [htk] at p0
          obtain ⟨A1, d1, rfl, f1, hA1, hd1, _⟩ := p0.outc
          have m0 : OwnM wr w.heap.size _ ((gramL L).take j) := HK0.out.below (by rw [← hW]; exact hB2)
          have hgl2 : ((gramL L).take j).length ≤ 1048576 := by rw [HGL.out]; simp; omega
          have hAr : ∀ b2 off2, A1 = some ⟨b2, off2, none⟩ → Value.ownBlock _ ≠ some b2 ∧ b2 < wr.heap.size := fun b2 off2 e => ⟨fun e2 => by have := (HK0.out.base e2).2; have := (hA1 b2 off2 e).1; rw [hW] at this; omega, (hA1 b2 off2 e).2⟩
          have HAR := Lib.hid hAr; clear hAr
          have hsz : w.heap.size ≤ wr.heap.size := by have := hB2.size; rw [hW] at this; omega
          have hbw : Below w.heap.size w wr := below_step HB.out (by rw [← hW]; exact hB2)
          have HBW := Lib.hid hbw; clear hbw
          have hlt := fun q h => (m0.base (g := q) h).1
          have HLT := Lib.hid hlt; clear hlt
          have HM0 := Lib.hid m0; clear m0
          have HF1 := Lib.hid f1; clear f1
          clear hA1 p0 hB2 hB hW HK0 HB
          go_wp2_with (at_builtin; refine push_row rfl (.tmp 35) (.tmp 37) rfl w.heap.size _ ((gramL L).take j) (gramR L j) A1 d1 _ rfl rfl rfl HM0.out hgl2 hsz HF1.out hd1 HAR.out ?_; intro s' w4 hown hgrow; have HG := Lib.hid hgrow; clear hgrow; have HW := Lib.hid hown; clear hown)
          go_roundw
          case rel => exact ⟨j + 1, by omega, by go_num, by rw [HTK.out]; exact HW.out, HBW.out.grown HG.out hsz HLT.out⟩
          case measure => simp [intOf]; omega
    · obtain rfl : j = m := by omega
      have htk : (gramL L).take j = gramL L := List.take_of_length_le (by rw [HGL.out]; simp)
      rw [htk] at k0
      have HK := Lib.hid k0; clear k0
      go_wp2_with fail
      go_ret
      exact ⟨_, rfl, HK.out, hB⟩
end Go.Proofs.Ytmnmnkenboejpaa
