/- The contracts of copyInts and way. -/
import Derived.Test.YtfgkglbhbdfpfaaMapR
import Derived.Laws.AppendOwn
import Derived.Laws.AppendOwnNone
namespace Go.Proofs.Ytfgkglbhbdfpfaa
open Go.RowKit
set_option linter.unusedSimpArgs false
set_option linter.unusedVariables false
set_option maxHeartbeats 4000000
/-- The slice value s owns, from block B on, the list l. -/
def OwnS (w : World) (B : Nat) (s : Value) (l : List Int) : Prop := w.ownsRow B 3 1 s l.length (l.map (Value.int .i64))
theorem OwnS.base {w : World} {B g : Nat} {s : Value} {l : List Int} (h : OwnS w B s l) (hg : s.ownBlock = some g) : B ≤ g ∧ g < w.heap.size := by
  rcases h.2 with ⟨rfl, _⟩ | ⟨g', cap, cur, rfl, hb, hh, _⟩
  · simp [Value.ownBlock] at hg
  · simp [Value.ownBlock] at hg
    subst hg
    exact ⟨hb, (Array.getElem?_eq_some_iff.1 hh).1⟩
theorem OwnS.below {w w' : World} {B : Nat} {s : Value} {l : List Int} (h : OwnS w B s l) (hb : Below w.heap.size w w') : OwnS w' B s l := by
  refine ⟨h.1, ?_⟩
  rcases h.2 with h0 | ⟨g, cap, cur, rfl, hB, hh, r⟩
  · exact Or.inl h0
  · exact Or.inr ⟨g, cap, cur, rfl, hB, (hb.block g (Array.getElem?_eq_some_iff.1 hh).1).trans hh, r⟩
theorem OwnS.way {w : World} {B B' b t : Nat} {s : Value} {l : List Int} (h : OwnS w B s l) (hB : B' ≤ B) (hb : b < B) (ht : t < B) : Way w B' b t s l := by
  rcases h.2 with ⟨rfl, h0⟩ | ⟨g, cap, cur, rfl, hbg, hh, hl, hm, hsz, htk⟩
  · refine ⟨none, 0, by rw [h0], fun _ => rfl, by rw [h0]; exact Fl.nil, fun g off e => by cases e⟩
  · refine ⟨some ⟨g, 0, none⟩, cap, rfl, (fun e => by cases e), fun _ => ⟨g, 0, rfl, fun j hj => ?_⟩, fun g' off e => ?_⟩
    · have hj' : j < l.length := by omega
      have h1 : (cur.toList.take (l.length * 1))[j]? = (l.map (Value.int .i64))[j]? := by rw [htk]
      rw [List.getElem?_take] at h1
      simp only [Nat.mul_one, hj', if_true, Array.getElem?_toList, List.getElem?_map, List.getElem?_eq_getElem hj', Option.map_some] at h1
      simp [World.cell?, hh, h1, List.getElem?_eq_getElem hj']
    · injection e with e; injection e with e1 e2
      have := (Array.getElem?_eq_some_iff.1 hh).1
      omega
/-- One number appended to a slice of the call's own: the number stands in a new block of one cell. -/
theorem push_one {ops : Array Oper} {rest : List Oper} {o : Oper} {a : Act} {Q : Exit → Act → World → Prop} {wr : World} (hgd : o.guard = none) (s x : Operand)
    (ho : o.op = .call { callee := .builtin .append, args := #[s, x], argTypes := #[53, 53] }) (B : Nat) (sv : Value) (l : List Int) (y : Int) (hs : a.eval s = sv)
    (hx : a.eval x = .slice (some ⟨wr.heap.size, 0, none⟩) 1 1) (hown : OwnS wr B sv l) (hlen : l.length ≤ 1048576) (hB : B ≤ wr.heap.size)
    (h : ∀ v' w', OwnS w' B v' (l ++ [y]) → wr.grownBy w' sv.ownBlock → wpList Try.prog ops Q rest (a.put o.dst v') w') :
    wpList Try.prog ops Q (o :: rest) a (wr.alloc (.cells #[.int .i64 y] 3)) := by
  obtain ⟨i0, hi, hz0, hz1, hz2⟩ := info_parts infoInt
  refine wpList_append_own _ hgd s x 53 ho B 3 i0 (.int .i64 0) 1 8 Try.underlying53 hi hz0 hz1 hz2 rfl (by decide) sv l.length (l.map (Value.int .i64)) hs (World.ownsRow.alloc hown _) ⟨wr.heap.size, 0, none⟩ 1 1 [.int .i64 y] hx rfl
    ?_ ?_ ?_ ?_ ?_ ?_
  · intro j u hj
    match j, hj with
    | 0, hj => simp at hj; subst hj; simp [Addr.add]
  · intro u hu; simp at hu; subst hu; rfl
  · unfold maxLen; omega
  · omega
  · simp; omega
  · intro v' w' h1 h2 _
    refine h v' w' ?_ ?_
    · unfold OwnS; simpa using h1
    · have h3 : wr.grownBy (wr.alloc (.cells #[.int .i64 y] 3)) none := World.grownBy_alloc wr _ none
      refine ⟨h2.os.trans h3.os, h2.tape.trans h3.tape, h2.output.trans h3.output, Nat.le_trans h3.size h2.size, fun k hk hne => ?_⟩
      rw [h2.block k (Nat.lt_of_lt_of_le hk h3.size) hne, h3.block k hk (by simp)]
/-- A list of numbers appended to nil. -/
theorem push_all {ops : Array Oper} {rest : List Oper} {o : Oper} {a : Act} {Q : Exit → Act → World → Prop} {w : World} (hgd : o.guard = none) (s x : Operand)
    (ho : o.op = .call { callee := .builtin .append, args := #[s, x], argTypes := #[53, 53] }) (A : Option Addr) (c : Nat) (l : List Int) (hs : a.eval s = .slice none 0 0)
    (hx : a.eval x = .slice A l.length c) (hF : Fl w A l.length 1 (fun j => l.getD j 0)) (hc0 : A = none → c = 0) (hlen : l.length ≤ 1048576)
    (h : ∀ v' w', OwnS w' w.heap.size v' l → Below w.heap.size w w' → wpList Try.prog ops Q rest (a.put o.dst v') w') : wpList Try.prog ops Q (o :: rest) a w := by
  obtain ⟨i0, hi, hz0, hz1, hz2⟩ := info_parts infoInt
  have hcells : ∀ ad, A = some ad → ∀ j u, (l.map (Value.int .i64))[j]? = some u → w.cell? (ad.add j) = some u := by
    intro ad hA j u hj
    have hjl : j < l.length := by
      have := (List.getElem?_eq_some_iff.1 hj).1
      simpa using this
    obtain ⟨g, off, hA2, hc⟩ := hF (by omega)
    have : ad = ⟨g, off, none⟩ := Option.some.inj (hA.symm.trans hA2)
    subst this
    have h2 := hc j (by omega)
    rw [Addr.add_lit, h2]
    simp only [List.getElem?_map, List.getElem?_eq_getElem hjl, Option.map_some, Option.some.injEq] at hj
    rw [← hj]
    simp [List.getElem?_eq_getElem hjl]
  cases A with
  | some ad =>
    refine wpList_append_own _ hgd s x 53 ho w.heap.size 3 i0 (.int .i64 0) 1 8 Try.underlying53 hi hz0 hz1 hz2 rfl (by decide) (.slice none 0 0) 0 [] hs (World.ownsRow_nil _ _ _ _) ad l.length c (l.map (Value.int .i64)) hx (by simp)
      (hcells ad rfl) ?_ ?_ ?_ ?_ ?_
    · intro u hu
      obtain ⟨y, _, rfl⟩ := List.mem_map.1 hu
      rfl
    · unfold maxLen; omega
    · omega
    · exact Nat.le_refl _
    · intro v' w' h1 h2 _
      refine h v' w' ?_ ⟨h2.os, h2.tape, h2.output, h2.size, fun k hk => h2.block k hk (by simp [Value.ownBlock])⟩
      unfold OwnS; simpa using h1
  | none =>
    have hl : l = [] := by
      rcases Nat.eq_zero_or_pos l.length with h0 | h0
      · exact List.eq_nil_of_length_eq_zero h0
      · obtain ⟨g, off, e, _⟩ := hF h0; cases e
    subst hl
    obtain rfl := hc0 rfl
    exact wpList_append_own_none hgd s x 53 ho w.heap.size 3 i0 1 Try.underlying53 hi (.slice none 0 0) 0 [] hs (World.ownsRow_nil _ _ _ _) hx (h _ _ (World.ownsRow_nil _ _ _ _) (Below.refl _ _))
theorem push_q {ops : Array Oper} {rest : List Oper} {o : Oper} {a : Act} {Q : Exit → Act → World → Prop} {wr : World} (hgd : o.guard = none) (s x : Operand)
    (ho : o.op = .call { callee := .builtin .append, args := #[s, x], argTypes := #[53, 53] }) (B t : Nat) (sv : Value) (l : List Int) (y : Int) (hs : a.eval s = sv)
    (hx : a.eval x = .slice (some ⟨wr.heap.size, 0, none⟩) 1 1) (hq : Que wr B t sv l) (hlen : l.length ≤ 1048576) (hB : B ≤ wr.heap.size)
    (h : ∀ v' w' t', Que w' B t' v' (l ++ [y]) → (t' = t ∨ wr.heap.size ≤ t') → wr.grownBy w' (some t) → wpList Try.prog ops Q rest (a.put o.dst v') w') :
    wpList Try.prog ops Q (o :: rest) a (wr.alloc (.cells #[.int .i64 y] 3)) := by
  obtain ⟨i0, hi, hz0, hz1, hz2⟩ := info_parts infoInt
  have htl := hq.lt
  have hq0 := hq
  obtain ⟨off, cap, cur, rfl, hBt, hb, hc, hcm, hsz, hv⟩ := hq
  have hg3 : wr.grownBy (wr.alloc (.cells #[.int .i64 y] 3)) (some t) := World.grownBy_alloc wr _ _
  have hb1 : (wr.alloc (.cells #[.int .i64 y] 3)).heap[t]? = some (.cells cur 3 (0, 0)) := (heap_alloc_old wr _ htl).trans hb
  have hnews : ∀ j u, [Value.int .i64 y][j]? = some u → (wr.alloc (.cells #[.int .i64 y] 3)).cell? ((⟨wr.heap.size, 0, none⟩ : Addr).add j) = some u := by
    intro j u hj
    match j, hj with
    | 0, hj => simp at hj; subst hj; simp [Addr.add]
  refine wpList_plain hgd fun K hK => ?_
  by_cases hroom : l.length + 1 ≤ cap
  · have hr := run_append_room_cells (P := Try.prog) (wr.alloc (.cells #[.int .i64 y] 3)) 53 o.type 3 i0 Try.underlying53 hi t off l.length cap ⟨wr.heap.size, 0, none⟩ 1 1 [.int .i64 y] (by simp [hz1]) hnews (by intro u hu; simp at hu; subst hu; rfl) hroom
      (fun j hj => by
        have : j = 0 := by simpa using hj
        subst this
        have hlt : off + l.length * i0.size + 0 < cur.size := by rw [hz1]; omega
        have : ∃ u, cur[off + l.length * i0.size + 0]? = some u := ⟨_, Array.getElem?_eq_getElem hlt⟩
        obtain ⟨u, hu⟩ := this
        unfold World.cell?
        simp [hb1]
        omega) (fun j hj => by simp [World.frozen?, hb1])
    unfold Oper.wp execOp
    simp only [ho, resolve, invoke, builtin, Sem.run_bind, Sem.run_pure, Result.andThen_ok, List.map_toArray, List.map_cons, List.map_nil, hs, hx, hr]
    refine hK _ _ (h _ _ t ?_ (Or.inl rfl) ?_)
    · refine ⟨off, cap, cur.setIfInBounds (off + l.length) (.int .i64 y), by simp, hBt, ?_, by simpa using hroom, hcm, by simpa using hsz, fun j hj => ?_⟩
      · simp [World.setCells, World.setCell, Array.getElem?_modify, hb1, hz1]
      · simp at hj
        rw [Array.getElem?_setIfInBounds]
        rcases Nat.lt_or_ge j l.length with h1 | h1
        · rw [if_neg (by omega), hv j h1]
          simp only [List.getD]
          rw [List.getElem?_append_left h1]
        · have : j = l.length := by omega
          subst this
          have : off + l.length < cur.size := by omega
          simp [this]
    · exact only_set hg3 _ _
  · obtain ⟨v', w', hr, ho', hgr⟩ := run_append_arg_grows (P := Try.prog) (wr.alloc (.cells #[.int .i64 y] 3)) 53 o.type 3 i0 (.int .i64 0) 1 8 Try.underlying53 hi hz0 hz1 hz2 rfl (by decide) ⟨t, off, none⟩ l.length cap (l.map (Value.int .i64)) (by simp)
      (fun j u hj => by
        have hjl : j < l.length := by
          have := (List.getElem?_eq_some_iff.1 hj).1
          simpa using this
        rw [Addr.add_lit]
        simp only [List.getElem?_map, List.getElem?_eq_getElem hjl, Option.map_some, Option.some.injEq] at hj
        have h2 := hv j hjl
        simp only [World.cell?, hb1, h2, ← hj]
        simp [List.getElem?_eq_getElem hjl]) ⟨wr.heap.size, 0, none⟩ 1 1 [.int .i64 y] rfl hnews (by omega) (by unfold maxLen; omega) (by omega)
    unfold Oper.wp execOp
    simp only [ho, resolve, invoke, builtin, Sem.run_bind, Sem.run_pure, Result.andThen_ok, List.map_toArray, List.map_cons, List.map_nil, hs, hx, hr]
    rcases ho'.2 with ⟨rfl, h0⟩ | ⟨g, cap', cur', rfl, hbg, hh, hl', hm', hsz', htk⟩
    · omega
    · have hge : wr.heap.size ≤ g := by have := hbg; simp at this; omega
      refine hK _ _ (h _ _ g ?_ (Or.inr hge) ?_)
      · refine ⟨0, cap', cur', by simp, Nat.le_trans hB hge, hh, by simpa using hl', hm', by omega, fun j hj => ?_⟩
        have hj' : j < (l ++ [y]).length := hj
        have h1 : (cur'.toList.take ((l.length + 1) * 1))[j]? = (l.map (Value.int .i64) ++ [.int .i64 y])[j]? := by rw [htk]
        rw [List.getElem?_take] at h1
        have hj2 : j < (l.length + 1) * 1 := by simp at hj'; omega
        simp only [hj2, if_true, Array.getElem?_toList] at h1
        rw [Nat.zero_add, h1, show l.map (Value.int .i64) ++ [Value.int .i64 y] = (l ++ [y]).map (Value.int .i64) by simp]
        simp only [List.getElem?_map, List.getD, List.getElem?_eq_getElem hj', Option.map_some, Option.getD_some]
      · exact ⟨hgr.os.trans hg3.os, hgr.tape.trans hg3.tape, hgr.output.trans hg3.output, Nat.le_trans hg3.size hgr.size, fun k hk hne => (hgr.block k (Nat.lt_of_lt_of_le hk hg3.size) (by simp)).trans (hg3.block k hk hne)⟩
theorem impl_copyInts (A : Option Addr) (c : Nat) (l : List Int) (w : World) (hF : Fl w A l.length 1 (fun j => l.getD j 0)) (hc0 : A = none → c = 0) (hlen : l.length ≤ 1048576) :
    Calls Try.prog 42 #[.slice A l.length c] w fun e w' => ∃ s, e = .returned s ∧ OwnS w' w.heap.size s l ∧ Below w.heap.size w w' := by
  go_enter Try.func42, Try.ntmps42
  go_wp2_with (at_builtin; refine push_all rfl (.const (.slice none 0 0)) (.tmp 3) rfl A c l rfl rfl hF hc0 hlen ?_; intro s' w1 hown hb)
  go_ret
  exact ⟨s', by simp, hown, hb⟩
theorem run_tail (t off N cap : Nat) (h : N + 1 ≤ cap) : ∃ off1, (off1 = off + 1 ∨ N = 0 ∧ off1 = off) ∧ ∀ w, (Instr.sliceAt 53 (.slice (some ⟨t, off, none⟩) (N + 1) cap) (some (.int .i64 1)) none none).run Try.prog w = .ok (.slice (some ⟨t, off1, none⟩) N (cap - 1)) w := by
  have hs : (Try.prog.info? 3).map (·.size) = some 1 := by kernel_rfl
  have hcs : (0 : Int) ≤ (N : Int) := Int.natCast_nonneg _
  by_cases h1 : cap = 1
  · subst h1
    refine ⟨off, Or.inr ⟨by omega, rfl⟩, fun w => ?_⟩
    simp [go_sem, Try.underlying53]
    intro h2
    omega
  · refine ⟨off + 1, Or.inl rfl, fun w => ?_⟩
    simp [go_sem, Try.underlying53]
    rw [if_pos (by omega), if_neg h1]
theorem wpList_sl {ops : Array Oper} {rest : List Oper} {o : Oper} {a : Act} {Q : Exit → Act → World → Prop} {w : World} (hg : o.guard = none) (x lo : Operand) (hop : o.op = Op.slice 53 x (some lo) none none)
    {xv lv r : Value} (hx : a.eval x = xv) (hl : a.eval lo = lv) (hrun : ∀ w, (Instr.sliceAt 53 xv (some lv) none none).run Try.prog w = .ok r w) (hK : wpList Try.prog ops Q rest (a.put o.dst r) w) : wpList Try.prog ops Q (o :: rest) a w := by
  refine wpList_plain hg fun K' hK' => ?_
  unfold Oper.wp
  simp [execOp, hop, hx, hl, hrun, Result.andThen]
  exact hK' _ _ hK
def mapLen (w : World) (b : Nat) : Nat := match w.heap[b]? with | some (.map es _) => es.size | _ => 0
def lenV : Value → Nat
  | .slice _ n _ => n
  | _ => 0
theorem MapR.len {w : World} {B b t : Nat} {R : List Rec} (h : MapR w B b t R) : mapLen w b = R.length := by
  obtain ⟨es, clock, hb, hB, hs, hE⟩ := h
  simp [mapLen, hb, hs]
theorem Que.len {w : World} {B t : Nat} {s : Value} {l : List Int} (h : Que w B t s l) : lenV s = l.length := by
  obtain ⟨off, cap, cur, rfl, _⟩ := h
  rfl
theorem MapR.start (w : World) (b : Nat) (t : Nat) (hb : w.heap[b]? = some (.map #[] 0)) {B : Nat} (hB : B ≤ b) : MapR w B b t [] :=
  ⟨#[], 0, hb, hB, rfl, fun j r hj => by simp at hj⟩
theorem ratB_at {n : Nat} {v : Nat → Int} (h : ratB n v = true) {k : Nat} (hk : k < n) : (0 ≤ v (k * 4) ∧ v (k * 4) ≤ 9) ∧ (0 ≤ v (k * 4 + 1) ∧ v (k * 4 + 1) ≤ 9) ∧ v (k * 4) ≠ v (k * 4 + 1) ∧ frB (v (k * 4 + 2)) (v (k * 4 + 3)) = true ∧ 0 < v (k * 4 + 2) := by
  simp only [ratB, Bool.and_eq_true] at h
  have := allN_iff.1 h.2 k hk
  simp only [ratP, Bool.and_eq_true, inB, decide_eq_true_eq, Bool.not_eq_true', beq_eq_false_iff_ne] at this
  obtain ⟨⟨⟨⟨h1, h2⟩, h3⟩, h4⟩, h5⟩ := this
  exact ⟨h1, h2, h3, h4, h5⟩
/-- A unit is put in: the map, the queue and the old memory behind it. -/
theorem put_new {w W1 w3 w4 : World} {B b t : Nat} {R : List Rec} {s3 s4 sq : Value} {p l : List Int} {x : Int} {i : Int} (m1 : MapR W1 B b t R) (q1 : Que W1 B t sq l) (o3 : OwnS w3 W1.heap.size s3 p) (hb3 : Below W1.heap.size W1 w3) (o4 : OwnS w4 W1.heap.size s4 (p ++ [i])) (hg4 : w3.grownBy w4 s3.ownBlock)
    (hx : ∀ (j : Nat) (r : Rec), R[j]? = some r → r.x ≠ x) (h k : Nat) (hbt : b ≠ t) (hBb : B ≤ W1.heap.size) (hB : Below w.heap.size w W1) (hwb : w.heap.size ≤ b) :
    ∃ w5, (Instr.mapUpdate 62 (.map (some b)) (.int .i64 x) s4).run Try.prog w4 = .ok () w5 ∧ MapR w5 B b t (R ++ [⟨x, p ++ [i], h, k⟩]) ∧ Que w5 B t sq l ∧ Below w.heap.size w w5 := by
  have h14 : Below W1.heap.size W1 w4 := hb3.grown hg4 hb3.size (fun q hq => (o3.base hq).1)
  have g14 : W1.grownBy w4 none := ⟨h14.os, h14.tape, h14.output, h14.size, fun k hk _ => h14.block k hk⟩
  have m4 := m1.kept g14 (fun q e => by cases e) hbt t (Or.inl rfl)
  have q4 := q1.kept g14 (by simp)
  obtain ⟨w5, hp, m5, g5⟩ := m4.put hx (o4.way hBb m1.lt q1.lt) h k hbt
  refine ⟨w5, hp, m5, q4.kept g5 (fun e => hbt (by injection e)), (below_step hB h14).grown g5 (Nat.le_trans hB.size h14.size) (fun q e => by injection e with e; omega)⟩
/-- What a call of way leaves. -/
def WayR (v : Nat → Int) (n : Nat) (a d : Int) (w : World) (e : Ending) (w' : World) : Prop := ∃ R : List Rec, Bfs v n a R.length 0 R ∧
      ((∃ (j : Nat) (r : Rec) (A' : Option Addr) (c' : Nat), R[j]? = some r ∧ r.x = d ∧ e = .returned (.tuple #[.slice A' r.p.length c', .bool true]) ∧ Fl w' A' r.p.length 1 (fun j => r.p.getD j 0)) ∨ ((∀ (j : Nat) (r : Rec), R[j]? = some r → r.x ≠ d) ∧ e = .returned (.tuple #[.slice none 0 0, .bool false]))) ∧ Below w.heap.size w w'
theorem impl_way (A : Option Addr) (n c : Nat) (v : Nat → Int) (a d : Int) (w : World) (ha : 0 ≤ a ∧ a ≤ 9) (hd : 0 ≤ d ∧ d ≤ 9) (hr : ratB n v = true) (f0 : Fl w A n 4 v) :
    Calls Try.prog 35 #[.slice A n c, .int .i64 a, .int .i64 d] w (WayR v n a d w) := by
  have hn : n ≤ 12 := by simp [ratB] at hr; omega
  have hmm := @run_makeMap Try.prog
  have m0 : MapR (w.alloc (.map #[] 0)) w.heap.size w.heap.size (w.heap.size + 1) [] := MapR.start _ _ _ (heap_alloc_new w _) (Nat.le_refl _)
  obtain ⟨w0, hrun, m1, hg1⟩ := m0.put (x := a) (by intro j r hj; simp at hj) (s := .slice none 0 0) (p := []) ⟨none, 0, rfl, fun _ => rfl, Fl.nil, fun g off e => by cases e⟩ 0 0 (by omega)
  have HF := Lib.hid f0; clear f0
  have HR := Lib.hid hr; clear hr
  clear m0
  go_enter Try.func35, Try.ntmps35
  go_wp2_with (refine wpList_put rfl (.tmp 18) (.tmp 19) (.const (.slice none 0 0)) (by first | exact Or.inl rfl | exact Or.inr rfl) rfl rfl rfl hrun ?_)
  have bw0 : Below w.heap.size w w0 := (below_alloc (Below.refl _ _) (.map #[] 0)).grown hg1 (by simp) (fun q e => by injection e with e; omega)
  have hga : w0.grownBy (w0.alloc (.cells #[.int .i64 a] 3)) none := World.grownBy_alloc w0 _ none
  have hlw : w.heap.size < w0.heap.size := by have := hg1.size; simp at this; omega
  have m2 := m1.kept hga (fun q e => by cases e) (by omega) w0.heap.size (Or.inr (Nat.le_refl _))
  have q2 : Que (w0.alloc (.cells #[.int .i64 a] 3)) w.heap.size w0.heap.size (.slice (some ⟨w0.heap.size, 0, none⟩) 1 1) [a] :=
    ⟨0, 1, #[.int .i64 a], rfl, by omega, heap_alloc_new w0 _, Nat.le_refl _, by unfold maxLen; omega, by simp, fun j hj => by
      have : j = 0 := by simpa using hj
      subst this; simp⟩
  have B2 := below_alloc bw0 (.cells #[.int .i64 a] 3)
  clear m1 hga bw0 hg1 hrun hmm
  have HB2 := Lib.hid B2; clear B2
  go_loopw [9] (fun s wr => ∃ (h : Nat) (R : List Rec) (t : Nat), Bfs v n a h 0 R ∧ h ≤ R.length ∧ MapR wr w.heap.size w.heap.size t R ∧ Que wr w.heap.size t s ((R.map Rec.x).drop h) ∧ w.heap.size < t ∧ Below w.heap.size w wr) (fun s wr => 10 - (mapLen wr w.heap.size - lenV s))
  case atStart => exact ⟨0, [⟨a, [], 0, 0⟩], w0.heap.size, Bfs.start v n ha, by simp, m2, q2, hlw, HB2.out⟩
  case round =>
    clear m2 q2 hlw
    obtain ⟨h, R, t, hbf, hh, m0, q0, ht, hB⟩ := hrel
    have HBF := Lib.hid hbf; clear hbf
    by_cases hhl : h < R.length
    · obtain ⟨r, hrr⟩ : ∃ r, R[h]? = some r := ⟨_, List.getElem?_eq_getElem hhl⟩
      have hdr : (R.map Rec.x).drop h = r.x :: (R.map Rec.x).drop (h + 1) := by
        rw [List.drop_eq_getElem_cons (by simpa using hhl)]
        have : R[h] = r := by rw [List.getElem?_eq_getElem hhl] at hrr; exact Option.some.inj hrr
        simp [this]
      rw [hdr] at q0
      have HD := Lib.hid hdr; clear hdr
      have HRR := Lib.hid hrr; clear hrr
      obtain ⟨off, cap, cur, rfl, hBt, hb, hc, hcm, hsz, hv⟩ := q0
      have c0 : wr.cell? ⟨t, off, none⟩ = some (.int .i64 r.x) := by
        have := hv 0 (by simp)
        simp [World.cell?, hb, show cur[off]? = _ from this]
      obtain ⟨off1, ho1, hrun1⟩ := run_tail t off (R.length - (h + 1)) cap (by simp at hc; omega)
      have q1 : Que wr w.heap.size t (.slice (some ⟨t, off1, none⟩) (R.length - (h + 1)) (cap - 1)) ((R.map Rec.x).drop (h + 1)) := by
        refine ⟨off1, cap - 1, cur, by simp, hBt, hb, by simp at hc ⊢; omega, by omega, by simp at hc; omega, fun j hj => ?_⟩
        have := hv (j + 1) (by simp at hj ⊢; omega)
        rw [show off1 + j = off + (j + 1) by simp at hj; omega, this]
        simp [List.getD]
      obtain ⟨N, hN⟩ : ∃ N, N = R.length - (h + 1) := ⟨_, rfl⟩
      have hN2 : ((R.map Rec.x).drop (h + 1)).length = N := by simp [hN]
      have hcN : N + 1 ≤ cap := by simp at hc; omega
      rw [← hN] at q1 hrun1
      rw [List.length_cons, hN2]
      have HN := Lib.hid hN; clear hN
      have HN2 := Lib.hid hN2; clear hN2
      clear hv hb hc
      have hM0 := m0.len
      have hcs : (0 : Int) ≤ (N : Int) := Int.natCast_nonneg _
      go_wp2_with (refine wpList_sl rfl (.tmp 29) (.const (.int .i64 1)) rfl rfl rfl hrun1 ?_)
      clear hrun1 ho1
      go_loopw [9, 33] (fun s i wr => ∃ (k : Nat) (R' : List Rec) (t : Nat), k ≤ n ∧ i = .int .i64 k ∧ Go.RowKit.Hid (Bfs v n a h k R' ∧ R'[h]? = some r) ∧ MapR wr w.heap.size w.heap.size t R' ∧ Que wr w.heap.size t s ((R'.map Rec.x).drop (h + 1)) ∧ w.heap.size < t ∧ Below w.heap.size w wr) (fun _ i wr => n - (intOf i).toNat)
      case atStart => exact ⟨0, R, t, Nat.zero_le _, rfl, Lib.hid ⟨HBF.out, HRR.out⟩, m0, q1, ht, hB⟩
      case round =>
        clear m0 q1 hB
        obtain ⟨k, R', t', hk, rfl, HH, m0, q0, ht', hB⟩ := hrel
        by_cases hkn : k < n
        · obtain ⟨b, o, rfl, hc4⟩ := (HF.out.below hB) (by omega)
          have c0 := hc4 (k * 4) (by omega)
          have c1 := hc4 (k * 4 + 1) (by omega)
          have c2 := hc4 (k * 4 + 2) (by omega)
          have c3 := hc4 (k * 4 + 3) (by omega)
          rw [← Nat.add_assoc] at c1 c2 c3
          clear hc4
          obtain ⟨hd0, hd1, hne, _, _⟩ := ratB_at HR.out hkn
          have hga : wr.grownBy (wr.alloc (.cells #[.int .i64 (v (k * 4)), .int .i64 (v (k * 4 + 1)), .int .i64 (v (k * 4 + 2)), .int .i64 (v (k * 4 + 3))] 46)) none := World.grownBy_alloc wr _ none
          have m1 := m0.kept hga (fun q e => by cases e) (by omega) t' (Or.inl rfl)
          have q1 := q0.kept hga (by simp)
          have hB1 := below_alloc hB (.cells #[.int .i64 (v (k * 4)), .int .i64 (v (k * 4 + 1)), .int .i64 (v (k * 4 + 2)), .int .i64 (v (k * 4 + 3))] 46)
          have hcase : (v (k * 4 + 1) = r.x ∧ nxt v r.x k = some (v (k * 4))) ∨ (v (k * 4 + 1) ≠ r.x ∧ v (k * 4) ≠ r.x ∧ nxt v r.x k = none) ∨ (v (k * 4 + 1) ≠ r.x ∧ v (k * 4) = r.x ∧ nxt v r.x k = some (v (k * 4 + 1))) := by
            unfold nxt
            by_cases h1 : v (k * 4 + 1) = r.x
            · exact Or.inl ⟨h1, if_pos h1⟩
            · by_cases h2 : v (k * 4) = r.x
              · exact Or.inr (Or.inr ⟨h1, h2, by rw [if_neg h1, if_pos h2]⟩)
              · exact Or.inr (Or.inl ⟨h1, h2, by rw [if_neg h1, if_neg h2]⟩)
          clear hga m0 q0
          rcases hcase with ⟨h1, h2⟩ | ⟨h1, h3, h2⟩ | ⟨h1, h3, h2⟩
          · have t1 : (v (k * 4 + 1) == r.x) = true := by simp [h1]
            clear h1
            by_cases hkn2 : ∃ (j : Nat) (s : Rec), R'[j]? = some s ∧ s.x = v (k * 4)
            · obtain ⟨j, s2, hj, hs2⟩ := hkn2
              obtain ⟨sv, hlook, _⟩ := m1.at HH.out.1 hj true
              rw [hs2] at hlook
              have HX := Lib.hid h2; clear h2
              have HM := Lib.hid m1; clear m1
              have HQ := Lib.hid q1; clear q1
              have HJ := Lib.hid hj; clear hj
              have HS2 := Lib.hid hs2; clear hs2
              have HLK := Lib.hid hlook; clear hlook
              go_wp2_with (at_lookup; refine wpList_look rfl (.tmp 51) (.tmp 52) true rfl rfl rfl HLK.out ?_)
              go_roundw
              case rel => exact ⟨k + 1, R', t', by omega, by go_num, Lib.hid ⟨HH.out.1.skip HH.out.2 (fun x hx => ⟨j, s2, HJ.out, by rw [HX.out] at hx; rw [HS2.out]; exact Option.some.inj hx⟩), HH.out.2⟩, HM.out, HQ.out, ht', hB1⟩
              case measure => simp [intOf]; omega
            · have hx : ∀ (j : Nat) (s : Rec), R'[j]? = some s → s.x ≠ v (k * 4) := fun j s hj e => hkn2 ⟨j, s, hj, e⟩
              have hlook := m1.no hx true
              obtain ⟨sv, hlook2, A', c', rfl, hc0, hfw, _⟩ := m1.at HH.out.1 HH.out.2 false
              have hpl : r.p.length ≤ 1048576 := by
                have h8 := HH.out.1.plen _ _ HH.out.2
                have h9 := HH.out.1.short
                have h10 := (List.getElem?_eq_some_iff.1 HH.out.2).1
                omega
              have hBs := hB1.size
              have hRl := HH.out.1.short
              have HX := Lib.hid h2; clear h2
              have HHX := Lib.hid hx; clear hx
              have HM := Lib.hid m1; clear m1
              have HQ := Lib.hid q1; clear q1
              have HLK := Lib.hid hlook; clear hlook
              have HLK2 := Lib.hid hlook2; clear hlook2
              have HFW := Lib.hid hfw; clear hfw
              have HC0 := Lib.hid hc0; clear hc0
              go_wp2_with (first
                | (at_lookup; refine wpList_look rfl (.tmp 51) (.tmp 52) true rfl rfl rfl HLK.out ?_)
                | (at_lookup; refine wpList_look rfl (.tmp 60) (.tmp 61) false rfl rfl rfl HLK2.out ?_)
                | (go_at_call 42; (with_reducible refine (impl_copyInts A' c' r.p _ HFW.out HC0.out hpl).mono ?_); rintro _ w3 ⟨s3, rfl, o3, hb3⟩; have O3 := Lib.hid o3; clear o3; have HB3 := Lib.hid hb3; clear hb3; have hs3 : w.heap.size ≤ w3.heap.size := Nat.le_trans hBs HB3.out.size; have hs4 := HB3.out.size)
                | (at_builtin; refine push_one rfl (.tmp 63) (.tmp 65) rfl _ s3 r.p k rfl rfl O3.out hpl hs4 ?_; intro s4 w4 o4 hg4; obtain ⟨w5, hput, m5, q5, hB5⟩ := put_new HM.out HQ.out O3.out HB3.out o4 hg4 HHX.out h k (by omega) hBs hB1 (Nat.le_refl _); have M5 := Lib.hid m5; clear m5; have Q5 := Lib.hid q5; clear q5; have HP := Lib.hid hput; clear hput; have HB5 := Lib.hid hB5; clear hB5; clear o4 hg4; have hs5 := HB5.out.size)
                | (refine wpList_put rfl (.tmp 58) (.tmp 59) (.tmp 66) (Or.inl rfl) rfl rfl rfl HP.out ?_)
                | (at_builtin; refine push_q rfl (.tmp 67) (.tmp 69) rfl w.heap.size t' _ _ _ rfl rfl Q5.out (by simp; omega) hs5 ?_; intro s6 w6 t6 q6 ht6 hg6; have Q6 := Lib.hid q6; clear q6; have HG6 := Lib.hid hg6; clear hg6))
              go_roundw
              case rel =>
                refine ⟨k + 1, R' ++ [⟨v (k * 4), r.p ++ [(k : Int)], h, k⟩], t6, by omega, by go_num, Lib.hid ⟨HH.out.1.found HH.out.2 HX.out hd0 hkn HHX.out, ?_⟩, M5.out.kept HG6.out (fun q e => by injection e with e; exact e.symm) (by omega) t6 ht6, ?_, ?_, HB5.out.grown HG6.out hs5 (fun q e => by injection e with e; omega)⟩
                · rw [List.getElem?_append_left (List.getElem?_eq_some_iff.1 HH.out.2).1]; exact HH.out.2
                · have hh2 : h + 1 ≤ R'.length := (List.getElem?_eq_some_iff.1 HH.out.2).1
                  rw [List.map_append, List.drop_append_of_le_length (by simpa using hh2)]
                  exact Q6.out
                · have := M5.out.lt; omega
              case measure => simp [intOf]; omega
          · have HX := Lib.hid h2; clear h2
            have HM := Lib.hid m1; clear m1
            have HQ := Lib.hid q1; clear q1
            go_wp2_with fail
            go_roundw
            case rel => exact ⟨k + 1, R', t', by omega, by go_num, Lib.hid ⟨HH.out.1.skip HH.out.2 (fun x hx => by rw [HX.out] at hx; cases hx), HH.out.2⟩, HM.out, HQ.out, ht', hB1⟩
            case measure => simp [intOf]; omega
          · have t1 : (v (k * 4 + 1) == r.x) = false := by simp [h1]
            have t2 : (v (k * 4) == r.x) = true := by simp [h3]
            have t3 : (v (k * 4) != r.x) = false := by simp [h3]
            clear h1 h3
            by_cases hkn2 : ∃ (j : Nat) (s : Rec), R'[j]? = some s ∧ s.x = v (k * 4 + 1)
            · obtain ⟨j, s2, hj, hs2⟩ := hkn2
              obtain ⟨sv, hlook, _⟩ := m1.at HH.out.1 hj true
              rw [hs2] at hlook
              have HX := Lib.hid h2; clear h2
              have HM := Lib.hid m1; clear m1
              have HQ := Lib.hid q1; clear q1
              have HJ := Lib.hid hj; clear hj
              have HS2 := Lib.hid hs2; clear hs2
              have HLK := Lib.hid hlook; clear hlook
              go_wp2_with (at_lookup; refine wpList_look rfl (.tmp 51) (.tmp 52) true rfl rfl rfl HLK.out ?_)
              go_roundw
              case rel => exact ⟨k + 1, R', t', by omega, by go_num, Lib.hid ⟨HH.out.1.skip HH.out.2 (fun x hx => ⟨j, s2, HJ.out, by rw [HX.out] at hx; rw [HS2.out]; exact Option.some.inj hx⟩), HH.out.2⟩, HM.out, HQ.out, ht', hB1⟩
              case measure => simp [intOf]; omega
            · have hx : ∀ (j : Nat) (s : Rec), R'[j]? = some s → s.x ≠ v (k * 4 + 1) := fun j s hj e => hkn2 ⟨j, s, hj, e⟩
              have hlook := m1.no hx true
              obtain ⟨sv, hlook2, A', c', rfl, hc0, hfw, _⟩ := m1.at HH.out.1 HH.out.2 false
              have hpl : r.p.length ≤ 1048576 := by
                have h8 := HH.out.1.plen _ _ HH.out.2
                have h9 := HH.out.1.short
                have h10 := (List.getElem?_eq_some_iff.1 HH.out.2).1
                omega
              have hBs := hB1.size
              have hRl := HH.out.1.short
              have HX := Lib.hid h2; clear h2
              have HHX := Lib.hid hx; clear hx
              have HM := Lib.hid m1; clear m1
              have HQ := Lib.hid q1; clear q1
              have HLK := Lib.hid hlook; clear hlook
              have HLK2 := Lib.hid hlook2; clear hlook2
              have HFW := Lib.hid hfw; clear hfw
              have HC0 := Lib.hid hc0; clear hc0
              go_wp2_with (first
                | (at_lookup; refine wpList_look rfl (.tmp 51) (.tmp 52) true rfl rfl rfl HLK.out ?_)
                | (at_lookup; refine wpList_look rfl (.tmp 60) (.tmp 61) false rfl rfl rfl HLK2.out ?_)
                | (go_at_call 42; (with_reducible refine (impl_copyInts A' c' r.p _ HFW.out HC0.out hpl).mono ?_); rintro _ w3 ⟨s3, rfl, o3, hb3⟩; have O3 := Lib.hid o3; clear o3; have HB3 := Lib.hid hb3; clear hb3; have hs3 : w.heap.size ≤ w3.heap.size := Nat.le_trans hBs HB3.out.size; have hs4 := HB3.out.size)
                | (at_builtin; refine push_one rfl (.tmp 63) (.tmp 65) rfl _ s3 r.p k rfl rfl O3.out hpl hs4 ?_; intro s4 w4 o4 hg4; obtain ⟨w5, hput, m5, q5, hB5⟩ := put_new HM.out HQ.out O3.out HB3.out o4 hg4 HHX.out h k (by omega) hBs hB1 (Nat.le_refl _); have M5 := Lib.hid m5; clear m5; have Q5 := Lib.hid q5; clear q5; have HP := Lib.hid hput; clear hput; have HB5 := Lib.hid hB5; clear hB5; clear o4 hg4; have hs5 := HB5.out.size)
                | (refine wpList_put rfl (.tmp 58) (.tmp 59) (.tmp 66) (Or.inl rfl) rfl rfl rfl HP.out ?_)
                | (at_builtin; refine push_q rfl (.tmp 67) (.tmp 69) rfl w.heap.size t' _ _ _ rfl rfl Q5.out (by simp; omega) hs5 ?_; intro s6 w6 t6 q6 ht6 hg6; have Q6 := Lib.hid q6; clear q6; have HG6 := Lib.hid hg6; clear hg6))
              go_roundw
              case rel =>
                refine ⟨k + 1, R' ++ [⟨v (k * 4 + 1), r.p ++ [(k : Int)], h, k⟩], t6, by omega, by go_num, Lib.hid ⟨HH.out.1.found HH.out.2 HX.out hd1 hkn HHX.out, ?_⟩, M5.out.kept HG6.out (fun q e => by injection e with e; exact e.symm) (by omega) t6 ht6, ?_, ?_, HB5.out.grown HG6.out hs5 (fun q e => by injection e with e; omega)⟩
                · rw [List.getElem?_append_left (List.getElem?_eq_some_iff.1 HH.out.2).1]; exact HH.out.2
                · have hh2 : h + 1 ≤ R'.length := (List.getElem?_eq_some_iff.1 HH.out.2).1
                  rw [List.map_append, List.drop_append_of_le_length (by simpa using hh2)]
                  exact Q6.out
                · have := M5.out.lt; omega
              case measure => simp [intOf]; omega
        · obtain rfl : k = n := by omega
          have h11 := (List.getElem?_eq_some_iff.1 HH.out.2).1
          have h12 := m0.len
          have h13 := q0.len
          have h14 := HH.out.1.short
          have HM := Lib.hid m0; clear m0
          have HQ := Lib.hid q0; clear q0
          have HH2 := Lib.hid HH.out.1.next
          go_wp2_with fail
          go_roundw
          case rel => exact ⟨h + 1, R', t', HH2.out, by omega, HM.out, HQ.out, ht', hB⟩
          case measure =>
            simp only [List.length_drop, List.length_map] at h13
            have h15 := HN.out
            clear HN HN2 HD HRR HH2 HQ HM HH
            simp only [lenV] at h13
            simp [lenV, h12, h13, hM0]
            omega
    · obtain rfl : h = R.length := by omega
      obtain ⟨off, cap, cur, rfl, hBt, hb, hc, hcm, hsz, hv⟩ := q0
      have hz : ((R.map Rec.x).drop R.length).length = 0 := by simp
      rw [hz]
      clear hv hb hc
      by_cases hx : ∃ (j : Nat) (r : Rec), R[j]? = some r ∧ r.x = d
      · obtain ⟨j, r, hj, rfl⟩ := hx
        obtain ⟨sv, hlook, A', c', rfl, hc0, hfw, _⟩ := m0.at HBF.out hj true
        have HLK := Lib.hid hlook; clear hlook
        have HJ := Lib.hid hj; clear hj
        have HFW := Lib.hid hfw; clear hfw
        go_wp2_with (at_lookup; refine wpList_look rfl (.tmp 73) (.tmp 74) true rfl rfl rfl HLK.out ?_)
        refine bodyPost_ret (by first | (simp [results, Try.results35, go_sem, *]; done) | (simp [results, Try.results35, go_sem, *]; rfl)) rfl ?_
        exact ⟨R, HBF.out, Or.inl ⟨j, r, A', c', HJ.out, rfl, rfl, HFW.out⟩, hB⟩
      · have hx2 : ∀ (j : Nat) (r : Rec), R[j]? = some r → r.x ≠ d := fun j r h1 h2 => hx ⟨j, r, h1, h2⟩
        have hlook := m0.no hx2 true
        have HLK := Lib.hid hlook; clear hlook
        have HX2 := Lib.hid hx2; clear hx2 hx
        go_wp2_with (at_lookup; refine wpList_look rfl (.tmp 73) (.tmp 74) true rfl rfl rfl HLK.out ?_)
        refine bodyPost_ret (by first | (simp [results, Try.results35, go_sem, *]; done) | (simp [results, Try.results35, go_sem, *]; rfl)) rfl ?_
        exact ⟨R, HBF.out, Or.inr ⟨HX2.out, rfl⟩, hB⟩
end Go.Proofs.Ytfgkglbhbdfpfaa
