/- A map from numbers to slices of numbers, made by the call: what it holds, looked up and put in. A queue of numbers of the call's own. -/
import Derived.Test.YtfgkglbhbdfpfaaBfs
import Derived.Maps.OwnOps
import Derived.ArgAppend
namespace Go.Proofs.Ytfgkglbhbdfpfaa
open Go.RowKit Go.ChangeMaps Go.MapKept
set_option linter.unusedSimpArgs false
set_option linter.unusedVariables false
set_option maxHeartbeats 1000000
theorem infoInt : (Try.prog.info? 3).map (fun i => (i.zero, i.size, i.bytes)) = some (some (.int .i64 0), 1, 8) := by kernel_rfl
theorem undMap : Try.prog.underlying 62 = some (.map 3 53) := by kernel_rfl
theorem zeroSl (w : World) : (zeroValue 53).run Try.prog w = .ok (.slice none 0 0) w := by kernel_rfl
/-- What a slice value of a way is good for, apart from two blocks. -/
def Way (w : World) (B b t : Nat) (s : Value) (l : List Int) : Prop := ∃ A c, s = .slice A l.length c ∧ (A = none → c = 0) ∧ Fl w A l.length 1 (fun j => l.getD j 0) ∧ ∀ g off, A = some ⟨g, off, none⟩ → B ≤ g ∧ g ≠ b ∧ g ≠ t ∧ g < w.heap.size
/-- Block b is a map that holds the records' ways under their units. -/
def MapR (w : World) (B b t : Nat) (R : List Rec) : Prop := ∃ es clock, w.heap[b]? = some (.map es clock) ∧ B ≤ b ∧ es.size = R.length ∧ ∀ (j : Nat) (r : Rec), R[j]? = some r → ∃ e : MapEntry, es[j]? = some e ∧ e.key = .int .i64 r.x ∧ Way w B b t e.val r.p
theorem Way.kept {w w' : World} {B b t : Nat} {s : Value} {l : List Int} (h : Way w B b t s l) {row : Option Nat} (hg : w.grownBy w' row) (hr : ∀ q, row = some q → q = b ∨ q = t) (t' : Nat) (ht : t' = t ∨ w.heap.size ≤ t') : Way w' B b t' s l := by
  obtain ⟨A, c, rfl, hc0, hF, hA⟩ := h
  refine ⟨A, c, rfl, hc0, fun hn => ?_, fun g off e => ?_⟩
  · obtain ⟨g, off, rfl, hc⟩ := hF hn
    obtain ⟨h1, h2, h3, h4⟩ := hA g off rfl
    refine ⟨g, off, rfl, fun j hj => hg.cell (hc j hj) ?_⟩
    intro e
    rcases hr g e.symm with h | h
    · exact h2 h
    · exact h3 h
  · obtain ⟨h1, h2, h3, h4⟩ := hA g off e
    exact ⟨h1, h2, by omega, Nat.lt_of_lt_of_le h4 hg.size⟩
theorem MapR.kept {w w' : World} {B b t : Nat} {R : List Rec} (h : MapR w B b t R) {row : Option Nat} (hg : w.grownBy w' row) (hr : ∀ q, row = some q → q = t) (hbt : b ≠ t) (t' : Nat) (ht : t' = t ∨ w.heap.size ≤ t') : MapR w' B b t' R := by
  obtain ⟨es, clock, hb, hB, hs, hE⟩ := h
  refine ⟨es, clock, (hg.block b (Array.getElem?_eq_some_iff.1 hb).1 (fun e => hbt (hr b e.symm))).trans hb, hB, hs, fun j r hj => ?_⟩
  obtain ⟨e, h1, h2, h3⟩ := hE j r hj
  exact ⟨e, h1, h2, h3.kept hg (fun q e => Or.inr (hr q e)) t' ht⟩
theorem MapR.lt {w : World} {B b t : Nat} {R : List Rec} (h : MapR w B b t R) : b < w.heap.size := by
  obtain ⟨es, clock, hb, _⟩ := h
  exact (Array.getElem?_eq_some_iff.1 hb).1
theorem find_none {x : Int} : ∀ (L : List MapEntry) (i : Nat), (∀ e ∈ L, ∃ y, e.key = .int .i64 y ∧ y ≠ x) → Instr.findNow (.int .i64) (.int .i64 x) L i = some none
  | [], _, _ => rfl
  | e :: L, i, h => by
    obtain ⟨y, h1, h2⟩ := h e (by simp)
    have h3 : (x == y) = false := by simp; omega
    simp only [Instr.findNow, h1, Instr.sameNow, if_true, h3]
    exact find_none L (i + 1) fun e' h' => h e' (by simp [h'])
theorem find_some {x : Int} : ∀ (L : List MapEntry) (i k : Nat) (e : MapEntry), L[k]? = some e → e.key = .int .i64 x → (∀ (j : Nat) (e' : MapEntry), j < k → L[j]? = some e' → ∃ y, e'.key = .int .i64 y ∧ y ≠ x) → Instr.findNow (.int .i64) (.int .i64 x) L i = some (some (i + k, e.val))
  | [], _, k, e, h, _, _ => by simp at h
  | e0 :: L, i, 0, e, h, hk, _ => by
    simp at h; subst h
    simp [Instr.findNow, hk, Instr.sameNow]
  | e0 :: L, i, k + 1, e, h, hk, hn => by
    obtain ⟨y, h1, h2⟩ := hn 0 e0 (by omega) rfl
    have h3 : (x == y) = false := by simp; omega
    simp only [Instr.findNow, h1, Instr.sameNow, if_true, h3]
    rw [find_some L (i + 1) k e (by simpa using h) hk fun j e' hj he => hn (j + 1) e' (by omega) (by simpa using he)]
    simp; omega
theorem keyI (x : Int) : IsKey (.int .i64) (.int .i64 x) := by simp [IsKey]
theorem MapR.at {w : World} {B b t : Nat} {R : List Rec} (h : MapR w B b t R) {v : Nat → Int} {n : Nat} {a : Int} {hh i : Nat} (H : Bfs v n a hh i R) {j : Nat} {r : Rec} (hj : R[j]? = some r) (ok : Bool) :
    ∃ s, (Instr.lookup 62 (.map (some b)) (.int .i64 r.x) ok).run Try.prog w = .ok (if ok then .tuple #[s, .bool true] else s) w ∧ Way w B b t s r.p := by
  obtain ⟨es, clock, hb, hB, hs, hE⟩ := h
  obtain ⟨e, h1, h2, h3⟩ := hE j r hj
  refine ⟨e.val, ?_, h3⟩
  have hf : Instr.findNow (.int .i64) (.int .i64 r.x) es.toList 0 = some (some (0 + j, e.val)) := by
    refine find_some _ 0 j e (by simpa using h1) h2 fun k e' hk he => ?_
    have hk' : k < es.size := by
      have := (List.getElem?_eq_some_iff.1 he).1
      simpa using this
    obtain ⟨e2, g1, g2, _⟩ := hE k R[k] (List.getElem?_eq_getElem (by omega))
    have : e2 = e' := by rw [Array.getElem?_toList] at he; exact Option.some.inj (g1.symm.trans he)
    subst this
    refine ⟨_, g2, fun e3 => ?_⟩
    have := H.key k j _ _ (List.getElem?_eq_getElem (by omega)) hj e3
    omega
  unfold Instr.lookup
  simp only [Sem.run_bind, run_underlying undMap, Result.andThen_ok, MapKept.run_getObj_map hb, Sem.run_pure, MapKept.run_checkKey Try.underlying3 (keyI _), MapKept.run_findKey Try.underlying3 hf]
theorem MapR.no {w : World} {B b t : Nat} {R : List Rec} (h : MapR w B b t R) {x : Int} (hx : ∀ (j : Nat) (r : Rec), R[j]? = some r → r.x ≠ x) (ok : Bool) :
    (Instr.lookup 62 (.map (some b)) (.int .i64 x) ok).run Try.prog w = .ok (if ok then .tuple #[.slice none 0 0, .bool false] else .slice none 0 0) w := by
  obtain ⟨es, clock, hb, hB, hs, hE⟩ := h
  have hf : Instr.findNow (.int .i64) (.int .i64 x) es.toList 0 = some none := by
    refine find_none _ 0 fun e he => ?_
    obtain ⟨k, hk⟩ := List.getElem?_of_mem he
    have hk' : k < es.size := by
      have := (List.getElem?_eq_some_iff.1 hk).1
      simpa using this
    obtain ⟨e2, g1, g2, _⟩ := hE k R[k] (List.getElem?_eq_getElem (by omega))
    have : e2 = e := by rw [Array.getElem?_toList] at hk; exact Option.some.inj (g1.symm.trans hk)
    subst this
    exact ⟨_, g2, hx k _ (List.getElem?_eq_getElem (by omega))⟩
  unfold Instr.lookup
  simp only [Sem.run_bind, run_underlying undMap, Result.andThen_ok, MapKept.run_getObj_map hb, Sem.run_pure, MapKept.run_checkKey Try.underlying3 (keyI _), MapKept.run_findKey Try.underlying3 hf, zeroSl]
theorem MapR.put {w : World} {B b t : Nat} {R : List Rec} (h : MapR w B b t R) {x : Int} (hx : ∀ (j : Nat) (r : Rec), R[j]? = some r → r.x ≠ x) {s : Value} {p : List Int} (hs' : Way w B b t s p) (q e : Nat) (hbt : b ≠ t) :
    ∃ w', (Instr.mapUpdate 62 (.map (some b)) (.int .i64 x) s).run Try.prog w = .ok () w' ∧ MapR w' B b t (R ++ [⟨x, p, q, e⟩]) ∧ w.grownBy w' (some b) := by
  have h0 := h
  obtain ⟨es, clock, hb, hB, hs, hE⟩ := h
  have hf : Instr.findNow (.int .i64) (.int .i64 x) es.toList 0 = some none := by
    refine find_none _ 0 fun e he => ?_
    obtain ⟨k, hk⟩ := List.getElem?_of_mem he
    have hk' : k < es.size := by
      have := (List.getElem?_eq_some_iff.1 hk).1
      simpa using this
    obtain ⟨e2, g1, g2, _⟩ := hE k R[k] (List.getElem?_eq_getElem (by omega))
    have : e2 = e := by rw [Array.getElem?_toList] at hk; exact Option.some.inj (g1.symm.trans hk)
    subst this
    exact ⟨_, g2, hx k _ (List.getElem?_eq_getElem (by omega))⟩
  have hh := heap_set (w := w) (r := b) (o' := .map (es.push { key := .int .i64 x, val := s, born := clock }) (clock + 1)) hb
  have hg : w.grownBy { w with heap := w.heap.setIfInBounds b (.map (es.push { key := .int .i64 x, val := s, born := clock }) (clock + 1)) } (some b) :=
    ⟨rfl, rfl, rfl, by simp, fun k _ hk => hh.2 k (fun e => hk (by rw [e]))⟩
  refine ⟨_, ?_, ⟨_, _, hh.1, hB, by simp [hs], fun j r hj => ?_⟩, hg⟩
  · unfold Instr.mapUpdate
    simp only [Sem.run_bind, run_underlying undMap, Result.andThen_ok, MapKept.run_getObj_map hb, Sem.run_pure, MapKept.run_checkKey Try.underlying3 (keyI _), MapKept.run_findKey Try.underlying3 hf]
    rw [MapKept.run_setObj_map _ hb]
  · rcases Nat.lt_or_ge j R.length with h1 | h1
    · rw [List.getElem?_append_left h1] at hj
      obtain ⟨e2, g1, g2, g3⟩ := hE j r hj
      refine ⟨e2, ?_, g2, g3.kept hg (fun q e => Or.inl (by injection e with e; exact e.symm)) t (Or.inl rfl)⟩
      rw [Array.getElem?_push_lt (by omega)]
      rw [Array.getElem?_eq_getElem (by omega)] at g1
      exact g1
    · rw [List.getElem?_append_right h1] at hj
      have := (List.getElem?_eq_some_iff.1 hj).1
      simp at this
      have h2 : j = R.length := by omega
      subst h2
      simp at hj
      subst hj
      exact ⟨{ key := .int .i64 x, val := s, born := clock }, by rw [← hs]; simp, rfl, hs'.kept hg (fun q e => Or.inl (by injection e with e; exact e.symm)) t (Or.inl rfl)⟩
/-- At the operations. -/
theorem wpList_look {ops : Array Oper} {rest : List Oper} {o : Oper} {a : Act} {Q : Exit → Act → World → Prop} {w : World} (hg : o.guard = none) (m x : Operand) (ok : Bool) (hop : o.op = Op.lookup 62 m x ok)
    {mv xv r : Value} (hm : a.eval m = mv) (hx : a.eval x = xv) (hrun : (Instr.lookup 62 mv xv ok).run Try.prog w = .ok r w) (hK : wpList Try.prog ops Q rest (a.put o.dst r) w) : wpList Try.prog ops Q (o :: rest) a w := by
  refine wpList_plain hg fun K' hK' => ?_
  unfold Oper.wp
  simp [execOp, hop, hm, hx, hrun, Result.andThen]
  exact hK' _ _ hK
theorem wpList_put {ops : Array Oper} {rest : List Oper} {o : Oper} {a : Act} {Q : Exit → Act → World → Prop} {w w' : World} (hg : o.guard = none) (m x y : Operand) (hop : o.op = Op.mapUpdate 62 m x y ∨ o.op = Op.insert 62 m x y)
    {mv xv yv : Value} (hm : a.eval m = mv) (hx : a.eval x = xv) (hy : a.eval y = yv) (hrun : (Instr.mapUpdate 62 mv xv yv).run Try.prog w = .ok () w') (hK : wpList Try.prog ops Q rest (a.put o.dst undef) w') : wpList Try.prog ops Q (o :: rest) a w := by
  refine wpList_plain hg fun K' hK' => ?_
  unfold Oper.wp
  rcases hop with hop | hop <;>
  · simp [execOp, hop, hm, hx, hy, hrun, Result.andThen]
    exact hK' _ _ hK
/-- A queue of numbers in block t of the call's own. -/
def Que (w : World) (B t : Nat) (s : Value) (l : List Int) : Prop := ∃ off cap cur, s = .slice (some ⟨t, off, none⟩) l.length cap ∧ B ≤ t ∧ w.heap[t]? = some (.cells cur 3 (0, 0)) ∧ l.length ≤ cap ∧ cap ≤ maxLen ∧ off + cap ≤ cur.size ∧ ∀ j, j < l.length → cur[off + j]? = some (.int .i64 (l.getD j 0))
theorem Que.lt {w : World} {B t : Nat} {s : Value} {l : List Int} (h : Que w B t s l) : t < w.heap.size := by
  obtain ⟨off, cap, cur, rfl, hB, hb, _⟩ := h
  exact (Array.getElem?_eq_some_iff.1 hb).1
theorem Que.kept {w w' : World} {B t : Nat} {s : Value} {l : List Int} (h : Que w B t s l) {row : Option Nat} (hg : w.grownBy w' row) (hr : row ≠ some t) : Que w' B t s l := by
  obtain ⟨off, cap, cur, rfl, hB, hb, hr'⟩ := h
  exact ⟨off, cap, cur, rfl, hB, (hg.block t (Array.getElem?_eq_some_iff.1 hb).1 (fun e => hr e.symm)).trans hb, hr'⟩
end Go.Proofs.Ytfgkglbhbdfpfaa
