/- A plain law on regions that draw their order: operations that read and call (each callee leaves what was there before alone), new variables, and one store of a struct into each of these: whatever order is drawn, the frame at the end is the one of the text's order, each new variable holds its struct, and all that was there before stands. No conditions. -/
import Derived.Test.YtfgkglbhbdfpfaaCalm
import Derived.Laws.Tables
namespace Go.Proofs.Ytfgkglbhbdfpfaa
open Go.RowKit
set_option linter.unusedSimpArgs false
set_option linter.unusedVariables false

def isAl (o : Oper) : Bool := match o.op with | .alloc _ => true | _ => false
/-- The slot of a store's address, its type and its value. -/
def stOf (o : Oper) : Option (TypeId × Operand × Operand) := match o.op with | .store t x y => some (t, x, y) | _ => none
/-- The operation, if it makes no variable and stores nothing; else one that does nothing. -/
def tame (o : Oper) : Oper := match o.op with | .alloc _ => { o with op := .assign (.const undef) } | .store _ _ _ => { o with op := .assign (.const undef) } | _ => o
def isSel (o : Oper) : Bool := match o.op with | .select _ _ => true | _ => false
def tmpsOf (xs : Array Operand) : List Nat := xs.toList.filterMap fun | .tmp t => some t | _ => none
/-- Operation j waits for operation i. -/
def waitsFor (l : List Oper) (j i : Nat) : Bool := match l[j]? with | some o => o.after.any fun e => Region.binds .any e && e.on == i | none => false
def noAl (l : List Oper) (s : Nat) : Bool := l.all fun o => !isAl o || o.dst != some s
def orderly (l : List Oper) (i s : Nat) : Bool := (List.range l.length).all fun j => ((l[j]?).bind (·.dst)) != some s || j == i || (decide (j < i) && waitsFor l i j) || (decide (i < j) && waitsFor l j i)
def early (l : List Oper) (i s : Nat) : Bool := (List.range l.length).all fun j => ((l[j]?).bind (·.dst)) != some s || (decide (j < i) && waitsFor l i j)
def alAt (l : List Oper) (i x : Nat) (t : TypeId) : Bool := (List.range l.length).any fun j => decide (j < i) && waitsFor l i j && (match l[j]? with | some o => (match o.op with | .alloc t' => t' == t | _ => false) && o.dst == some x | none => false)
def kindOk (l : List Oper) (i : Nat) (o : Oper) : Bool :=
  match o.op with
  | .alloc _ => o.dst.isSome
  | .store t x y => (match x with | .tmp x => o.dst.isNone && alAt l i x t && (tmpsOf #[y]).all (fun s => noAl l s && early l i s) && (List.range l.length).all fun j => j == i || (match l[j]? with | some o' => (match o'.op with | .store _ (.tmp x') _ => x' != x | _ => true) | none => true) | _ => false)
  | op => (tmpsOf op.operands).all fun s => noAl l s && orderly l i s
def opOk (l : List Oper) (i : Nat) (o : Oper) : Bool :=
  o.guard.isNone && !isSel o && o.after.all (fun e => !Region.binds .any e || decide (e.on < i)) &&
  ((List.range l.length).all fun j => j == i || o.dst.isNone || ((l[j]?).bind (·.dst)) != o.dst) && kindOk l i o
def madeOk (l : List Oper) : Bool := (List.range l.length).all fun i => match l[i]? with | some o => opOk l i o | none => true

theorem madeOk_at {l : List Oper} (h : madeOk l = true) {i : Nat} {o : Oper} (hi : l[i]? = some o) : opOk l i o = true := by
  have hlt : i < l.length := (List.getElem?_eq_some_iff.1 hi).1
  have := List.all_eq_true.1 h i (List.mem_range.2 hlt)
  simpa [hi] using this
structure OpOk (l : List Oper) (i : Nat) (o : Oper) : Prop where
  guard : o.guard = none
  sel : isSel o = false
  after : ∀ e ∈ o.after, Region.binds .any e = true → e.on < i
  dst : ∀ j oj s, l[j]? = some oj → o.dst = some s → oj.dst = some s → j = i
  kind : kindOk l i o = true
theorem opOk_spec {l : List Oper} {i : Nat} {o : Oper} (h : opOk l i o = true) : OpOk l i o := by
  simp only [opOk, Bool.and_eq_true] at h
  obtain ⟨⟨⟨⟨h1, h2⟩, h3⟩, h4⟩, h5⟩ := h
  refine ⟨by simpa using h1, by simpa using h2, ?_, ?_, h5⟩
  · intro e he hb
    have := (Array.all_eq_true_iff_forall_mem.1 h3) e he
    simp [hb] at this
    exact this
  · intro j oj s hj hs hjs
    have hlt : j < l.length := (List.getElem?_eq_some_iff.1 hj).1
    have := List.all_eq_true.1 h4 j (List.mem_range.2 hlt)
    simp [hs, hj, hjs] at this
    exact this
theorem noAl_spec {l : List Oper} {s : Nat} (h : noAl l s = true) {j : Nat} {oj : Oper} (hj : l[j]? = some oj) (hd : oj.dst = some s) : isAl oj = false := by
  have := List.all_eq_true.1 h oj (List.mem_of_getElem? hj)
  simpa [hd] using this
theorem waits_spec {l : List Oper} {j i : Nat} {o : Oper} (hj : l[j]? = some o) (h : waitsFor l j i = true) : ∃ e ∈ o.after, Region.binds .any e = true ∧ e.on = i := by
  simp only [waitsFor, hj] at h
  obtain ⟨e, he, hb⟩ := Array.any_eq_true'.1 h
  simp only [Bool.and_eq_true, beq_iff_eq] at hb
  exact ⟨e, he, hb.1, hb.2⟩
theorem orderly_spec {l : List Oper} {i s : Nat} (h : orderly l i s = true) {j : Nat} {oj : Oper} (hj : l[j]? = some oj) (hd : oj.dst = some s) : j = i ∨ (j < i ∧ waitsFor l i j = true) ∨ (i < j ∧ waitsFor l j i = true) := by
  have hlt : j < l.length := (List.getElem?_eq_some_iff.1 hj).1
  have := List.all_eq_true.1 h j (List.mem_range.2 hlt)
  simp only [hj, Option.bind_some, hd, bne_self_eq_false, Bool.false_or, Bool.or_eq_true, Bool.and_eq_true, decide_eq_true_eq, beq_iff_eq] at this
  rcases this with (h1 | h1) | h1
  · exact Or.inl h1
  · exact Or.inr (Or.inl h1)
  · exact Or.inr (Or.inr h1)

section
variable {P : Program} {ops : Array Oper} {C : World → Prop}

/-- What the walk in the text's order tells of each operation, if no two of them write one slot. -/
theorem lexical {aE : Act} : ∀ (l : List Oper) (a : Act), (∀ o ∈ l, o.guard = none) → (∀ (i j : Nat) (oi oj : Oper) (s : Nat), l[i]? = some oi → l[j]? = some oj → oi.dst = some s → oj.dst = some s → i = j) → (∀ o ∈ l, ∀ s, o.dst = some s → s < a.tmps.size) →
    wpQuiet P ops C (fun a' => a' = aE) l a →
    (a.tmps.size = aE.tmps.size ∧ a.defers = aE.defers ∧ ∀ s, (∀ o ∈ l, o.dst ≠ some s) → a.tmps.getD s undef = aE.tmps.getD s undef) ∧
    ∀ (i : Nat) (o : Oper), l[i]? = some o → ∃ (aL : Act) (v : Value), (∀ w, C w → o.quietAt P aL C w v) ∧ (∀ s, o.dst = some s → aE.tmps.getD s undef = v) ∧
      (∀ s, (∀ (j : Nat) (oj : Oper), j < i → l[j]? = some oj → oj.dst ≠ some s) → aL.tmps.getD s undef = a.tmps.getD s undef) ∧
      (∀ (s j : Nat) (oj : Oper), j < i → l[j]? = some oj → oj.dst = some s → aL.tmps.getD s undef = aE.tmps.getD s undef)
  | [], a, _, _, _, h => by
    have h' : a = aE := h
    subst h'
    exact ⟨⟨rfl, rfl, fun _ _ => rfl⟩, fun i o hi => by simp at hi⟩
  | o :: l, a, hg, hd, hs, h => by
    have hw : Region.wanted o (yielded ops a.tmps) = true := by simp [Region.wanted, hg o (by simp)]
    simp only [wpQuiet, hw, if_true] at h
    obtain ⟨v, hq, hK⟩ := h
    have hsz : (a.put o.dst v).tmps.size = a.tmps.size := by cases o.dst <;> simp [Act.put]
    have hdf : (a.put o.dst v).defers = a.defers := by cases o.dst <;> simp [Act.put]
    have hne : ∀ s, o.dst ≠ some s → (a.put o.dst v).tmps.getD s undef = a.tmps.getD s undef := by
      intro s hs
      cases e : o.dst with
      | none => simp [Act.put]
      | some d =>
        have : d ≠ s := fun h => hs (by rw [e, h])
        simp [Act.put, Array.getElem?_setIfInBounds_ne this]
    have heq : ∀ s, o.dst = some s → (a.put o.dst v).tmps.getD s undef = v := by
      intro s hs2
      have hlt := hs o (by simp) s hs2
      rw [hs2]
      simp [Act.put, hlt]
    have later : ∀ s, o.dst = some s → ∀ o' ∈ l, o'.dst ≠ some s := by
      intro s hs2 o' ho' hs3
      obtain ⟨j, hj⟩ := List.getElem?_of_mem ho'
      have := hd 0 (j + 1) o o' s rfl (by simpa using hj) hs2 hs3
      omega
    obtain ⟨⟨i1, i2, i3⟩, ih⟩ := lexical l (a.put o.dst v) (fun o' h' => hg o' (by simp [h'])) (fun i j oi oj s h1 h2 h3 h4 => by
      have := hd (i + 1) (j + 1) oi oj s (by simpa using h1) (by simpa using h2) h3 h4
      omega) (fun o' h' s h2 => by rw [hsz]; exact hs o' (by simp [h']) s h2) hK
    refine ⟨⟨by rw [← hsz]; exact i1, by rw [← hdf]; exact i2, fun s h2 => ?_⟩, ?_⟩
    · rw [← i3 s fun o' h' => h2 o' (by simp [h']), hne s (h2 o (by simp))]
    · intro i o' hi
      cases i with
      | zero =>
        have : o = o' := by simpa using hi
        subst this
        exact ⟨a, v, hq, fun s h2 => by rw [← i3 s (later s h2), heq s h2], fun s _ => rfl, fun s j oj hj => by omega⟩
      | succ i =>
        obtain ⟨aL, u, q1, q2, q3, q4⟩ := ih i o' (by simpa using hi)
        refine ⟨aL, u, q1, q2, fun s h2 => ?_, fun s j oj hj h2 h3 => ?_⟩
        · rw [q3 s (fun j oj hj h3 => h2 (j + 1) oj (by omega) (by simpa using h3)), hne s (h2 0 o (by omega) rfl)]
        · cases j with
          | zero =>
            have : o = oj := by simpa using h2
            subst this
            rw [q3 s (fun j' oj' _ h4 => later s h3 oj' (List.mem_of_getElem? h4)), heq s h3, ← heq s h3, i3 s (later s h3)]
          | succ j => exact q4 s j oj (by omega) (by simpa using h2) h3
end

/-- What holds while such a region runs: the operations named in 'listed' have run. -/
structure Inv (l : List Oper) (a0 aE : Act) (w0 : World) (Z : TypeId → Nat) (listed : Array Bool) (a : Act) (w : World) : Prop where
  size : listed.size = l.length
  closed : ∀ (j : Nat) (oj : Oper), l[j]? = some oj → listed.getD j false = true → ∀ e ∈ oj.after, Region.binds .any e = true → listed.getD e.on false = true
  below : Below w0.heap.size w0 w
  sz : a.tmps.size = a0.tmps.size
  defs : a.defers = a0.defers
  old : ∀ s, (∀ (j : Nat) (oj : Oper), l[j]? = some oj → listed.getD j false = true → oj.dst ≠ some s) → a.tmps.getD s undef = a0.tmps.getD s undef
  val : ∀ (j : Nat) (oj : Oper) (s : Nat), l[j]? = some oj → listed.getD j false = true → isAl oj = false → oj.dst = some s → a.tmps.getD s undef = aE.tmps.getD s undef
  made : ∀ (j : Nat) (oj : Oper) (t : TypeId) (x : Nat), l[j]? = some oj → listed.getD j false = true → oj.op = .alloc t → oj.dst = some x → ∃ g cs, a.tmps.getD x undef = .pointer (some ⟨g, 0, none⟩) ∧ w0.heap.size ≤ g ∧ w.heap[g]? = some (.cells cs t (0, 0)) ∧ cs.size = Z t ∧
    ∀ (i : Nat) (oi : Oper) (y : Operand), l[i]? = some oi → listed.getD i false = true → oi.op = .store t (.tmp x) y → aE.eval y = .agg cs
  apart : ∀ (j j' : Nat) (oj oj' : Oper) (x x' g g' : Nat), l[j]? = some oj → l[j']? = some oj' → listed.getD j false = true → listed.getD j' false = true → isAl oj = true → isAl oj' = true → oj.dst = some x → oj'.dst = some x' → j ≠ j' →
    a.tmps.getD x undef = .pointer (some ⟨g, 0, none⟩) → a.tmps.getD x' undef = .pointer (some ⟨g', 0, none⟩) → g ≠ g'

theorem put_ne {a : Act} {d : Option Nat} {v : Value} {s : Nat} (h : d ≠ some s) : (a.put d v).tmps.getD s undef = a.tmps.getD s undef := by
  cases d with
  | none => simp [Act.put]
  | some d =>
    have : d ≠ s := fun e => h (by rw [e])
    simp [Act.put, Array.getElem?_setIfInBounds_ne this]
theorem put_eq {a : Act} {v : Value} {s : Nat} (h : s < a.tmps.size) : (a.put (some s) v).tmps.getD s undef = v := by simp [Act.put, h]
theorem put_size {a : Act} {d : Option Nat} {v : Value} : (a.put d v).tmps.size = a.tmps.size := by cases d <;> simp [Act.put]
theorem put_defers {a : Act} {d : Option Nat} {v : Value} : (a.put d v).defers = a.defers := by cases d <;> simp [Act.put]
theorem set_cases {listed : Array Bool} {i j : Nat} (h : (listed.setIfInBounds i true).getD j false = true) : j = i ∨ listed.getD j false = true := by
  by_cases e : i = j
  · exact Or.inl e.symm
  · rw [getD_set_ne false e] at h; exact Or.inr h
theorem both_of {listed : Array Bool} {i : Nat} (h : listed.getD i true = false) : listed.getD i false = false := by
  rcases Nat.lt_or_ge i listed.size with h' | h'
  · simp [h'] at h ⊢; exact h
  · simp [Array.getElem?_eq_none h'] at h
theorem set_at {listed : Array Bool} {i : Nat} (h : i < listed.size) : (listed.setIfInBounds i true).getD i false = true := by simp [h]

/-- The bookkeeping of one more operation. -/
theorem Inv.next {l : List Oper} {a0 aE : Act} {w0 : World} {Z : TypeId → Nat} {listed : Array Bool} {a : Act} {w : World} (h : Inv l a0 aE w0 Z listed a w) (hok : madeOk l = true) {i : Nat} {o : Oper} (hi : l[i]? = some o) (hu : listed.getD i false = false)
    (hr : ∀ e ∈ o.after, Region.binds .any e = true → listed.getD e.on false = true) (v : Value) (w' : World) (hb : Below w0.heap.size w0 w')
    (hv : isAl o = false → ∀ s, o.dst = some s → v = aE.tmps.getD s undef) (hdst : ∀ s, o.dst = some s → s < a0.tmps.size)
    (hmade : ∀ (j : Nat) (oj : Oper) (t : TypeId) (x : Nat), l[j]? = some oj → (j = i ∨ listed.getD j false = true) → oj.op = .alloc t → oj.dst = some x → ∃ g cs, (a.put o.dst v).tmps.getD x undef = .pointer (some ⟨g, 0, none⟩) ∧ w0.heap.size ≤ g ∧ w'.heap[g]? = some (.cells cs t (0, 0)) ∧ cs.size = Z t ∧
      ∀ (k : Nat) (ok : Oper) (y : Operand), l[k]? = some ok → (k = i ∨ listed.getD k false = true) → ok.op = .store t (.tmp x) y → aE.eval y = .agg cs)
    (hapart : isAl o = true → ∀ (j : Nat) (oj : Oper) (x x' g g' : Nat), l[j]? = some oj → listed.getD j false = true → isAl oj = true → oj.dst = some x → o.dst = some x' → a.tmps.getD x undef = .pointer (some ⟨g, 0, none⟩) → v = .pointer (some ⟨g', 0, none⟩) → g ≠ g') :
    Inv l a0 aE w0 Z (listed.setIfInBounds i true) (a.put o.dst v) w' := by
  have ho := opOk_spec (madeOk_at hok hi)
  have other : ∀ (j : Nat) (oj : Oper) (s : Nat), l[j]? = some oj → j ≠ i → oj.dst = some s → o.dst ≠ some s := fun j oj s hj hne hs h2 => hne (ho.dst j oj s hj h2 hs)
  refine ⟨by simp [h.size], ?_, hb, by rw [put_size, h.sz], by rw [put_defers, h.defs], ?_, ?_, ?_, ?_⟩
  · intro j oj hj hl e he hbd
    rcases set_cases hl with rfl | hl
    · have : oj = o := Option.some.inj (hj.symm.trans hi)
      subst this
      exact getD_set_true (hr e he hbd)
    · exact getD_set_true (h.closed j oj hj hl e he hbd)
  · intro s hs
    have hlt : i < listed.size := by rw [h.size]; exact (List.getElem?_eq_some_iff.1 hi).1
    rw [put_ne (hs i o hi (set_at hlt))]
    exact h.old s fun j oj hj hl => hs j oj hj (getD_set_true hl)
  · intro j oj s hj hl hal hs
    rcases set_cases hl with rfl | hl
    · have : oj = o := Option.some.inj (hj.symm.trans hi)
      subst this
      rw [hs, put_eq (by rw [h.sz]; exact hdst s hs)]
      exact hv hal s hs
    · have hne : j ≠ i := fun e => by rw [e] at hl; rw [hl] at hu; cases hu
      rw [put_ne (other j oj s hj hne hs)]
      exact h.val j oj s hj hl hal hs
  · intro j oj t x hj hl hop hx
    obtain ⟨g, cs, e1, e2, e3, e4, e5⟩ := hmade j oj t x hj (set_cases hl) hop hx
    exact ⟨g, cs, e1, e2, e3, e4, fun k ok y hk hlk hop2 => e5 k ok y hk (set_cases hlk) hop2⟩
  · intro j j' oj oj' x x' g g' hj hj' hl hl' ha ha' hx hx' hne hg hg'
    rcases set_cases hl with rfl | hm
    · have : oj = o := Option.some.inj (hj.symm.trans hi)
      subst this
      rcases set_cases hl' with rfl | hl'
      · exact absurd rfl hne
      · rw [hx, put_eq (by rw [h.sz]; exact hdst x hx)] at hg
        rw [put_ne (other j' oj' x' hj' (Ne.symm hne) hx')] at hg'
        exact Ne.symm (hapart ha j' oj' x' x g' g hj' hl' ha' hx' hx hg' hg)
    · have hne1 : j ≠ i := fun e => by rw [e] at hm; rw [hm] at hu; cases hu
      rw [put_ne (other j oj x hj hne1 hx)] at hg
      rcases set_cases hl' with rfl | hl'
      · have : oj' = o := Option.some.inj (hj'.symm.trans hi)
        subst this
        rw [hx', put_eq (by rw [h.sz]; exact hdst x' hx')] at hg'
        exact hapart ha' j oj x x' g g' hj hm ha hx hx' hg hg'
      · have hne2 : j' ≠ i := fun e => by rw [e] at hl'; rw [hl'] at hu; cases hu
        rw [put_ne (other j' oj' x' hj' hne2 hx')] at hg'
        exact h.apart j j' oj oj' x x' g g' hj hj' hm hl' ha ha' hx hx' hne hg hg'

theorem early_spec {l : List Oper} {i s : Nat} (h : early l i s = true) {j : Nat} {oj : Oper} (hj : l[j]? = some oj) (hd : oj.dst = some s) : j < i ∧ waitsFor l i j = true := by
  have hlt : j < l.length := (List.getElem?_eq_some_iff.1 hj).1
  have := List.all_eq_true.1 h j (List.mem_range.2 hlt)
  simpa only [hj, Option.bind_some, hd, bne_self_eq_false, Bool.false_or, Bool.and_eq_true, decide_eq_true_eq] using this
theorem isAl_iff {o : Oper} : isAl o = true ↔ ∃ t, o.op = .alloc t := by
  unfold isAl
  constructor
  · intro h; split at h
    · rename_i t ht; exact ⟨t, ht⟩
    · cases h
  · rintro ⟨t, ht⟩; rw [ht]
theorem kind_other {l : List Oper} {i : Nat} {o : Oper} (h1 : ¬ ∃ t, o.op = .alloc t) (h2 : ¬ ∃ t x y, o.op = .store t x y) (h : kindOk l i o = true) : ∀ s ∈ tmpsOf o.op.operands, noAl l s = true ∧ orderly l i s = true := by
  unfold kindOk at h
  split at h
  · rename_i t ht; exact absurd ⟨t, ht⟩ h1
  · rename_i t x y ht; exact absurd ⟨t, x, y, ht⟩ h2
  · intro s hs
    have := List.all_eq_true.1 h s hs
    simpa only [Bool.and_eq_true] using this
theorem tame_other {o : Oper} (h1 : ¬ ∃ t, o.op = .alloc t) (h2 : ¬ ∃ t x y, o.op = .store t x y) : tame o = o := by
  unfold tame
  split
  · rename_i t ht; exact absurd ⟨t, ht⟩ h1
  · rename_i t x y ht; exact absurd ⟨t, x, y, ht⟩ h2
  · rfl
theorem tame_dst (o : Oper) : (tame o).dst = o.dst := by unfold tame; split <;> rfl
theorem tame_guard (o : Oper) : (tame o).guard = o.guard := by unfold tame; split <;> rfl
theorem kind_store {l : List Oper} {i : Nat} {o : Oper} {t : TypeId} {x y : Operand} (hop : o.op = .store t x y) (h : kindOk l i o = true) :
    ∃ x', x = .tmp x' ∧ o.dst = none ∧ (∃ j oj, j < i ∧ waitsFor l i j = true ∧ l[j]? = some oj ∧ oj.op = .alloc t ∧ oj.dst = some x') ∧ (∀ s ∈ tmpsOf #[y], noAl l s = true ∧ early l i s = true) ∧
      ∀ (j : Nat) (oj : Oper) (t' : TypeId) (y' : Operand), l[j]? = some oj → oj.op = .store t' (.tmp x') y' → j = i := by
  unfold kindOk at h
  rw [hop] at h
  simp only at h
  split at h
  · rename_i x'
    simp only [Bool.and_eq_true] at h
    obtain ⟨⟨⟨h1, h2⟩, h3⟩, h4⟩ := h
    refine ⟨x', rfl, by simpa using h1, ?_, ?_, ?_⟩
    · obtain ⟨j, hj, hj2⟩ := List.any_eq_true.1 h2
      simp only [Bool.and_eq_true, decide_eq_true_eq] at hj2
      obtain ⟨⟨hji, hw⟩, hk⟩ := hj2
      split at hk
      · rename_i oj hoj
        simp only [Bool.and_eq_true] at hk
        obtain ⟨hk1, hk2⟩ := hk
        split at hk1
        · rename_i t' ht'
          have : t' = t := by simpa using hk1
          subst this
          exact ⟨j, oj, hji, hw, hoj, ht', by simpa using hk2⟩
        · cases hk1
      · cases hk
    · intro s hs
      have := List.all_eq_true.1 h3 s hs
      simpa only [Bool.and_eq_true] using this
    · intro j oj t' y' hj hop'
      have hlt : j < l.length := (List.getElem?_eq_some_iff.1 hj).1
      have := List.all_eq_true.1 h4 j (List.mem_range.2 hlt)
      simp [hj, hop'] at this
      exact this
  · cases h
theorem below_setRow {w0 w : World} (h : Below w0.heap.size w0 w) {g : Nat} (hg : w0.heap.size ≤ g) (cs : Array Value) : Below w0.heap.size w0 (w.setRow g cs) :=
  ⟨h.os, h.tape, h.output, by simpa [World.setRow] using h.size, fun k hk => (setRow_other w g k cs (by omega)).trans (h.block k hk)⟩

section
variable {P : Program} {l : List Oper} {a0 aE : Act} {w0 : World} {Z : TypeId → Nat}

theorem Inv.step {Q : Exit → Act → World → Prop} {K : Act → World → Prop} (hok : madeOk l = true) (hsz : ∀ o ∈ l, ∀ s, o.dst = some s → s < a0.tmps.size)
    (H : ∀ u, Below w0.heap.size w0 u → wpQuiet P (l.map tame).toArray (fun w' => ∃ e, w' = ext u e) (fun a' => a' = aE) (l.map tame) a0)
    (hal : ∀ o ∈ l, ∀ t, o.op = .alloc t → ∃ z : Array Value, z.size = Z t ∧ ∀ u : World, (Instr.alloc t true (.tuple #[])).run P u = .ok (.pointer (some ⟨u.heap.size, 0, none⟩)) (u.alloc (.cells z t)))
    (hst : ∀ o ∈ l, ∀ t x y, o.op = .store t x y → ∃ cells, aE.eval y = .agg cells ∧ (P.info? t).map (·.size) = some cells.size ∧ cells.all (·.oneCell') = true ∧ Z t = cells.size)
    {listed : Array Bool} {a : Act} {w : World} (h : Inv l a0 aE w0 Z listed a w) {i : Nat} (hi : i ∈ Region.ready .any l.toArray listed)
    (hK : ∀ a' w', Inv l a0 aE w0 Z (listed.setIfInBounds i true) a' w' → K a' w') : wpOp P l.toArray Q i K a w := by
  obtain ⟨hu', o, ho', hall⟩ := mem_ready.1 hi
  have hu := both_of hu'
  have ho : l[i]? = some o := by simpa using ho'
  have hmem := List.mem_of_getElem? ho
  have hk := opOk_spec (madeOk_at hok ho)
  have hw : Region.wanted o (yielded l.toArray a.tmps) = true := by simp [Region.wanted, hk.guard]
  unfold wpOp
  simp only [ho', hw, if_true]
  left
  -- the facts of the text's order
  have mapAt : ∀ (j : Nat) (oj : Oper), l[j]? = some oj → (l.map tame)[j]? = some (tame oj) := fun j oj hj => by simp [hj]
  have mapOf : ∀ (j : Nat) (oj : Oper), (l.map tame)[j]? = some oj → ∃ o', l[j]? = some o' ∧ oj.dst = o'.dst := fun j oj hj => by
    simp only [List.getElem?_map, Option.map_eq_some_iff] at hj
    obtain ⟨o', ho', rfl⟩ := hj
    exact ⟨o', ho', tame_dst o'⟩
  have lex := fun u (hb : Below w0.heap.size w0 u) => lexical (C := fun w' => ∃ e, w' = ext u e) (l.map tame) a0
    (fun o' h' => by
      obtain ⟨o2, h2, rfl⟩ := List.mem_map.1 h'
      obtain ⟨j, hj⟩ := List.getElem?_of_mem h2
      rw [tame_guard]; exact (opOk_spec (madeOk_at hok hj)).guard)
    (fun i j oi oj s h1 h2 h3 h4 => by
      obtain ⟨oi', e1, e2⟩ := mapOf i oi h1
      obtain ⟨oj', e3, e4⟩ := mapOf j oj h2
      exact ((opOk_spec (madeOk_at hok e1)).dst j oj' s e3 (by rw [← e2]; exact h3) (by rw [← e4]; exact h4)).symm)
    (fun o' h' s h2 => by
      obtain ⟨o2, h3, rfl⟩ := List.mem_map.1 h'
      exact hsz o2 h3 s (by rw [← tame_dst]; exact h2)) (H u hb)
  by_cases hA : ∃ t, o.op = .alloc t
  · obtain ⟨t, hop⟩ := hA
    obtain ⟨z, hz, hrun⟩ := hal o hmem t hop
    unfold Oper.wp execOp
    simp only [hop, Sem.run_bind, hrun, Result.andThen_ok, Sem.run_pure]
    refine hK _ _ ?_
    have hb : Below w0.heap.size w0 (w.alloc (.cells z t)) := below_alloc h.below _
    obtain ⟨x, hx⟩ : ∃ x, o.dst = some x := by
      have := hk.kind
      simp only [kindOk, hop] at this
      exact Option.isSome_iff_exists.1 this
    refine h.next hok ho hu hall _ _ hb (fun h2 => by rw [isAl_iff.2 ⟨t, hop⟩] at h2; cases h2) (fun s hs => hsz o hmem s hs) ?_ ?_
    · intro j oj t' x' hj hor hop' hx'
      rcases hor with rfl | hl
      · have : oj = o := Option.some.inj (hj.symm.trans ho)
        subst this
        have : x = x' := Option.some.inj (hx.symm.trans hx')
        subst this
        have : t' = t := by rw [hop] at hop'; injection hop' with e; exact e.symm
        subst this
        refine ⟨w.heap.size, z, by rw [hx, put_eq (by rw [h.sz]; exact hsz oj hmem x hx)], h.below.size, heap_alloc_new w _, hz, ?_⟩
        intro k ok y hk2 hor2 hop2
        exfalso
        rcases hor2 with rfl | hl2
        · have : ok = oj := Option.some.inj (hk2.symm.trans hj)
          subst this
          rw [hop] at hop2; cases hop2
        · obtain ⟨x2, e1, _, ⟨j2, oj2, _, hw2, hj2, hop3, hx3⟩, _, _⟩ := kind_store hop2 (opOk_spec (madeOk_at hok hk2)).kind
          have : x = x2 := by injection e1
          subst this
          have : j2 = j := hk.dst j2 oj2 x hj2 hx hx3
          subst this
          obtain ⟨e, he, hbd, hon⟩ := waits_spec hk2 hw2
          have := h.closed k ok hk2 hl2 e he hbd
          rw [hon, hu] at this
          cases this
      · have hne : j ≠ i := fun e => by rw [e] at hl; rw [hl] at hu; cases hu
        obtain ⟨g, cs, e1, e2, e3, e4, e5⟩ := h.made j oj t' x' hj hl hop' hx'
        have hg : g < w.heap.size := (Array.getElem?_eq_some_iff.1 e3).1
        refine ⟨g, cs, by rw [put_ne (fun e => hne (hk.dst j oj x' hj e hx')), e1], e2, ?_, e4, ?_⟩
        · exact (heap_alloc_old w _ hg).trans e3
        · intro k ok y hk2 hor2 hop2
          rcases hor2 with rfl | hl2
          · have : ok = o := Option.some.inj (hk2.symm.trans ho)
            subst this
            rw [hop] at hop2; cases hop2
          · exact e5 k ok y hk2 hl2 hop2
    · intro _ j oj x1 x2 g g' hj hl ha hx1 hx2 hg hg'
      obtain ⟨t1, ht1⟩ := isAl_iff.1 ha
      obtain ⟨g2, cs, e1, e2, e3, _, _⟩ := h.made j oj t1 x1 hj hl ht1 hx1
      have : g = g2 := by rw [hg] at e1; injection e1 with e1; injection e1 with e1; injection e1
      subst this
      have hg2 : g < w.heap.size := (Array.getElem?_eq_some_iff.1 e3).1
      have : w.heap.size = g' := by injection hg' with e1; injection e1 with e1; injection e1
      omega
  · by_cases hS : ∃ t x y, o.op = .store t x y
    · obtain ⟨t, x, y, hop⟩ := hS
      obtain ⟨cells, c1, c2, c3, c4⟩ := hst o hmem t x y hop
      obtain ⟨x', rfl, hd, ⟨j, oj, hji, hwt, hj, hopj, hxj⟩, hy, huniq⟩ := kind_store hop hk.kind
      obtain ⟨e, he, hbd, hon⟩ := waits_spec ho hwt
      have hlj : listed.getD j false = true := by have := hall e he hbd; rwa [hon] at this
      obtain ⟨g, cs, e1, e2, e3, e4, e5⟩ := h.made j oj t x' hj hlj hopj hxj
      have hyE : a.eval y = aE.eval y := by
        cases y with
        | tmp s =>
          obtain ⟨n1, n2⟩ := hy s (by simp [tmpsOf])
          show a.tmps.getD s undef = aE.tmps.getD s undef
          by_cases hp : ∃ (k : Nat) (ok : Oper), l[k]? = some ok ∧ ok.dst = some s
          · obtain ⟨k, ok, hk1, hk2⟩ := hp
            obtain ⟨_, hwk⟩ := early_spec n2 hk1 hk2
            obtain ⟨e, he, hbd, hon⟩ := waits_spec ho hwk
            have hlk : listed.getD k false = true := by have := hall e he hbd; rwa [hon] at this
            exact h.val k ok s hk1 hlk (noAl_spec n1 hk1 hk2) hk2
          · rw [h.old s (fun k ok hk1 _ hk2 => hp ⟨k, ok, hk1, hk2⟩)]
            refine ((lex w0 (Below.refl _ _)).1.2.2 s fun o' h' hk2 => ?_)
            obtain ⟨o2, h3, rfl⟩ := List.mem_map.1 h'
            obtain ⟨k, hk1⟩ := List.getElem?_of_mem h3
            exact hp ⟨k, o2, hk1, by rw [← tame_dst]; exact hk2⟩
        | const v => rfl
        | global g => rfl
        | func f => rfl
      refine wp_store_row t (.tmp x') y hop g cells e1 (hyE.trans c1) t cs e3 c2 (by rw [e4, c4]) c3 (hK _ _ ?_)
      have hb : Below w0.heap.size w0 (w.setRow g cells) := below_setRow h.below e2 _
      have hnal : isAl o = false := by
        cases h2 : isAl o with
        | false => rfl
        | true => exact absurd (isAl_iff.1 h2) hA
      refine h.next hok ho hu hall _ _ hb (fun _ s hs => by rw [hd] at hs; cases hs) (fun s hs => hsz o hmem s hs) ?_ (fun h2 => by rw [hnal] at h2; cases h2)
      intro j' oj' t' x'' hj' hor hop' hx''
      rcases hor with rfl | hl
      · have : oj' = o := Option.some.inj (hj'.symm.trans ho)
        subst this
        rw [hop] at hop'; cases hop'
      · by_cases hjj : j' = j
        · subst hjj
          have : oj' = oj := Option.some.inj (hj'.symm.trans hj)
          subst this
          have : x' = x'' := Option.some.inj (hxj.symm.trans hx'')
          subst this
          have : t' = t := by rw [hopj] at hop'; injection hop' with e; exact e.symm
          subst this
          refine ⟨g, cells, by rw [put_ne (by rw [hd]; simp), e1], e2, setRow_heap w g cs cells t' (0, 0) e3, c4.symm, ?_⟩
          intro k ok y' hk2 hor2 hop2
          have : k = i := huniq k ok t' y' hk2 hop2
          subst this
          have : ok = o := Option.some.inj (hk2.symm.trans ho)
          subst this
          rw [hop] at hop2
          injection hop2 with _ _ e6
          rw [← e6]; exact c1
        · obtain ⟨g', cs', f1, f2, f3, f4, f5⟩ := h.made j' oj' t' x'' hj' hl hop' hx''
          have hgg : g' ≠ g := h.apart j' j oj' oj x'' x' g' g hj' hj hl hlj (isAl_iff.2 ⟨t', hop'⟩) (isAl_iff.2 ⟨t, hopj⟩) hx'' hxj hjj f1 e1
          refine ⟨g', cs', by rw [put_ne (by rw [hd]; simp), f1], f2, (setRow_other w g g' cells hgg).trans f3, f4, ?_⟩
          intro k ok y' hk2 hor2 hop2
          rcases hor2 with rfl | hl2
          · exfalso
            have : ok = o := Option.some.inj (hk2.symm.trans ho)
            subst this
            rw [hop] at hop2
            injection hop2 with _ e6 _
            have : x' = x'' := by injection e6
            subst this
            exact hjj ((opOk_spec (madeOk_at hok hj)).dst j' oj' x' hj' hxj hx'')
          · exact f5 k ok y' hk2 hl2 hop2
    · have hto := tame_other hA hS
      have hkind := kind_other hA hS hk.kind
      obtain ⟨aL, v, q1, q2, q3, q4⟩ := (lex w h.below).2 i (tame o) (mapAt i o ho)
      rw [hto] at q1 q2
      have hsame : execOp a.eval o = execOp aL.eval o := by
        refine execOp_congr o (fun cs b h2 => by have := hk.sel; simp [isSel, h2] at this) fun x hx => ?_
        cases x with
        | tmp s =>
          obtain ⟨n1, n2⟩ := hkind s (List.mem_filterMap.2 ⟨.tmp s, by simpa using hx, rfl⟩)
          show a.tmps.getD s undef = aL.tmps.getD s undef
          by_cases hp : ∃ (k : Nat) (ok : Oper), k < i ∧ l[k]? = some ok ∧ ok.dst = some s
          · obtain ⟨k, ok, hki, hk1, hk2⟩ := hp
            rcases orderly_spec n2 hk1 hk2 with h3 | ⟨_, h3⟩ | ⟨h3, _⟩
            · omega
            · obtain ⟨e, he, hbd, hon⟩ := waits_spec ho h3
              have hlk : listed.getD k false = true := by have := hall e he hbd; rwa [hon] at this
              rw [h.val k ok s hk1 hlk (noAl_spec n1 hk1 hk2) hk2, q4 s k (tame ok) hki (mapAt k ok hk1) (by rw [tame_dst]; exact hk2)]
            · omega
          · rw [h.old s (fun k ok hk1 hlk hk2 => ?_), q3 s (fun k ok hki hk1 hk2 => ?_)]
            · obtain ⟨o', ho', ed⟩ := mapOf k ok hk1
              exact hp ⟨k, o', hki, ho', by rw [← ed]; exact hk2⟩
            · rcases orderly_spec n2 hk1 hk2 with rfl | ⟨h3, _⟩ | ⟨_, h3⟩
              · rw [hlk] at hu; cases hu
              · exact hp ⟨k, ok, h3, hk1, hk2⟩
              · obtain ⟨e, he, hbd, hon⟩ := waits_spec hk1 h3
                have := h.closed k ok hk1 hlk e he hbd
                rw [hon, hu] at this
                cases this
        | const v => rfl
        | global g => rfl
        | func f => rfl
      have hq : o.quiet P a (fun w' => ∃ e, w' = ext w e) (fun a' => a' = a.put o.dst v) := by
        refine ⟨v, fun u hu2 => ?_, rfl⟩
        have := q1 u hu2
        unfold Oper.quietAt at this ⊢
        rw [hsame]; exact this
      refine Oper.wp_of_quiet (C := fun w' => ∃ e, w' = ext w e) ⟨w, ext_of (Below.refl _ _)⟩ (fun a' w' hw' ha' => ?_) hq
      subst ha'
      obtain ⟨e, rfl⟩ := hw'
      have hbe : Below w.heap.size w (ext w e) := ext_below w e
      have hnal : isAl o = false := by
        cases h2 : isAl o with
        | false => rfl
        | true => exact absurd (isAl_iff.1 h2) hA
      refine hK _ _ (h.next hok ho hu hall _ _ (below_step h.below hbe) (fun _ s hs => (q2 s hs).symm) (fun s hs => hsz o hmem s hs) ?_ (fun h2 => by rw [hnal] at h2; cases h2))
      intro j oj t x hj hor hop hx
      rcases hor with rfl | hl
      · have : oj = o := Option.some.inj (hj.symm.trans ho)
        subst this
        exact absurd ⟨t, hop⟩ hA
      · have hne : j ≠ i := fun e => by rw [e] at hl; rw [hl] at hu; cases hu
        obtain ⟨g, cs, e1, e2, e3, e4, e5⟩ := h.made j oj t x hj hl hop hx
        refine ⟨g, cs, by rw [put_ne (fun e => hne (hk.dst j oj x hj e hx)), e1], e2, (hbe.block g (Array.getElem?_eq_some_iff.1 e3).1).trans e3, e4, ?_⟩
        intro k ok y hk2 hor2 hop2
        rcases hor2 with rfl | hl2
        · have : ok = o := Option.some.inj (hk2.symm.trans ho)
          subst this
          exact absurd ⟨_, _, _, hop2⟩ hS
        · exact e5 k ok y hk2 hl2 hop2
end

theorem run_alloc_of {P : Program} {t : TypeId} {z : Value} {n : Nat} (hi : (P.info? t).map (fun i => (i.zero, i.size)) = some (some z, n)) (u : World) :
    (Instr.alloc t true (.tuple #[])).run P u = .ok (.pointer (some ⟨u.heap.size, 0, none⟩)) (u.alloc (.cells z.cells t)) := by
  obtain ⟨i, hi1, hi2⟩ := Option.map_eq_some_iff.1 hi
  simp only [Prod.mk.injEq] at hi2
  simp [Instr.alloc, zeroValue, typeInfo, hi1, hi2.1, go_sem]

theorem repl_false (m j : Nat) : (Array.replicate m false).getD j false = false := by
  rcases Nat.lt_or_ge j m with h | h
  · simp [h]
  · simp [h]
/-- How many of the first n are not listed. -/
def unl (listed : Array Bool) : Nat → Nat
  | 0 => 0
  | k + 1 => unl listed k + if listed.getD k false = true then 0 else 1
theorem unl_zero {listed : Array Bool} {n : Nat} (h : unl listed n = 0) : ∀ j, j < n → listed.getD j false = true := by
  induction n with
  | zero => intro j hj; omega
  | succ n ih =>
    intro j hj
    simp only [unl] at h
    by_cases e : listed.getD n false = true
    · rw [if_pos e] at h
      rcases Nat.lt_or_ge j n with h1 | h1
      · exact ih (by omega) j h1
      · obtain rfl : j = n := by omega
        exact e
    · rw [if_neg e] at h; omega
theorem unl_same {listed listed' : Array Bool} {n : Nat} (h : ∀ j, j < n → listed.getD j false = listed'.getD j false) : unl listed n = unl listed' n := by
  induction n with
  | zero => rfl
  | succ n ih => simp only [unl]; rw [ih fun j hj => h j (by omega), h n (by omega)]
theorem unl_set {listed : Array Bool} {n i : Nat} (hi : i < n) (hs : n ≤ listed.size) (h : listed.getD i false = false) : unl (listed.setIfInBounds i true) n + 1 = unl listed n := by
  induction n with
  | zero => omega
  | succ n ih =>
    simp only [unl]
    rcases Nat.lt_or_ge i n with h1 | h1
    · have := ih h1 (by omega)
      rw [getD_set_ne false (by omega : i ≠ n)]
      omega
    · obtain rfl : i = n := by omega
      rw [unl_same (listed' := listed) fun j hj => getD_set_ne false (by omega), set_at (by omega), h]
      simp

section
variable {P : Program} {l : List Oper} {a0 aE : Act} {w0 : World}

theorem ready_all {Z : TypeId → Nat} {listed : Array Bool} {a : Act} {w : World} (hok : madeOk l = true) (h : Inv l a0 aE w0 Z listed a w) (hr : Region.ready .any l.toArray listed = []) : ∀ j, j < l.length → listed.getD j false = true := by
  intro j
  induction j using Nat.strongRecOn with
  | _ j ih =>
    intro hj
    cases e : listed.getD j false with
    | true => rfl
    | false =>
      exfalso
      have hoj : l[j]? = some l[j] := List.getElem?_eq_getElem hj
      have hk := opOk_spec (madeOk_at hok hoj)
      have : j ∈ Region.ready .any l.toArray listed := by
        refine mem_ready.2 ⟨?_, l[j], by simp, fun e he hb => ?_⟩
        · have hs : j < listed.size := by rw [h.size]; exact hj
          simp [hs] at e ⊢
          exact e
        · have := hk.after e he hb
          exact ih e.on this (by omega)
      rw [hr] at this
      cases this

theorem wpAny_made {Z : TypeId → Nat} {Q : Exit → Act → World → Prop} (hok : madeOk l = true) (hsz : ∀ o ∈ l, ∀ s, o.dst = some s → s < a0.tmps.size)
    (H : ∀ u, Below w0.heap.size w0 u → wpQuiet P (l.map tame).toArray (fun w' => ∃ e, w' = ext u e) (fun a' => a' = aE) (l.map tame) a0)
    (hal : ∀ o ∈ l, ∀ t, o.op = .alloc t → ∃ z : Array Value, z.size = Z t ∧ ∀ u : World, (Instr.alloc t true (.tuple #[])).run P u = .ok (.pointer (some ⟨u.heap.size, 0, none⟩)) (u.alloc (.cells z t)))
    (hst : ∀ o ∈ l, ∀ t x y, o.op = .store t x y → ∃ cells, aE.eval y = .agg cells ∧ (P.info? t).map (·.size) = some cells.size ∧ cells.all (·.oneCell') = true ∧ Z t = cells.size)
    (K : ∀ listed a w, Inv l a0 aE w0 Z listed a w → (∀ j, j < l.length → listed.getD j false = true) → Q .normal a w) :
    ∀ fuel listed a w, Inv l a0 aE w0 Z listed a w → unl listed l.length ≤ fuel → wpAny P .any l.toArray Q fuel listed a w := by
  intro fuel
  induction fuel with
  | zero =>
    intro listed a w h hf
    have hall := unl_zero (by omega : unl listed l.length = 0)
    refine ⟨?_, K _ _ _ h hall⟩
    cases hr : Region.ready .any l.toArray listed with
    | nil => rfl
    | cons i rs =>
      exfalso
      have hi : i ∈ Region.ready .any l.toArray listed := by rw [hr]; simp
      obtain ⟨hu, o, ho, _⟩ := mem_ready.1 hi
      have := hall i (by have := (Array.getElem?_eq_some_iff.1 ho).1; simpa using this)
      rw [both_of hu] at this
      cases this
  | succ fuel ih =>
    intro listed a w h hf
    refine ⟨fun hr => K _ _ _ h (ready_all hok h hr), fun i hi => ?_⟩
    refine h.step hok hsz H hal hst hi fun a' w' h' => ih _ a' w' h' ?_
    obtain ⟨hu, o, ho, _⟩ := mem_ready.1 hi
    have hlt : i < l.length := by have := (Array.getElem?_eq_some_iff.1 ho).1; simpa using this
    have := unl_set hlt (by rw [h.size]; exact Nat.le_refl _) (both_of hu)
    omega

/-- The slots of the new variables. -/
def alSlots (l : List Oper) : List Nat := l.filterMap fun o => match o.op with | .alloc _ => o.dst | _ => none
/-- What the new variables hold: each its struct, in a block of its own behind all that was. -/
def madeFacts (aE : Act) (G : Nat → Nat) (w0 w : World) : List Oper → Prop
  | [] => True
  | o :: l => (match o.op with | .store t (.tmp x) y => w0.heap.size ≤ G x ∧ w.heap[G x]? = some (.cells (aE.eval y).cells t (0, 0)) | _ => True) ∧ madeFacts aE G w0 w l
theorem madeFacts_of {aE : Act} {G : Nat → Nat} {w0 w : World} : ∀ (l : List Oper), (∀ o ∈ l, ∀ t x y, o.op = .store t (.tmp x) y → w0.heap.size ≤ G x ∧ w.heap[G x]? = some (.cells (aE.eval y).cells t (0, 0))) → madeFacts aE G w0 w l
  | [], _ => trivial
  | o :: l, h => ⟨by
      split
      · rename_i t x y hop; exact h o (by simp) t x y hop
      · trivial, madeFacts_of l fun o' h' => h o' (by simp [h'])⟩
def putAll (G : Nat → Nat) : List Nat → Act → Act
  | [], a => a
  | x :: xs, a => putAll G xs (a.put (some x) (.pointer (some ⟨G x, 0, none⟩)))
theorem putAll_size (G : Nat → Nat) : ∀ (xs : List Nat) (a : Act), (putAll G xs a).tmps.size = a.tmps.size ∧ (putAll G xs a).defers = a.defers
  | [], _ => ⟨rfl, rfl⟩
  | x :: xs, a => by
    obtain ⟨h1, h2⟩ := putAll_size G xs (a.put (some x) (.pointer (some ⟨G x, 0, none⟩)))
    exact ⟨h1.trans put_size, h2.trans put_defers⟩
theorem putAll_get (G : Nat → Nat) : ∀ (xs : List Nat) (a : Act) (s : Nat), (∀ x ∈ xs, x < a.tmps.size) → (putAll G xs a).tmps.getD s undef = if s ∈ xs then .pointer (some ⟨G s, 0, none⟩) else a.tmps.getD s undef
  | [], a, s, _ => by simp [putAll]
  | x :: xs, a, s, h => by
    rw [putAll, putAll_get G xs _ s (fun y hy => by rw [put_size]; exact h y (by simp [hy]))]
    by_cases h1 : s ∈ xs
    · simp [h1]
    · rw [if_neg h1]
      by_cases h2 : s = x
      · subst h2
        rw [put_eq (h s (by simp))]; simp
      · rw [put_ne (fun e => h2 (by injection e with e; exact e.symm)), if_neg (by simp [h1, h2])]
theorem act_ext {a b : Act} (h1 : a.tmps.size = b.tmps.size) (h2 : a.defers = b.defers) (h3 : ∀ s, a.tmps.getD s undef = b.tmps.getD s undef) : a = b := by
  cases a with
  | mk t d =>
    cases b with
    | mk t' d' =>
      simp only at h1 h2 h3
      subst h2
      congr 1
      refine Array.ext h1 fun i hi hi' => ?_
      have := h3 i
      simpa [hi, hi'] using this

theorem region_made0 {id : Nat} {Q : Exit → Act → World → Prop} (aE : Act) (hm : P.follows .mixedOrders = true) (hok : madeOk l = true) (hsz : ∀ o ∈ l, ∀ s, o.dst = some s → s < a0.tmps.size)
    (H : ∀ u, Below w0.heap.size w0 u → wpQuiet P (l.map tame).toArray (fun w' => ∃ e, w' = ext u e) (fun a' => a' = aE) (l.map tame) a0)
    (hal : ∀ o ∈ l, ∀ t, o.op = .alloc t → ∃ z n, (P.info? t).map (fun i => (i.zero, i.size)) = some (some z, n) ∧ z.cells.size = n)
    (hst : ∀ o ∈ l, ∀ t x y, o.op = .store t x y → ∃ cells, aE.eval y = .agg cells ∧ (P.info? t).map (·.size) = some cells.size ∧ cells.all (·.oneCell') = true)
    (K : ∀ G w, Below w0.heap.size w0 w → madeFacts aE G w0 w l → (∀ x ∈ alSlots l, ∀ x' ∈ alSlots l, x ≠ x' → G x ≠ G x') → Q .normal (putAll G (alSlots l) aE) w) : (Code.region id l.toArray true).wp P Q a0 w0 := by
  refine wp_region_any hm ?_
  refine wpAny_made (Z := fun t => ((P.info? t).map (·.size)).getD 0) hok hsz H ?_ ?_ ?_ _ _ _ _ ?_ ?_
  · intro o ho t hop
    obtain ⟨z, n, h1, h2⟩ := hal o ho t hop
    refine ⟨z.cells, ?_, run_alloc_of h1⟩
    obtain ⟨i, hi1, hi2⟩ := Option.map_eq_some_iff.1 h1
    simp only [Prod.mk.injEq] at hi2
    simp [hi1, hi2.2, h2]
  · intro o ho t x y hop
    obtain ⟨cells, h1, h2, h3⟩ := hst o ho t x y hop
    exact ⟨cells, h1, h2, h3, by simp only [h2]; rfl⟩
  · intro listed a w h hall
    have lex := lexical (C := fun w' => ∃ e, w' = ext w0 e) (l.map tame) a0
      (fun o' h' => by
        obtain ⟨o2, h2, rfl⟩ := List.mem_map.1 h'
        obtain ⟨j, hj⟩ := List.getElem?_of_mem h2
        rw [tame_guard]; exact (opOk_spec (madeOk_at hok hj)).guard)
      (fun i j oi oj s h1 h2 h3 h4 => by
        simp only [List.getElem?_map, Option.map_eq_some_iff] at h1 h2
        obtain ⟨oi', e1, rfl⟩ := h1
        obtain ⟨oj', e3, rfl⟩ := h2
        rw [tame_dst] at h3 h4
        exact ((opOk_spec (madeOk_at hok e1)).dst j oj' s e3 h3 h4).symm)
      (fun o' h' s h2 => by
        obtain ⟨o2, h3, rfl⟩ := List.mem_map.1 h'
        exact hsz o2 h3 s (by rw [← tame_dst]; exact h2)) (H w0 (Below.refl _ _))
    obtain ⟨⟨x1, x2, x3⟩, _⟩ := lex
    let G : Nat → Nat := fun x => match a.tmps.getD x undef with | .pointer (some ad) => ad.block | _ => 0
    have listedAll : ∀ (j : Nat) (oj : Oper), l[j]? = some oj → listed.getD j false = true := fun j oj hj => hall j (List.getElem?_eq_some_iff.1 hj).1
    have hG : ∀ x g, a.tmps.getD x undef = .pointer (some ⟨g, 0, none⟩) → G x = g := fun x g e => by show (match a.tmps.getD x undef with | .pointer (some ad) => ad.block | _ => 0) = g; rw [e]
    have inSlots : ∀ x, x ∈ alSlots l ↔ ∃ (j : Nat) (oj : Oper) (t : TypeId), l[j]? = some oj ∧ oj.op = .alloc t ∧ oj.dst = some x := by
      intro x
      unfold alSlots
      rw [List.mem_filterMap]
      constructor
      · rintro ⟨o, ho, h2⟩
        obtain ⟨j, hj⟩ := List.getElem?_of_mem ho
        split at h2
        · rename_i t ht; exact ⟨j, o, t, hj, ht, h2⟩
        · cases h2
      · rintro ⟨j, oj, t, hj, ht, hx⟩
        exact ⟨oj, List.mem_of_getElem? hj, by rw [ht]; exact hx⟩
    have e : a = putAll G (alSlots l) aE := by
      have hp := putAll_size G (alSlots l) aE
      refine act_ext (by rw [h.sz, hp.1, x1]) (by rw [h.defs, hp.2, x2]) fun s => ?_
      rw [putAll_get G (alSlots l) aE s fun x hx => by
        obtain ⟨j, oj, t, hj, _, hd⟩ := (inSlots x).1 hx
        rw [← x1]; exact hsz oj (List.mem_of_getElem? hj) x hd]
      split
      · rename_i hs
        obtain ⟨j, oj, t, hj, ht, hd⟩ := (inSlots s).1 hs
        obtain ⟨g, cs, e1, _⟩ := h.made j oj t s hj (listedAll j oj hj) ht hd
        rw [e1, hG s g e1]
      · rename_i hs
        by_cases hp2 : ∃ (k : Nat) (ok : Oper), l[k]? = some ok ∧ ok.dst = some s
        · obtain ⟨k, ok, hk1, hk2⟩ := hp2
          refine h.val k ok s hk1 (listedAll k ok hk1) ?_ hk2
          cases hA : isAl ok with
          | false => rfl
          | true =>
            obtain ⟨t, ht⟩ := isAl_iff.1 hA
            exact absurd ((inSlots s).2 ⟨k, ok, t, hk1, ht, hk2⟩) hs
        · rw [h.old s (fun k ok hk1 _ hk2 => hp2 ⟨k, ok, hk1, hk2⟩)]
          refine x3 s fun o' h' hk2 => ?_
          obtain ⟨o2, h3, rfl⟩ := List.mem_map.1 h'
          obtain ⟨k, hk1⟩ := List.getElem?_of_mem h3
          exact hp2 ⟨k, o2, hk1, by rw [← tame_dst]; exact hk2⟩
    rw [e]
    refine K G w h.below (madeFacts_of l fun o ho t x y hop => ?_) fun x hx x' hx' hne => ?_
    · obtain ⟨i, hi⟩ := List.getElem?_of_mem ho
      obtain ⟨x2, e2, _, ⟨j, oj, _, _, hj, hopj, hxj⟩, _, _⟩ := kind_store hop (opOk_spec (madeOk_at hok hi)).kind
      have : x = x2 := by injection e2
      subst this
      obtain ⟨g, cs, e1, e3, e4, _, e5⟩ := h.made j oj t x hj (listedAll j oj hj) hopj hxj
      rw [hG x g e1]
      exact ⟨e3, by rw [e5 i o y hi (listedAll i o hi) hop]; exact e4⟩
    · obtain ⟨j, oj, t, hj, ht, hd⟩ := (inSlots x).1 hx
      obtain ⟨j', oj', t', hj', ht', hd'⟩ := (inSlots x').1 hx'
      obtain ⟨g, cs, e1, _⟩ := h.made j oj t x hj (listedAll j oj hj) ht hd
      obtain ⟨g', cs', e1', _⟩ := h.made j' oj' t' x' hj' (listedAll j' oj' hj') ht' hd'
      rw [hG x g e1, hG x' g' e1']
      refine h.apart j j' oj oj' x x' g g' hj hj' (listedAll j oj hj) (listedAll j' oj' hj') (isAl_iff.2 ⟨t, ht⟩) (isAl_iff.2 ⟨t', ht'⟩) hd hd' (fun e => ?_) e1 e1'
      subst e
      have : oj' = oj := Option.some.inj (hj'.symm.trans hj)
      subst this
      exact hne (Option.some.inj (hd.symm.trans hd'))
  · have hf : ∀ j, (Array.replicate l.toArray.size false).getD j false = true → False := fun j h => by rw [repl_false] at h; cases h
    exact ⟨by simp, fun j oj _ h2 => (hf j h2).elim, (Below.refl _ _).drew, rfl, rfl, fun s _ => rfl, fun j oj s _ h2 => (hf j h2).elim, fun j oj t x _ h2 => (hf j h2).elim, fun j j' oj oj' x x' g g' _ _ h2 => (hf j h2).elim⟩
  · have : ∀ n, unl (Array.replicate l.toArray.size false) n ≤ n := by
      intro n
      induction n with
      | zero => exact Nat.le_refl _
      | succ n ih => simp only [unl]; split <;> omega
    have := this l.length
    simpa using this

def szOk (n : Nat) (l : List Oper) : Bool := l.all fun o => match o.dst with | some s => decide (s < n) | none => true
def alsOk (P : Program) (l : List Oper) : Bool := l.all fun o => match o.op with | .alloc t => (match P.info? t with | some i => (match i.zero with | some z => z.cells.size == i.size | none => false) | none => false) | _ => true
def storesOk (P : Program) (aE : Act) : List Oper → Prop
  | [] => True
  | o :: l => (match o.op with | .store t _ y => ∃ cells, aE.eval y = .agg cells ∧ (P.info? t).map (·.size) = some cells.size ∧ cells.all (·.oneCell') = true | _ => True) ∧ storesOk P aE l
theorem storesOk_at {aE : Act} : ∀ {l : List Oper}, storesOk P aE l → ∀ o ∈ l, ∀ t x y, o.op = .store t x y → ∃ cells, aE.eval y = .agg cells ∧ (P.info? t).map (·.size) = some cells.size ∧ cells.all (·.oneCell') = true
  | [], _, o, ho, _, _, _, _ => by cases ho
  | o' :: l, h, o, ho, t, x, y, hop => by
    rcases List.mem_cons.1 ho with rfl | ho
    · have := h.1
      rw [hop] at this
      exact this
    · exact storesOk_at h.2 o ho t x y hop

/-- **The region's law.** -/
theorem region_made {id : Nat} {Q : Exit → Act → World → Prop} {aE : Act} (hm : P.follows .mixedOrders = true) (hok : madeOk l = true) (hsz : szOk a0.tmps.size l = true) (hal : alsOk P l = true)
    (H : ∀ u, Below w0.heap.size w0 u → wpQuiet P (l.map tame).toArray (fun w' => ∃ e, w' = ext u e) (fun a' => a' = aE) (l.map tame) a0)
    (hst : storesOk P aE l)
    (K : ∀ G w, Below w0.heap.size w0 w → madeFacts aE G w0 w l → (∀ x ∈ alSlots l, ∀ x' ∈ alSlots l, x ≠ x' → G x ≠ G x') → Q .normal (putAll G (alSlots l) aE) w) : (Code.region id l.toArray true).wp P Q a0 w0 := by
  refine region_made0 aE hm hok ?_ H ?_ (storesOk_at hst) K
  · intro o ho s hs
    have := List.all_eq_true.1 hsz o ho
    simpa [hs] using this
  · intro o ho t hop
    have := List.all_eq_true.1 hal o ho
    simp only [hop] at this
    split at this
    · rename_i i hi
      split at this
      · rename_i z hz
        exact ⟨z, i.size, by rw [hi]; simp [hz], by simpa using this⟩
      · cases this
    · cases this
theorem made_cell {w : World} {g i : Nat} {cs : Array Value} {t : TypeId} {fr : Nat × Nat} {v : Value} (h : w.heap[g]? = some (.cells cs t fr)) (hv : cs[i]? = some v) : w.cell? ⟨g, i, none⟩ = some v := by
  simp [World.cell?, h, hv]
theorem made_free {w : World} {g : Nat} {cs : Array Value} {t : TypeId} (h : w.heap[g]? = some (.cells cs t (0, 0))) (i : Nat) : w.frozen? ⟨g, i, none⟩ = false := by
  simp [World.frozen?, h]
end
end Go.Proofs.Ytfgkglbhbdfpfaa
