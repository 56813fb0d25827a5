/- The plain law of Mads for regions in which one operation makes a value that hangs on where it lies (a new slice), and one call reads it: whatever order is drawn. No conditions. -/
import Derived.Test.YtoalpihlflifmaaMads
namespace Go.Proofs.Ytoalpihlflifmaa.M2
open Go.RowKit
set_option linter.unusedSimpArgs false
set_option linter.unusedVariables false
set_option maxHeartbeats 2000000
/-- The slot that the maker fills, and what the reader yields. -/
structure Mk where
  b : Nat
  vc : Value
  V : Nat → Value
  C : Obj → Prop
def isMk (b : Nat) (o : Oper) : Bool := o.dst == some b
def isUse (b : Nat) (o : Oper) : Bool := (tmpsOf o.op.operands).any (fun s => s == b)
def isSt (o : Oper) : Bool := match o.op with | .store _ _ _ => true | _ => false
def tame2 (b : Nat) (vc : Value) (o : Oper) : Oper := if isMk b o then { o with op := .assign (.const undef) } else if isUse b o then { o with op := .assign (.const vc) } else tame o
def usesWait (l : List Oper) (b i : Nat) : Bool := (List.range l.length).all fun j => match l[j]? with | some o => !isUse b o || waitsFor l i j | none => true
def mkWait (l : List Oper) (b i : Nat) : Bool := (List.range l.length).any fun j => match l[j]? with | some o => isMk b o && waitsFor l i j | none => false
def onlyUse (l : List Oper) (b i : Nat) : Bool := (List.range l.length).all fun j => match l[j]? with | some o => !isUse b o || j == i | none => true
def kindOk2 (b : Nat) (l : List Oper) (i : Nat) (o : Oper) : Bool :=
  if isMk b o then !isAl o && !isSt o && !isUse b o && (tmpsOf o.op.operands).all (fun s => noAl l s && early l i s)
  else if isUse b o then !isAl o && !isSt o && onlyUse l b i && mkWait l b i && (tmpsOf o.op.operands).all (fun s => s == b || (noAl l s && early l i s))
  else kindOk l i o && (!isSt o || usesWait l b i)
def opOk2 (b : Nat) (l : List Oper) (i : Nat) (o : Oper) : Bool :=
  o.guard.isNone && !isSel o && o.after.all (fun e => !Region.binds .any e || decide (e.on < i)) &&
  ((List.range l.length).all fun j => j == i || o.dst.isNone || ((l[j]?).bind (·.dst)) != o.dst) && kindOk2 b l i o
def madeOk2 (b : Nat) (l : List Oper) : Bool := (List.range l.length).all fun i => match l[i]? with | some o => opOk2 b l i o | none => true
theorem madeOk2_at {b : Nat} {l : List Oper} (h : madeOk2 b l = true) {i : Nat} {o : Oper} (hi : l[i]? = some o) : opOk2 b l i o = true := by
  have hlt : i < l.length := (List.getElem?_eq_some_iff.1 hi).1
  have := List.all_eq_true.1 h i (List.mem_range.2 hlt)
  simpa [hi] using this
structure OpOk2 (b : Nat) (l : List Oper) (i : Nat) (o : Oper) : Prop where
  guard : o.guard = none
  sel : isSel o = false
  after : ∀ e ∈ o.after, Region.binds .any e = true → e.on < i
  dst : ∀ j oj s, l[j]? = some oj → o.dst = some s → oj.dst = some s → j = i
  kind : kindOk2 b l i o = true
theorem opOk2_spec {b : Nat} {l : List Oper} {i : Nat} {o : Oper} (h : opOk2 b l i o = true) : OpOk2 b l i o := by
  simp only [opOk2, Bool.and_eq_true] at h
  obtain ⟨⟨⟨⟨h1, h2⟩, h3⟩, h4⟩, h5⟩ := h
  refine ⟨by simpa using h1, by simpa using h2, ?_, ?_, h5⟩
  · intro e he hb
    have := (Array.all_eq_true_iff_forall_mem.1 h3) e he
    simp [hb] at this
    exact this
  · intro j oj s hj hs hjs
    have hlt : j < l.length := (List.getElem?_eq_some_iff.1 hj).1
    have := List.all_eq_true.1 h4 j (List.mem_range.2 hlt)
    simp [hs, hj, hjs] at this
    exact this
theorem isMk_iff {b : Nat} {o : Oper} : isMk b o = true ↔ o.dst = some b := by simp [isMk]
theorem tame2_dst (b : Nat) (vc : Value) (o : Oper) : (tame2 b vc o).dst = o.dst := by
  unfold tame2; split
  · rfl
  · split
    · rfl
    · exact tame_dst o
theorem tame2_guard (b : Nat) (vc : Value) (o : Oper) : (tame2 b vc o).guard = o.guard := by
  unfold tame2; split
  · rfl
  · split
    · rfl
    · exact tame_guard o
theorem kind2_mk {b : Nat} {l : List Oper} {i : Nat} {o : Oper} (hm : isMk b o = true) (h : kindOk2 b l i o = true) : isAl o = false ∧ isSt o = false ∧ isUse b o = false ∧ ∀ s ∈ tmpsOf o.op.operands, noAl l s = true ∧ early l i s = true := by
  simp only [kindOk2, hm, if_true, Bool.and_eq_true, Bool.not_eq_true'] at h
  obtain ⟨⟨⟨h1, h2⟩, h3⟩, h4⟩ := h
  exact ⟨h1, h2, h3, fun s hs => by simpa only [Bool.and_eq_true] using List.all_eq_true.1 h4 s hs⟩
theorem kind2_use {b : Nat} {l : List Oper} {i : Nat} {o : Oper} (hm : isMk b o = false) (hu : isUse b o = true) (h : kindOk2 b l i o = true) :
    isAl o = false ∧ isSt o = false ∧ (∀ (j : Nat) (oj : Oper), l[j]? = some oj → isUse b oj = true → j = i) ∧ (∃ (j : Nat) (oj : Oper), l[j]? = some oj ∧ isMk b oj = true ∧ waitsFor l i j = true) ∧ ∀ s ∈ tmpsOf o.op.operands, s = b ∨ noAl l s = true ∧ early l i s = true := by
  simp only [kindOk2, hm, hu, if_true, Bool.and_eq_true, Bool.not_eq_true', Bool.false_eq_true, if_false] at h
  obtain ⟨⟨⟨⟨h1, h2⟩, h3⟩, h4⟩, h5⟩ := h
  refine ⟨h1, h2, fun j oj hj hu2 => ?_, ?_, fun s hs => ?_⟩
  · have hlt : j < l.length := (List.getElem?_eq_some_iff.1 hj).1
    have := List.all_eq_true.1 h3 j (List.mem_range.2 hlt)
    simpa [hj, hu2] using this
  · obtain ⟨j, hj, hj2⟩ := List.any_eq_true.1 h4
    split at hj2
    · rename_i oj hoj
      simp only [Bool.and_eq_true] at hj2
      exact ⟨j, oj, hoj, hj2.1, hj2.2⟩
    · cases hj2
  · have := List.all_eq_true.1 h5 s hs
    simpa only [Bool.or_eq_true, beq_iff_eq, Bool.and_eq_true] using this
theorem kind2_else {b : Nat} {l : List Oper} {i : Nat} {o : Oper} (hm : isMk b o = false) (hu : isUse b o = false) (h : kindOk2 b l i o = true) :
    kindOk l i o = true ∧ (isSt o = true → ∀ (j : Nat) (oj : Oper), l[j]? = some oj → isUse b oj = true → waitsFor l i j = true) := by
  simp only [kindOk2, hm, hu, Bool.and_eq_true, Bool.false_eq_true, if_false, Bool.or_eq_true, Bool.not_eq_true'] at h
  refine ⟨h.1, fun hs j oj hj hu2 => ?_⟩
  rcases h.2 with h2 | h2
  · rw [h2] at hs; cases hs
  · have hlt : j < l.length := (List.getElem?_eq_some_iff.1 hj).1
    have := List.all_eq_true.1 h2 j (List.mem_range.2 hlt)
    simpa [hj, hu2] using this
/-- What holds while such a region runs: the operations named in 'listed' have run. -/
structure Inv (k : Mk) (l : List Oper) (a0 aE : Act) (w0 : World) (Z : TypeId → Nat) (listed : Array Bool) (a : Act) (w : World) : Prop where
  size : listed.size = l.length
  closed : ∀ (j : Nat) (oj : Oper), l[j]? = some oj → listed.getD j false = true → ∀ e ∈ oj.after, Region.binds .any e = true → listed.getD e.on false = true
  below : Below w0.heap.size w0 w
  sz : a.tmps.size = a0.tmps.size
  defs : a.defers = a0.defers
  old : ∀ s, (∀ (j : Nat) (oj : Oper), l[j]? = some oj → listed.getD j false = true → oj.dst ≠ some s) → a.tmps.getD s undef = a0.tmps.getD s undef
  val : ∀ (j : Nat) (oj : Oper) (s : Nat), l[j]? = some oj → listed.getD j false = true → isAl oj = false → oj.dst = some s → s ≠ k.b → a.tmps.getD s undef = aE.tmps.getD s undef
  made : ∀ (j : Nat) (oj : Oper) (t : TypeId) (x : Nat), l[j]? = some oj → listed.getD j false = true → oj.op = .alloc t → oj.dst = some x → ∃ g cs, a.tmps.getD x undef = .pointer (some ⟨g, 0, none⟩) ∧ w0.heap.size ≤ g ∧ w.heap[g]? = some (.cells cs t (0, 0)) ∧ cs.size = Z t ∧
    ∀ (i : Nat) (oi : Oper) (y : Operand), l[i]? = some oi → listed.getD i false = true → oi.op = .store t (.tmp x) y → aE.eval y = .agg cs
  apart : ∀ (j j' : Nat) (oj oj' : Oper) (x x' g g' : Nat), l[j]? = some oj → l[j']? = some oj' → listed.getD j false = true → listed.getD j' false = true → isAl oj = true → isAl oj' = true → oj.dst = some x → oj'.dst = some x' → j ≠ j' →
    a.tmps.getD x undef = .pointer (some ⟨g, 0, none⟩) → a.tmps.getD x' undef = .pointer (some ⟨g', 0, none⟩) → g ≠ g'
  mkd : ∀ (j : Nat) (oj : Oper), l[j]? = some oj → listed.getD j false = true → isMk k.b oj = true → ∃ g, a.tmps.getD k.b undef = k.V g ∧ w0.heap.size ≤ g ∧ g < w.heap.size ∧ ((∀ (i : Nat) (oi : Oper), l[i]? = some oi → listed.getD i false = true → isUse k.b oi = false) → ∃ ob, w.heap[g]? = some ob ∧ k.C ob)

/-- The bookkeeping of one more operation. -/
theorem Inv.next {k : Mk} {l : List Oper} {a0 aE : Act} {w0 : World} {Z : TypeId → Nat} {listed : Array Bool} {a : Act} {w : World} (h : Inv k l a0 aE w0 Z listed a w) (hok : madeOk2 k.b l = true) {i : Nat} {o : Oper} (hi : l[i]? = some o) (hu : listed.getD i false = false)
    (hr : ∀ e ∈ o.after, Region.binds .any e = true → listed.getD e.on false = true) (v : Value) (w' : World) (hb : Below w0.heap.size w0 w')
    (hv : isAl o = false → ∀ s, o.dst = some s → s ≠ k.b → v = aE.tmps.getD s undef) (hdst : ∀ s, o.dst = some s → s < a0.tmps.size)
    (hmade : ∀ (j : Nat) (oj : Oper) (t : TypeId) (x : Nat), l[j]? = some oj → (j = i ∨ listed.getD j false = true) → oj.op = .alloc t → oj.dst = some x → ∃ g cs, (a.put o.dst v).tmps.getD x undef = .pointer (some ⟨g, 0, none⟩) ∧ w0.heap.size ≤ g ∧ w'.heap[g]? = some (.cells cs t (0, 0)) ∧ cs.size = Z t ∧
      ∀ (q : Nat) (ok : Oper) (y : Operand), l[q]? = some ok → (q = i ∨ listed.getD q false = true) → ok.op = .store t (.tmp x) y → aE.eval y = .agg cs)
    (hapart : isAl o = true → ∀ (j : Nat) (oj : Oper) (x x' g g' : Nat), l[j]? = some oj → listed.getD j false = true → isAl oj = true → oj.dst = some x → o.dst = some x' → a.tmps.getD x undef = .pointer (some ⟨g, 0, none⟩) → v = .pointer (some ⟨g', 0, none⟩) → g ≠ g')
    (hmk : ∀ (j : Nat) (oj : Oper), l[j]? = some oj → (j = i ∨ listed.getD j false = true) → isMk k.b oj = true → ∃ g, (a.put o.dst v).tmps.getD k.b undef = k.V g ∧ w0.heap.size ≤ g ∧ g < w'.heap.size ∧ ((∀ (q : Nat) (oq : Oper), l[q]? = some oq → (q = i ∨ listed.getD q false = true) → isUse k.b oq = false) → ∃ ob, w'.heap[g]? = some ob ∧ k.C ob)) :
    Inv k l a0 aE w0 Z (listed.setIfInBounds i true) (a.put o.dst v) w' := by
  have ho := opOk2_spec (madeOk2_at hok hi)
  have other : ∀ (j : Nat) (oj : Oper) (s : Nat), l[j]? = some oj → j ≠ i → oj.dst = some s → o.dst ≠ some s := fun j oj s hj hne hs h2 => hne (ho.dst j oj s hj h2 hs)
  refine ⟨by simp [h.size], ?_, hb, by rw [put_size, h.sz], by rw [put_defers, h.defs], ?_, ?_, ?_, ?_, ?_⟩
  · intro j oj hj hl e he hbd
    rcases set_cases hl with rfl | hl
    · have : oj = o := Option.some.inj (hj.symm.trans hi)
      subst this
      exact getD_set_true (hr e he hbd)
    · exact getD_set_true (h.closed j oj hj hl e he hbd)
  · intro s hs
    have hlt : i < listed.size := by rw [h.size]; exact (List.getElem?_eq_some_iff.1 hi).1
    rw [put_ne (hs i o hi (set_at hlt))]
    exact h.old s fun j oj hj hl => hs j oj hj (getD_set_true hl)
  · intro j oj s hj hl hal hs hsb
    rcases set_cases hl with rfl | hl
    · have : oj = o := Option.some.inj (hj.symm.trans hi)
      subst this
      rw [hs, put_eq (by rw [h.sz]; exact hdst s hs)]
      exact hv hal s hs hsb
    · have hne : j ≠ i := fun e => by rw [e] at hl; rw [hl] at hu; cases hu
      rw [put_ne (other j oj s hj hne hs)]
      exact h.val j oj s hj hl hal hs hsb
  · intro j oj t x hj hl hop hx
    obtain ⟨g, cs, e1, e2, e3, e4, e5⟩ := hmade j oj t x hj (set_cases hl) hop hx
    exact ⟨g, cs, e1, e2, e3, e4, fun q ok y hk hlk hop2 => e5 q ok y hk (set_cases hlk) hop2⟩
  · intro j j' oj oj' x x' g g' hj hj' hl hl' ha ha' hx hx' hne hg hg'
    rcases set_cases hl with rfl | hm
    · have : oj = o := Option.some.inj (hj.symm.trans hi)
      subst this
      rcases set_cases hl' with rfl | hl'
      · exact absurd rfl hne
      · rw [hx, put_eq (by rw [h.sz]; exact hdst x hx)] at hg
        rw [put_ne (other j' oj' x' hj' (Ne.symm hne) hx')] at hg'
        exact Ne.symm (hapart ha j' oj' x' x g' g hj' hl' ha' hx' hx hg' hg)
    · have hne1 : j ≠ i := fun e => by rw [e] at hm; rw [hm] at hu; cases hu
      rw [put_ne (other j oj x hj hne1 hx)] at hg
      rcases set_cases hl' with rfl | hl'
      · have : oj' = o := Option.some.inj (hj'.symm.trans hi)
        subst this
        rw [hx', put_eq (by rw [h.sz]; exact hdst x' hx')] at hg'
        exact hapart ha' j oj x x' g g' hj hm ha hx hx' hg hg'
      · have hne2 : j' ≠ i := fun e => by rw [e] at hl'; rw [hl'] at hu; cases hu
        rw [put_ne (other j' oj' x' hj' hne2 hx')] at hg'
        exact h.apart j j' oj oj' x x' g g' hj hj' hm hl' ha ha' hx hx' hne hg hg'
  · intro j oj hj hl hm
    obtain ⟨g, e1, e2, e3, e4⟩ := hmk j oj hj (set_cases hl) hm
    have hlt : i < listed.size := by rw [h.size]; exact (List.getElem?_eq_some_iff.1 hi).1
    exact ⟨g, e1, e2, e3, fun hno => e4 fun q oq hq hor => hno q oq hq (by rcases hor with rfl | hor; exact set_at hlt; exact getD_set_true hor)⟩

section
variable {P : Program} {l : List Oper} {a0 aE : Act} {w0 : World} {Z : TypeId → Nat}
theorem kindStore {b : Nat} {l : List Oper} (hok : madeOk2 b l = true) {i : Nat} {o : Oper} (hi : l[i]? = some o) {t : TypeId} {x y : Operand} (hop : o.op = .store t x y) : kindOk l i o = true := by
  have hk := (opOk2_spec (madeOk2_at hok hi)).kind
  cases hM : isMk b o with
  | true => have := (kind2_mk hM hk).2.1; simp [isSt, hop] at this
  | false =>
    cases hU : isUse b o with
    | true => have := (kind2_use hM hU hk).2.1; simp [isSt, hop] at this
    | false => exact (kind2_else hM hU hk).1
theorem Inv.step {k : Mk} {Q : Exit → Act → World → Prop} {K : Act → World → Prop} (hok : madeOk2 k.b l = true) (hsz : ∀ o ∈ l, ∀ s, o.dst = some s → s < a0.tmps.size)
    (H : ∀ u, Below w0.heap.size w0 u → wpQuiet P (l.map (tame2 k.b k.vc)).toArray (fun w' => ∃ e, w' = ext u e) (fun a' => a' = aE) (l.map (tame2 k.b k.vc)) a0)
    (hal : ∀ o ∈ l, ∀ t, o.op = .alloc t → ∃ z : Array Value, z.size = Z t ∧ ∀ u : World, (Instr.alloc t true (.tuple #[])).run P u = .ok (.pointer (some ⟨u.heap.size, 0, none⟩)) (u.alloc (.cells z t)))
    (hst : ∀ o ∈ l, ∀ t x y, o.op = .store t x y → ∃ cells, aE.eval y = .agg cells ∧ (P.info? t).map (·.size) = some cells.size ∧ cells.all (·.oneCell') = true ∧ Z t = cells.size)
    (hus : l.any (isUse k.b) = true)
    (hmkr : ∀ o ∈ l, isMk k.b o = true → ∀ (a' : Act) (u : World) (K : Act → World → Prop), (∀ x ∈ o.op.operands, a'.eval x = aE.eval x) → Below w0.heap.size w0 u → (∀ g ob u', u.heap.size ≤ g → u'.heap[g]? = some ob → k.C ob → Below u.heap.size u u' → K (a'.put o.dst (k.V g)) u') → o.wp P a' u K Q)
    (huse : ∀ o ∈ l, isUse k.b o = true → ∀ (a' : Act) (u : World) (K : Act → World → Prop) (g : Nat) (ob : Obj), (∀ x ∈ o.op.operands, x ≠ .tmp k.b → a'.eval x = aE.eval x) → a'.eval (.tmp k.b) = k.V g → Below w0.heap.size w0 u → w0.heap.size ≤ g → u.heap[g]? = some ob → k.C ob → (∀ u', Below u.heap.size u u' → K (a'.put o.dst k.vc) u') → o.wp P a' u K Q)
    {listed : Array Bool} {a : Act} {w : World} (h : Inv k l a0 aE w0 Z listed a w) {i : Nat} (hi : i ∈ Region.ready .any l.toArray listed)
    (hK : ∀ a' w', Inv k l a0 aE w0 Z (listed.setIfInBounds i true) a' w' → K a' w') : wpOp P l.toArray Q i K a w := by
  obtain ⟨hu', o, ho', hall⟩ := mem_ready.1 hi
  have hu := both_of hu'
  have ho : l[i]? = some o := by simpa using ho'
  have hmem := List.mem_of_getElem? ho
  have hk := opOk2_spec (madeOk2_at hok ho)
  have hw : Region.wanted o (yielded l.toArray a.tmps) = true := by simp [Region.wanted, hk.guard]
  unfold wpOp
  simp only [ho', hw, if_true]
  left
  -- the facts of the text's order
  have mapAt : ∀ (j : Nat) (oj : Oper), l[j]? = some oj → (l.map (tame2 k.b k.vc))[j]? = some (tame2 k.b k.vc oj) := fun j oj hj => by simp [hj]
  have mapOf : ∀ (j : Nat) (oj : Oper), (l.map (tame2 k.b k.vc))[j]? = some oj → ∃ o', l[j]? = some o' ∧ oj.dst = o'.dst := fun j oj hj => by
    simp only [List.getElem?_map, Option.map_eq_some_iff] at hj
    obtain ⟨o', ho', rfl⟩ := hj
    exact ⟨o', ho', tame2_dst _ _ o'⟩
  have lex := fun u (hb : Below w0.heap.size w0 u) => lexical (C := fun w' => ∃ e, w' = ext u e) (l.map (tame2 k.b k.vc)) a0
    (fun o' h' => by
      obtain ⟨o2, h2, rfl⟩ := List.mem_map.1 h'
      obtain ⟨j, hj⟩ := List.getElem?_of_mem h2
      rw [tame2_guard]; exact (opOk2_spec (madeOk2_at hok hj)).guard)
    (fun i j oi oj s h1 h2 h3 h4 => by
      obtain ⟨oi', e1, e2⟩ := mapOf i oi h1
      obtain ⟨oj', e3, e4⟩ := mapOf j oj h2
      exact ((opOk2_spec (madeOk2_at hok e1)).dst j oj' s e3 (by rw [← e2]; exact h3) (by rw [← e4]; exact h4)).symm)
    (fun o' h' s h2 => by
      obtain ⟨o2, h3, rfl⟩ := List.mem_map.1 h'
      exact hsz o2 h3 s (by rw [← tame2_dst]; exact h2)) (H u hb)
  have useIn : ∃ (j : Nat) (oj : Oper), l[j]? = some oj ∧ isUse k.b oj = true := by
    obtain ⟨oj, h1, h2⟩ := List.any_eq_true.1 hus
    obtain ⟨j, hj⟩ := List.getElem?_of_mem h1
    exact ⟨j, oj, hj, h2⟩
  have agree : ∀ s, s ≠ k.b → noAl l s = true → early l i s = true → a.tmps.getD s undef = aE.tmps.getD s undef := by
    intro s hsb n1 n2
    by_cases hp : ∃ (q : Nat) (ok : Oper), l[q]? = some ok ∧ ok.dst = some s
    · obtain ⟨q, ok, hk1, hk2⟩ := hp
      obtain ⟨_, hwk⟩ := early_spec n2 hk1 hk2
      obtain ⟨e, he, hbd, hon⟩ := waits_spec ho hwk
      have hlk : listed.getD q false = true := by have := hall e he hbd; rwa [hon] at this
      exact h.val q ok s hk1 hlk (noAl_spec n1 hk1 hk2) hk2 hsb
    · rw [h.old s (fun q ok hk1 _ hk2 => hp ⟨q, ok, hk1, hk2⟩)]
      refine ((lex w0 (Below.refl _ _)).1.2.2 s fun o' h' hk2 => ?_)
      obtain ⟨o2, h3, rfl⟩ := List.mem_map.1 h'
      obtain ⟨q, hk1⟩ := List.getElem?_of_mem h3
      exact hp ⟨q, o2, hk1, by rw [← tame2_dst k.b k.vc]; exact hk2⟩
  -- what stays of the made blocks while no store runs
  have keep : ∀ (w' : World) (v : Value), Below w.heap.size w w' → isAl o = false → isSt o = false → ∀ (j : Nat) (oj : Oper) (t : TypeId) (x : Nat), l[j]? = some oj → (j = i ∨ listed.getD j false = true) → oj.op = .alloc t → oj.dst = some x → ∃ g cs, (a.put o.dst v).tmps.getD x undef = .pointer (some ⟨g, 0, none⟩) ∧ w0.heap.size ≤ g ∧ w'.heap[g]? = some (.cells cs t (0, 0)) ∧ cs.size = Z t ∧
      ∀ (q : Nat) (ok : Oper) (y : Operand), l[q]? = some ok → (q = i ∨ listed.getD q false = true) → ok.op = .store t (.tmp x) y → aE.eval y = .agg cs := by
    intro w' v hbe hA hS j oj t x hj hor hop hx
    rcases hor with rfl | hl
    · have : oj = o := Option.some.inj (hj.symm.trans ho)
      subst this
      rw [isAl_iff.2 ⟨t, hop⟩] at hA; cases hA
    · have hne : j ≠ i := fun e => by rw [e] at hl; rw [hl] at hu; cases hu
      obtain ⟨g, cs, e1, e2, e3, e4, e5⟩ := h.made j oj t x hj hl hop hx
      refine ⟨g, cs, by rw [put_ne (fun e => hne (hk.dst j oj x hj e hx)), e1], e2, (hbe.block g (Array.getElem?_eq_some_iff.1 e3).1).trans e3, e4, ?_⟩
      intro q ok y hk2 hor2 hop2
      rcases hor2 with rfl | hl2
      · have : ok = o := Option.some.inj (hk2.symm.trans ho)
        subst this
        simp [isSt, hop2] at hS
      · exact e5 q ok y hk2 hl2 hop2
  have keepM : ∀ (w' : World) (v : Value), (∀ g, g < w.heap.size → g < w'.heap.size ∧ w'.heap[g]? = w.heap[g]?) → isMk k.b o = false → ∀ (j : Nat) (oj : Oper), l[j]? = some oj → (j = i ∨ listed.getD j false = true) → isMk k.b oj = true → ∃ g, (a.put o.dst v).tmps.getD k.b undef = k.V g ∧ w0.heap.size ≤ g ∧ g < w'.heap.size ∧ ((∀ (q : Nat) (oq : Oper), l[q]? = some oq → (q = i ∨ listed.getD q false = true) → isUse k.b oq = false) → ∃ ob, w'.heap[g]? = some ob ∧ k.C ob) := by
    intro w' v hbe hM j oj hj hor hm
    rcases hor with rfl | hl
    · have : oj = o := Option.some.inj (hj.symm.trans ho)
      subst this
      rw [hm] at hM; cases hM
    · obtain ⟨g, e1, e2, e3, e4⟩ := h.mkd j oj hj hl hm
      refine ⟨g, by rw [put_ne (fun e => by rw [← isMk_iff] at e; rw [e] at hM; cases hM), e1], e2, (hbe g e3).1, fun hno => ?_⟩
      obtain ⟨ob, e5, e6⟩ := e4 fun q oq hq hlq => hno q oq hq (Or.inr hlq)
      exact ⟨ob, (hbe g e3).2.trans e5, e6⟩
  cases hM : isMk k.b o with
  | true =>
    obtain ⟨m1, m2, m3, m4⟩ := kind2_mk hM hk.kind
    have hdst : o.dst = some k.b := isMk_iff.1 hM
    refine hmkr o hmem hM a w K (fun x hx => ?_) h.below (fun g ob u' g1 g2 g3 g4 => ?_)
    · cases x with
      | tmp s =>
        have hs : s ∈ tmpsOf o.op.operands := List.mem_filterMap.2 ⟨.tmp s, by simpa using hx, rfl⟩
        have hsb : s ≠ k.b := fun e => by
          have : isUse k.b o = true := List.any_eq_true.2 ⟨s, hs, by simp [e]⟩
          rw [m3] at this; cases this
        exact agree s hsb (m4 s hs).1 (m4 s hs).2
      | const v => rfl
      | global g => rfl
      | func f => rfl
    · refine hK _ _ (h.next hok ho hu hall _ _ (below_step h.below g4) (fun _ s hs hsb => by rw [hdst] at hs; injection hs with hs; exact absurd hs.symm hsb) (fun s hs => hsz o hmem s hs) (keep u' _ g4 m1 m2) (fun h2 => by rw [m1] at h2; cases h2) ?_)
      intro j oj hj hor hm
      exact ⟨g, by rw [hdst, put_eq (by rw [h.sz]; exact hsz o hmem _ hdst)], Nat.le_trans h.below.size g1, (Array.getElem?_eq_some_iff.1 g2).1, fun _ => ⟨ob, g2, g3⟩⟩
  | false =>
  cases hU : isUse k.b o with
  | true =>
    obtain ⟨m1, m2, m3, ⟨jm, om, m4, m5, m6⟩, m7⟩ := kind2_use hM hU hk.kind
    obtain ⟨e, he, hbd, hon⟩ := waits_spec ho m6
    have hlm : listed.getD jm false = true := by have := hall e he hbd; rwa [hon] at this
    obtain ⟨g, e1, e2, e3, e4⟩ := h.mkd jm om m4 hlm m5
    obtain ⟨ob, e5, e6⟩ := e4 fun q oq hq hlq => by
      cases hq2 : isUse k.b oq with
      | false => rfl
      | true =>
        have := m3 q oq hq hq2
        rw [this, hu] at hlq; cases hlq
    obtain ⟨aL, v, q1, q2, _, _⟩ := (lex w h.below).2 i (tame2 k.b k.vc o) (mapAt i o ho)
    have hto : tame2 k.b k.vc o = { o with op := .assign (.const k.vc) } := by unfold tame2; rw [if_neg (by simp [hM]), if_pos hU]
    have hv : v = k.vc := by
      have := q1 w ⟨w, ext_of (Below.refl _ _)⟩
      rw [hto] at this
      unfold Oper.quietAt at this
      simp [execOp, Act.eval] at this
      exact this.2.symm
    refine huse o hmem hU a w K g ob (fun x hx hne => ?_) e1 h.below e2 e5 e6 (fun u' g4 => ?_)
    · cases x with
      | tmp s =>
        have hs : s ∈ tmpsOf o.op.operands := List.mem_filterMap.2 ⟨.tmp s, by simpa using hx, rfl⟩
        rcases m7 s hs with h1 | ⟨h1, h2⟩
        · exact absurd (by rw [h1]) hne
        · exact agree s (fun e => hne (by rw [e])) h1 h2
      | const v => rfl
      | global g => rfl
      | func f => rfl
    · exact hK _ _ (h.next hok ho hu hall _ _ (below_step h.below g4) (fun _ s hs _ => by rw [q2 s (by rw [tame2_dst]; exact hs), hv]) (fun s hs => hsz o hmem s hs) (keep u' _ g4 m1 m2) (fun h2 => by rw [m1] at h2; cases h2) (keepM u' _ (fun g hg => ⟨Nat.lt_of_lt_of_le hg g4.size, g4.block g hg⟩) hM))
  | false =>
  obtain ⟨hkind1, hstw⟩ := kind2_else hM hU hk.kind
  by_cases hA : ∃ t, o.op = .alloc t
  · obtain ⟨t, hop⟩ := hA
    obtain ⟨z, hz, hrun⟩ := hal o hmem t hop
    unfold Oper.wp execOp
    simp only [hop, Sem.run_bind, hrun, Result.andThen_ok, Sem.run_pure]
    refine hK _ _ ?_
    have hb : Below w0.heap.size w0 (w.alloc (.cells z t)) := below_alloc h.below _
    obtain ⟨x, hx⟩ : ∃ x, o.dst = some x := by
      have := hkind1
      simp only [kindOk, hop] at this
      exact Option.isSome_iff_exists.1 this
    refine h.next hok ho hu hall _ _ hb (fun h2 => by rw [isAl_iff.2 ⟨t, hop⟩] at h2; cases h2) (fun s hs => hsz o hmem s hs) ?_ ?_ (keepM _ _ (fun g hg => ⟨by simp; omega, heap_alloc_old w _ hg⟩) hM)
    · intro j oj t' x' hj hor hop' hx'
      rcases hor with rfl | hl
      · have : oj = o := Option.some.inj (hj.symm.trans ho)
        subst this
        have : x = x' := Option.some.inj (hx.symm.trans hx')
        subst this
        have : t' = t := by rw [hop] at hop'; injection hop' with e; exact e.symm
        subst this
        refine ⟨w.heap.size, z, by rw [hx, put_eq (by rw [h.sz]; exact hsz oj hmem x hx)], h.below.size, heap_alloc_new w _, hz, ?_⟩
        intro q ok y hk2 hor2 hop2
        exfalso
        rcases hor2 with rfl | hl2
        · have : ok = oj := Option.some.inj (hk2.symm.trans hj)
          subst this
          rw [hop] at hop2; cases hop2
        · obtain ⟨x2, e1, _, ⟨j2, oj2, _, hw2, hj2, hop3, hx3⟩, _, _⟩ := kind_store hop2 (kindStore hok hk2 hop2)
          have : x = x2 := by injection e1
          subst this
          have : j2 = j := hk.dst j2 oj2 x hj2 hx hx3
          subst this
          obtain ⟨e, he, hbd, hon⟩ := waits_spec hk2 hw2
          have := h.closed q ok hk2 hl2 e he hbd
          rw [hon, hu] at this
          cases this
      · have hne : j ≠ i := fun e => by rw [e] at hl; rw [hl] at hu; cases hu
        obtain ⟨g, cs, e1, e2, e3, e4, e5⟩ := h.made j oj t' x' hj hl hop' hx'
        have hg : g < w.heap.size := (Array.getElem?_eq_some_iff.1 e3).1
        refine ⟨g, cs, by rw [put_ne (fun e => hne (hk.dst j oj x' hj e hx')), e1], e2, ?_, e4, ?_⟩
        · exact (heap_alloc_old w _ hg).trans e3
        · intro q ok y hk2 hor2 hop2
          rcases hor2 with rfl | hl2
          · have : ok = o := Option.some.inj (hk2.symm.trans ho)
            subst this
            rw [hop] at hop2; cases hop2
          · exact e5 q ok y hk2 hl2 hop2
    · intro _ j oj x1 x2 g g' hj hl ha hx1 hx2 hg hg'
      obtain ⟨t1, ht1⟩ := isAl_iff.1 ha
      obtain ⟨g2, cs, e1, e2, e3, _, _⟩ := h.made j oj t1 x1 hj hl ht1 hx1
      have : g = g2 := by rw [hg] at e1; injection e1 with e1; injection e1 with e1; injection e1
      subst this
      have hg2 : g < w.heap.size := (Array.getElem?_eq_some_iff.1 e3).1
      have : w.heap.size = g' := by injection hg' with e1; injection e1 with e1; injection e1
      omega
  · by_cases hS : ∃ t x y, o.op = .store t x y
    · obtain ⟨t, x, y, hop⟩ := hS
      obtain ⟨cells, c1, c2, c3, c4⟩ := hst o hmem t x y hop
      obtain ⟨x', rfl, hd, ⟨j, oj, hji, hwt, hj, hopj, hxj⟩, hy, huniq⟩ := kind_store hop hkind1
      obtain ⟨e, he, hbd, hon⟩ := waits_spec ho hwt
      have hlj : listed.getD j false = true := by have := hall e he hbd; rwa [hon] at this
      obtain ⟨g, cs, e1, e2, e3, e4, e5⟩ := h.made j oj t x' hj hlj hopj hxj
      have hyU : ∀ s ∈ tmpsOf #[y], s ≠ k.b := fun s hs e => by
        have : isUse k.b o = true := List.any_eq_true.2 ⟨s, by rw [hop]; simp [tmpsOf, Op.operands] at hs ⊢; exact Or.inr hs, by simp [e]⟩
        rw [hU] at this; cases this
      have hyE : a.eval y = aE.eval y := by
        cases y with
        | tmp s =>
          obtain ⟨n1, n2⟩ := hy s (by simp [tmpsOf])
          exact agree s (hyU s (by simp [tmpsOf])) n1 n2
        | const v => rfl
        | global g => rfl
        | func f => rfl
      refine wp_store_row t (.tmp x') y hop g cells e1 (hyE.trans c1) t cs e3 c2 (by rw [e4, c4]) c3 (hK _ _ ?_)
      have hb : Below w0.heap.size w0 (w.setRow g cells) := below_setRow h.below e2 _
      have hnal : isAl o = false := by
        cases h2 : isAl o with
        | false => rfl
        | true => exact absurd (isAl_iff.1 h2) hA
      refine h.next hok ho hu hall _ _ hb (fun _ s hs => by rw [hd] at hs; cases hs) (fun s hs => hsz o hmem s hs) ?_ (fun h2 => by rw [hnal] at h2; cases h2) ?_
      rotate_left
      · intro j2 oj2 hj2 hor2 hm2
        rcases hor2 with rfl | hl2
        · have : oj2 = o := Option.some.inj (hj2.symm.trans ho)
          subst this
          rw [hm2] at hM; cases hM
        · obtain ⟨g2, e1', e2', e3', _⟩ := h.mkd j2 oj2 hj2 hl2 hm2
          refine ⟨g2, by rw [put_ne (by rw [hd]; simp), e1'], e2', by simpa [World.setRow] using e3', fun hno => ?_⟩
          obtain ⟨ju, ou, hju, huu⟩ := useIn
          obtain ⟨e', he', hbd', hon'⟩ := waits_spec ho (hstw (by simp [isSt, hop]) ju ou hju huu)
          have hlu : listed.getD ju false = true := by have := hall e' he' hbd'; rwa [hon'] at this
          have := hno ju ou hju (Or.inr hlu)
          rw [this] at huu; cases huu
      intro j' oj' t' x'' hj' hor hop' hx''
      rcases hor with rfl | hl
      · have : oj' = o := Option.some.inj (hj'.symm.trans ho)
        subst this
        rw [hop] at hop'; cases hop'
      · by_cases hjj : j' = j
        · subst hjj
          have : oj' = oj := Option.some.inj (hj'.symm.trans hj)
          subst this
          have : x' = x'' := Option.some.inj (hxj.symm.trans hx'')
          subst this
          have : t' = t := by rw [hopj] at hop'; injection hop' with e; exact e.symm
          subst this
          refine ⟨g, cells, by rw [put_ne (by rw [hd]; simp), e1], e2, setRow_heap w g cs cells t' (0, 0) e3, c4.symm, ?_⟩
          intro q ok y' hk2 hor2 hop2
          have : q = i := huniq q ok t' y' hk2 hop2
          subst this
          have : ok = o := Option.some.inj (hk2.symm.trans ho)
          subst this
          rw [hop] at hop2
          injection hop2 with _ _ e6
          rw [← e6]; exact c1
        · obtain ⟨g', cs', f1, f2, f3, f4, f5⟩ := h.made j' oj' t' x'' hj' hl hop' hx''
          have hgg : g' ≠ g := h.apart j' j oj' oj x'' x' g' g hj' hj hl hlj (isAl_iff.2 ⟨t', hop'⟩) (isAl_iff.2 ⟨t, hopj⟩) hx'' hxj hjj f1 e1
          refine ⟨g', cs', by rw [put_ne (by rw [hd]; simp), f1], f2, (setRow_other w g g' cells hgg).trans f3, f4, ?_⟩
          intro q ok y' hk2 hor2 hop2
          rcases hor2 with rfl | hl2
          · exfalso
            have : ok = o := Option.some.inj (hk2.symm.trans ho)
            subst this
            rw [hop] at hop2
            injection hop2 with _ e6 _
            have : x' = x'' := by injection e6
            subst this
            exact hjj ((opOk2_spec (madeOk2_at hok hj)).dst j' oj' x' hj' hxj hx'')
          · exact f5 q ok y' hk2 hl2 hop2
    · have hto : tame2 k.b k.vc o = o := by unfold tame2; rw [if_neg (by simp [hM]), if_neg (by simp [hU])]; exact tame_other hA hS
      have hkind := kind_other hA hS hkind1
      obtain ⟨aL, v, q1, q2, q3, q4⟩ := (lex w h.below).2 i (tame2 k.b k.vc o) (mapAt i o ho)
      rw [hto] at q1 q2
      have hsame : execOp a.eval o = execOp aL.eval o := by
        refine execOp_congr o (fun cs b h2 => by have := hk.sel; simp [isSel, h2] at this) fun x hx => ?_
        cases x with
        | tmp s =>
          obtain ⟨n1, n2⟩ := hkind s (List.mem_filterMap.2 ⟨.tmp s, by simpa using hx, rfl⟩)
          have hsb : s ≠ k.b := fun e => by
            have : isUse k.b o = true := List.any_eq_true.2 ⟨s, List.mem_filterMap.2 ⟨.tmp s, by simpa using hx, rfl⟩, by simp [e]⟩
            rw [hU] at this; cases this
          show a.tmps.getD s undef = aL.tmps.getD s undef
          by_cases hp : ∃ (q : Nat) (ok : Oper), q < i ∧ l[q]? = some ok ∧ ok.dst = some s
          · obtain ⟨q, ok, hki, hk1, hk2⟩ := hp
            rcases orderly_spec n2 hk1 hk2 with h3 | ⟨_, h3⟩ | ⟨h3, _⟩
            · omega
            · obtain ⟨e, he, hbd, hon⟩ := waits_spec ho h3
              have hlk : listed.getD q false = true := by have := hall e he hbd; rwa [hon] at this
              rw [h.val q ok s hk1 hlk (noAl_spec n1 hk1 hk2) hk2 hsb, q4 s q (tame2 k.b k.vc ok) hki (mapAt q ok hk1) (by rw [tame2_dst]; exact hk2)]
            · omega
          · rw [h.old s (fun q ok hk1 hlk hk2 => ?_), q3 s (fun q ok hki hk1 hk2 => ?_)]
            · obtain ⟨o', ho', ed⟩ := mapOf q ok hk1
              exact hp ⟨q, o', hki, ho', by rw [← ed]; exact hk2⟩
            · rcases orderly_spec n2 hk1 hk2 with rfl | ⟨h3, _⟩ | ⟨_, h3⟩
              · rw [hlk] at hu; cases hu
              · exact hp ⟨q, ok, h3, hk1, hk2⟩
              · obtain ⟨e, he, hbd, hon⟩ := waits_spec hk1 h3
                have := h.closed q ok hk1 hlk e he hbd
                rw [hon, hu] at this
                cases this
        | const v => rfl
        | global g => rfl
        | func f => rfl
      have hq : o.quiet P a (fun w' => ∃ e, w' = ext w e) (fun a' => a' = a.put o.dst v) := by
        refine ⟨v, fun u hu2 => ?_, rfl⟩
        have := q1 u hu2
        unfold Oper.quietAt at this ⊢
        rw [hsame]; exact this
      refine Oper.wp_of_quiet (C := fun w' => ∃ e, w' = ext w e) ⟨w, ext_of (Below.refl _ _)⟩ (fun a' w' hw' ha' => ?_) hq
      subst ha'
      obtain ⟨e, rfl⟩ := hw'
      have hbe : Below w.heap.size w (ext w e) := ext_below w e
      have hnal : isAl o = false := by
        cases h2 : isAl o with
        | false => rfl
        | true => exact absurd (isAl_iff.1 h2) hA
      refine hK _ _ (h.next hok ho hu hall _ _ (below_step h.below hbe) (fun _ s hs _ => (q2 s hs).symm) (fun s hs => hsz o hmem s hs) ?_ (fun h2 => by rw [hnal] at h2; cases h2) (keepM _ _ (fun g hg => ⟨Nat.lt_of_lt_of_le hg hbe.size, hbe.block g hg⟩) hM))
      intro j oj t x hj hor hop hx
      rcases hor with rfl | hl
      · have : oj = o := Option.some.inj (hj.symm.trans ho)
        subst this
        exact absurd ⟨t, hop⟩ hA
      · have hne : j ≠ i := fun e => by rw [e] at hl; rw [hl] at hu; cases hu
        obtain ⟨g, cs, e1, e2, e3, e4, e5⟩ := h.made j oj t x hj hl hop hx
        refine ⟨g, cs, by rw [put_ne (fun e => hne (hk.dst j oj x hj e hx)), e1], e2, (hbe.block g (Array.getElem?_eq_some_iff.1 e3).1).trans e3, e4, ?_⟩
        intro q ok y hk2 hor2 hop2
        rcases hor2 with rfl | hl2
        · have : ok = o := Option.some.inj (hk2.symm.trans ho)
          subst this
          exact absurd ⟨_, _, _, hop2⟩ hS
        · exact e5 q ok y hk2 hl2 hop2
end
section
variable {P : Program} {l : List Oper} {a0 aE : Act} {w0 : World}
theorem ready_all {k : Mk} {Z : TypeId → Nat} {listed : Array Bool} {a : Act} {w : World} (hok : madeOk2 k.b l = true) (h : Inv k l a0 aE w0 Z listed a w) (hr : Region.ready .any l.toArray listed = []) : ∀ j, j < l.length → listed.getD j false = true := by
  intro j
  induction j using Nat.strongRecOn with
  | _ j ih =>
    intro hj
    cases e : listed.getD j false with
    | true => rfl
    | false =>
      exfalso
      have hoj : l[j]? = some l[j] := List.getElem?_eq_getElem hj
      have hk := opOk2_spec (madeOk2_at hok hoj)
      have : j ∈ Region.ready .any l.toArray listed := by
        refine mem_ready.2 ⟨?_, l[j], by simp, fun e he hb => ?_⟩
        · have hs : j < listed.size := by rw [h.size]; exact hj
          simp [hs] at e ⊢
          exact e
        · have := hk.after e he hb
          exact ih e.on this (by omega)
      rw [hr] at this
      cases this

theorem wpAny_made {k : Mk} {Z : TypeId → Nat} {Q : Exit → Act → World → Prop} (hok : madeOk2 k.b l = true) (hsz : ∀ o ∈ l, ∀ s, o.dst = some s → s < a0.tmps.size)
    (H : ∀ u, Below w0.heap.size w0 u → wpQuiet P (l.map (tame2 k.b k.vc)).toArray (fun w' => ∃ e, w' = ext u e) (fun a' => a' = aE) (l.map (tame2 k.b k.vc)) a0)
    (hal : ∀ o ∈ l, ∀ t, o.op = .alloc t → ∃ z : Array Value, z.size = Z t ∧ ∀ u : World, (Instr.alloc t true (.tuple #[])).run P u = .ok (.pointer (some ⟨u.heap.size, 0, none⟩)) (u.alloc (.cells z t)))
    (hst : ∀ o ∈ l, ∀ t x y, o.op = .store t x y → ∃ cells, aE.eval y = .agg cells ∧ (P.info? t).map (·.size) = some cells.size ∧ cells.all (·.oneCell') = true ∧ Z t = cells.size)
    (hus : l.any (isUse k.b) = true)
    (hmkr : ∀ o ∈ l, isMk k.b o = true → ∀ (a' : Act) (u : World) (K : Act → World → Prop), (∀ x ∈ o.op.operands, a'.eval x = aE.eval x) → Below w0.heap.size w0 u → (∀ g ob u', u.heap.size ≤ g → u'.heap[g]? = some ob → k.C ob → Below u.heap.size u u' → K (a'.put o.dst (k.V g)) u') → o.wp P a' u K Q)
    (huse : ∀ o ∈ l, isUse k.b o = true → ∀ (a' : Act) (u : World) (K : Act → World → Prop) (g : Nat) (ob : Obj), (∀ x ∈ o.op.operands, x ≠ .tmp k.b → a'.eval x = aE.eval x) → a'.eval (.tmp k.b) = k.V g → Below w0.heap.size w0 u → w0.heap.size ≤ g → u.heap[g]? = some ob → k.C ob → (∀ u', Below u.heap.size u u' → K (a'.put o.dst k.vc) u') → o.wp P a' u K Q)
    (K : ∀ listed a w, Inv k l a0 aE w0 Z listed a w → (∀ j, j < l.length → listed.getD j false = true) → Q .normal a w) :
    ∀ fuel listed a w, Inv k l a0 aE w0 Z listed a w → unl listed l.length ≤ fuel → wpAny P .any l.toArray Q fuel listed a w := by
  intro fuel
  induction fuel with
  | zero =>
    intro listed a w h hf
    have hall := unl_zero (by omega : unl listed l.length = 0)
    refine ⟨?_, K _ _ _ h hall⟩
    cases hr : Region.ready .any l.toArray listed with
    | nil => rfl
    | cons i rs =>
      exfalso
      have hi : i ∈ Region.ready .any l.toArray listed := by rw [hr]; simp
      obtain ⟨hu, o, ho, _⟩ := mem_ready.1 hi
      have := hall i (by have := (Array.getElem?_eq_some_iff.1 ho).1; simpa using this)
      rw [both_of hu] at this
      cases this
  | succ fuel ih =>
    intro listed a w h hf
    refine ⟨fun hr => K _ _ _ h (ready_all hok h hr), fun i hi => ?_⟩
    refine h.step hok hsz H hal hst hus hmkr huse hi fun a' w' h' => ih _ a' w' h' ?_
    obtain ⟨hu, o, ho, _⟩ := mem_ready.1 hi
    have hlt : i < l.length := by have := (Array.getElem?_eq_some_iff.1 ho).1; simpa using this
    have := unl_set hlt (by rw [h.size]; exact Nat.le_refl _) (both_of hu)
    omega
theorem region_made0 {k : Mk} {id : Nat} {Q : Exit → Act → World → Prop} (aE : Act) (hm : P.follows .mixedOrders = true) (hok : madeOk2 k.b l = true) (hsz : ∀ o ∈ l, ∀ s, o.dst = some s → s < a0.tmps.size)
    (H : ∀ u, Below w0.heap.size w0 u → wpQuiet P (l.map (tame2 k.b k.vc)).toArray (fun w' => ∃ e, w' = ext u e) (fun a' => a' = aE) (l.map (tame2 k.b k.vc)) a0)
    (hal : ∀ o ∈ l, ∀ t, o.op = .alloc t → ∃ z n, (P.info? t).map (fun i => (i.zero, i.size)) = some (some z, n) ∧ z.cells.size = n)
    (hst : ∀ o ∈ l, ∀ t x y, o.op = .store t x y → ∃ cells, aE.eval y = .agg cells ∧ (P.info? t).map (·.size) = some cells.size ∧ cells.all (·.oneCell') = true)
    (hmx : l.any (isMk k.b) = true) (hus : l.any (isUse k.b) = true)
    (hmkr : ∀ o ∈ l, isMk k.b o = true → ∀ (a' : Act) (u : World) (K : Act → World → Prop), (∀ x ∈ o.op.operands, a'.eval x = aE.eval x) → Below w0.heap.size w0 u → (∀ g ob u', u.heap.size ≤ g → u'.heap[g]? = some ob → k.C ob → Below u.heap.size u u' → K (a'.put o.dst (k.V g)) u') → o.wp P a' u K Q)
    (huse : ∀ o ∈ l, isUse k.b o = true → ∀ (a' : Act) (u : World) (K : Act → World → Prop) (g : Nat) (ob : Obj), (∀ x ∈ o.op.operands, x ≠ .tmp k.b → a'.eval x = aE.eval x) → a'.eval (.tmp k.b) = k.V g → Below w0.heap.size w0 u → w0.heap.size ≤ g → u.heap[g]? = some ob → k.C ob → (∀ u', Below u.heap.size u u' → K (a'.put o.dst k.vc) u') → o.wp P a' u K Q)
    (K : ∀ G gb w, Below w0.heap.size w0 w → w0.heap.size ≤ gb → madeFacts aE G w0 w l → (∀ x ∈ alSlots l, ∀ x' ∈ alSlots l, x ≠ x' → G x ≠ G x') → Q .normal (putAll G (alSlots l) (aE.put (some k.b) (k.V gb))) w) : (Code.region id l.toArray true).wp P Q a0 w0 := by
  refine wp_region_any hm ?_
  refine wpAny_made (Z := fun t => ((P.info? t).map (·.size)).getD 0) hok hsz H ?_ ?_ hus hmkr huse ?_ _ _ _ _ ?_ ?_
  · intro o ho t hop
    obtain ⟨z, n, h1, h2⟩ := hal o ho t hop
    refine ⟨z.cells, ?_, run_alloc_of h1⟩
    obtain ⟨i, hi1, hi2⟩ := Option.map_eq_some_iff.1 h1
    simp only [Prod.mk.injEq] at hi2
    simp [hi1, hi2.2, h2]
  · intro o ho t x y hop
    obtain ⟨cells, h1, h2, h3⟩ := hst o ho t x y hop
    exact ⟨cells, h1, h2, h3, by simp only [h2]; rfl⟩
  · intro listed a w h hall
    have lex := lexical (C := fun w' => ∃ e, w' = ext w0 e) (l.map (tame2 k.b k.vc)) a0
      (fun o' h' => by
        obtain ⟨o2, h2, rfl⟩ := List.mem_map.1 h'
        obtain ⟨j, hj⟩ := List.getElem?_of_mem h2
        rw [tame2_guard]; exact (opOk2_spec (madeOk2_at hok hj)).guard)
      (fun i j oi oj s h1 h2 h3 h4 => by
        simp only [List.getElem?_map, Option.map_eq_some_iff] at h1 h2
        obtain ⟨oi', e1, rfl⟩ := h1
        obtain ⟨oj', e3, rfl⟩ := h2
        rw [tame2_dst] at h3 h4
        exact ((opOk2_spec (madeOk2_at hok e1)).dst j oj' s e3 h3 h4).symm)
      (fun o' h' s h2 => by
        obtain ⟨o2, h3, rfl⟩ := List.mem_map.1 h'
        exact hsz o2 h3 s (by rw [← tame2_dst]; exact h2)) (H w0 (Below.refl _ _))
    obtain ⟨⟨x1, x2, x3⟩, _⟩ := lex
    let G : Nat → Nat := fun x => match a.tmps.getD x undef with | .pointer (some ad) => ad.block | _ => 0
    have listedAll : ∀ (j : Nat) (oj : Oper), l[j]? = some oj → listed.getD j false = true := fun j oj hj => hall j (List.getElem?_eq_some_iff.1 hj).1
    have hG : ∀ x g, a.tmps.getD x undef = .pointer (some ⟨g, 0, none⟩) → G x = g := fun x g e => by show (match a.tmps.getD x undef with | .pointer (some ad) => ad.block | _ => 0) = g; rw [e]
    have inSlots : ∀ x, x ∈ alSlots l ↔ ∃ (j : Nat) (oj : Oper) (t : TypeId), l[j]? = some oj ∧ oj.op = .alloc t ∧ oj.dst = some x := by
      intro x
      unfold alSlots
      rw [List.mem_filterMap]
      constructor
      · rintro ⟨o, ho, h2⟩
        obtain ⟨j, hj⟩ := List.getElem?_of_mem ho
        split at h2
        · rename_i t ht; exact ⟨j, o, t, hj, ht, h2⟩
        · cases h2
      · rintro ⟨j, oj, t, hj, ht, hx⟩
        exact ⟨oj, List.mem_of_getElem? hj, by rw [ht]; exact hx⟩
    obtain ⟨jm, om, hjm, hom⟩ : ∃ (j : Nat) (oj : Oper), l[j]? = some oj ∧ isMk k.b oj = true := by
      obtain ⟨oj, h1, h2⟩ := List.any_eq_true.1 hmx
      obtain ⟨j, hj⟩ := List.getElem?_of_mem h1
      exact ⟨j, oj, hj, h2⟩
    obtain ⟨gb, mb1, mb2, _, _⟩ := h.mkd jm om hjm (listedAll jm om hjm) hom
    have hbsz : k.b < aE.tmps.size := by rw [← x1]; exact hsz om (List.mem_of_getElem? hjm) k.b (isMk_iff.1 hom)
    have e : a = putAll G (alSlots l) (aE.put (some k.b) (k.V gb)) := by
      have hp := putAll_size G (alSlots l) (aE.put (some k.b) (k.V gb))
      rw [put_size, put_defers] at hp
      refine act_ext (by rw [h.sz, hp.1, x1]) (by rw [h.defs, hp.2, x2]) fun s => ?_
      rw [putAll_get G (alSlots l) (aE.put (some k.b) (k.V gb)) s fun x hx => by
        obtain ⟨j, oj, t, hj, _, hd⟩ := (inSlots x).1 hx
        rw [put_size, ← x1]; exact hsz oj (List.mem_of_getElem? hj) x hd]
      split
      · rename_i hs
        obtain ⟨j, oj, t, hj, ht, hd⟩ := (inSlots s).1 hs
        obtain ⟨g, cs, e1, _⟩ := h.made j oj t s hj (listedAll j oj hj) ht hd
        rw [e1, hG s g e1]
      · rename_i hs
        by_cases hsb : s = k.b
        · rw [hsb, put_eq hbsz]; exact mb1
        rw [put_ne (fun e => hsb (by injection e with e; exact e.symm))]
        by_cases hp2 : ∃ (q : Nat) (ok : Oper), l[q]? = some ok ∧ ok.dst = some s
        · obtain ⟨q, ok, hk1, hk2⟩ := hp2
          refine h.val q ok s hk1 (listedAll q ok hk1) ?_ hk2 hsb
          cases hA : isAl ok with
          | false => rfl
          | true =>
            obtain ⟨t, ht⟩ := isAl_iff.1 hA
            exact absurd ((inSlots s).2 ⟨q, ok, t, hk1, ht, hk2⟩) hs
        · rw [h.old s (fun q ok hk1 _ hk2 => hp2 ⟨q, ok, hk1, hk2⟩)]
          refine x3 s fun o' h' hk2 => ?_
          obtain ⟨o2, h3, rfl⟩ := List.mem_map.1 h'
          obtain ⟨q, hk1⟩ := List.getElem?_of_mem h3
          exact hp2 ⟨q, o2, hk1, by rw [← tame2_dst]; exact hk2⟩
    rw [e]
    refine K G gb w h.below mb2 (madeFacts_of l fun o ho t x y hop => ?_) fun x hx x' hx' hne => ?_
    · obtain ⟨i, hi⟩ := List.getElem?_of_mem ho
      obtain ⟨x2, e2, _, ⟨j, oj, _, _, hj, hopj, hxj⟩, _, _⟩ := kind_store hop (kindStore hok hi hop)
      have : x = x2 := by injection e2
      subst this
      obtain ⟨g, cs, e1, e3, e4, _, e5⟩ := h.made j oj t x hj (listedAll j oj hj) hopj hxj
      rw [hG x g e1]
      exact ⟨e3, by rw [e5 i o y hi (listedAll i o hi) hop]; exact e4⟩
    · obtain ⟨j, oj, t, hj, ht, hd⟩ := (inSlots x).1 hx
      obtain ⟨j', oj', t', hj', ht', hd'⟩ := (inSlots x').1 hx'
      obtain ⟨g, cs, e1, _⟩ := h.made j oj t x hj (listedAll j oj hj) ht hd
      obtain ⟨g', cs', e1', _⟩ := h.made j' oj' t' x' hj' (listedAll j' oj' hj') ht' hd'
      rw [hG x g e1, hG x' g' e1']
      refine h.apart j j' oj oj' x x' g g' hj hj' (listedAll j oj hj) (listedAll j' oj' hj') (isAl_iff.2 ⟨t, ht⟩) (isAl_iff.2 ⟨t', ht'⟩) hd hd' (fun e => ?_) e1 e1'
      subst e
      have : oj' = oj := Option.some.inj (hj'.symm.trans hj)
      subst this
      exact hne (Option.some.inj (hd.symm.trans hd'))
  · have hf : ∀ j, (Array.replicate l.toArray.size false).getD j false = true → False := fun j h => by rw [repl_false] at h; cases h
    exact ⟨by simp, fun j oj _ h2 => (hf j h2).elim, (Below.refl _ _).drew, rfl, rfl, fun s _ => rfl, fun j oj s _ h2 => (hf j h2).elim, fun j oj t x _ h2 => (hf j h2).elim, fun j j' oj oj' x x' g g' _ _ h2 => (hf j h2).elim, fun j oj _ h2 => (hf j h2).elim⟩
  · have : ∀ n, unl (Array.replicate l.toArray.size false) n ≤ n := by
      intro n
      induction n with
      | zero => exact Nat.le_refl _
      | succ n ih => simp only [unl]; split <;> omega
    have := this l.length
    simpa using this
/-- **The region's law.** -/
theorem region_made {k : Mk} {id : Nat} {Q : Exit → Act → World → Prop} {aE : Act} (hm : P.follows .mixedOrders = true) (hok : madeOk2 k.b l = true) (hsz : szOk a0.tmps.size l = true) (hal : alsOk P l = true)
    (H : ∀ u, Below w0.heap.size w0 u → wpQuiet P (l.map (tame2 k.b k.vc)).toArray (fun w' => ∃ e, w' = ext u e) (fun a' => a' = aE) (l.map (tame2 k.b k.vc)) a0)
    (hst : storesOk P aE l)
    (hmx : l.any (isMk k.b) = true) (hus : l.any (isUse k.b) = true)
    (hmkr : ∀ o ∈ l, isMk k.b o = true → ∀ (a' : Act) (u : World) (K : Act → World → Prop), (∀ x ∈ o.op.operands, a'.eval x = aE.eval x) → Below w0.heap.size w0 u → (∀ g ob u', u.heap.size ≤ g → u'.heap[g]? = some ob → k.C ob → Below u.heap.size u u' → K (a'.put o.dst (k.V g)) u') → o.wp P a' u K Q)
    (huse : ∀ o ∈ l, isUse k.b o = true → ∀ (a' : Act) (u : World) (K : Act → World → Prop) (g : Nat) (ob : Obj), (∀ x ∈ o.op.operands, x ≠ .tmp k.b → a'.eval x = aE.eval x) → a'.eval (.tmp k.b) = k.V g → Below w0.heap.size w0 u → w0.heap.size ≤ g → u.heap[g]? = some ob → k.C ob → (∀ u', Below u.heap.size u u' → K (a'.put o.dst k.vc) u') → o.wp P a' u K Q)
    (K : ∀ G gb w, Below w0.heap.size w0 w → w0.heap.size ≤ gb → madeFacts aE G w0 w l → (∀ x ∈ alSlots l, ∀ x' ∈ alSlots l, x ≠ x' → G x ≠ G x') → Q .normal (putAll G (alSlots l) (aE.put (some k.b) (k.V gb))) w) : (Code.region id l.toArray true).wp P Q a0 w0 := by
  refine region_made0 aE hm hok ?_ H ?_ (storesOk_at hst) hmx hus hmkr huse K
  · intro o ho s hs
    have := List.all_eq_true.1 hsz o ho
    simpa [hs] using this
  · intro o ho t hop
    have := List.all_eq_true.1 hal o ho
    simp only [hop] at this
    split at this
    · rename_i i hi
      split at this
      · rename_i z hz
        exact ⟨z, i.size, by rw [hi]; simp [hz], by simpa using this⟩
      · cases this
    · cases this
end
/-- The operation by its kind: 1 makes the value, 2 reads it. -/
inductive Kd where
  | t
  | m
  | u
def tameK (vc : Value) : Kd → Oper → Oper
  | .t, o => tame o
  | .m, o => { o with op := .assign (.const undef) }
  | .u, o => { o with op := .assign (.const vc) }
def kindsOf (b : Nat) (l : List Oper) : List Kd := l.map fun o => if isMk b o then .m else if isUse b o then .u else .t
theorem tame_kinds (b : Nat) (vc : Value) : ∀ l : List Oper, l.map (tame2 b vc) = List.zipWith (tameK vc) (kindsOf b l) l
  | [] => rfl
  | o :: l => by
    have ih := tame_kinds b vc l
    simp only [kindsOf] at ih ⊢
    simp only [List.map_cons, List.zipWith_cons_cons, ih]
    congr 1
    unfold tame2
    cases isMk b o <;> cases isUse b o <;> rfl
section
variable {P : Program} {l : List Oper} {a0 aE : Act} {w0 : World}
/-- The operation numbers of the maker and of the reader, and what they ask. -/
theorem region_madeK {id : Nat} {Q : Exit → Act → World → Prop} (k : Mk) (kinds : List Kd) (om ou : Oper) (hkd : kindsOf k.b l = kinds) (hm : P.follows .mixedOrders = true) (hok : madeOk2 k.b l = true) (hsz : szOk a0.tmps.size l = true) (hal : alsOk P l = true)
    (hmx : l.any (isMk k.b) = true) (hus : l.any (isUse k.b) = true) (hom : l.filter (isMk k.b) = [om]) (hou : l.filter (isUse k.b) = [ou])
    (H : ∀ u, Below w0.heap.size w0 u → wpQuiet P (List.zipWith (tameK k.vc) kinds l).toArray (fun w' => ∃ e, w' = ext u e) (fun a' => a' = aE) (List.zipWith (tameK k.vc) kinds l) a0)
    (hst : storesOk P aE l)
    (hmkr : ∀ (a' : Act) (u : World) (K : Act → World → Prop), (∀ x ∈ om.op.operands, a'.eval x = aE.eval x) → Below w0.heap.size w0 u → (∀ g ob u', u.heap.size ≤ g → u'.heap[g]? = some ob → k.C ob → Below u.heap.size u u' → K (a'.put om.dst (k.V g)) u') → om.wp P a' u K Q)
    (huse : ∀ (a' : Act) (u : World) (K : Act → World → Prop) (g : Nat) (ob : Obj), (∀ x ∈ ou.op.operands, x ≠ .tmp k.b → a'.eval x = aE.eval x) → a'.eval (.tmp k.b) = k.V g → Below w0.heap.size w0 u → w0.heap.size ≤ g → u.heap[g]? = some ob → k.C ob → (∀ u', Below u.heap.size u u' → K (a'.put ou.dst k.vc) u') → ou.wp P a' u K Q)
    (K : ∀ G gb w, Below w0.heap.size w0 w → w0.heap.size ≤ gb → madeFacts aE G w0 w l → (∀ x ∈ alSlots l, ∀ x' ∈ alSlots l, x ≠ x' → G x ≠ G x') → Q .normal (putAll G (alSlots l) (aE.put (some k.b) (k.V gb))) w) : (Code.region id l.toArray true).wp P Q a0 w0 := by
  refine region_made (k := k) hm hok hsz hal ?_ hst hmx hus ?_ ?_ K
  · rw [tame_kinds, hkd]; exact H
  · intro o ho hm2
    have : o ∈ l.filter (isMk k.b) := List.mem_filter.2 ⟨ho, hm2⟩
    rw [hom] at this
    rw [List.mem_singleton.1 this]
    exact hmkr
  · intro o ho hm2
    have : o ∈ l.filter (isUse k.b) := List.mem_filter.2 ⟨ho, hm2⟩
    rw [hou] at this
    rw [List.mem_singleton.1 this]
    exact huse
theorem wp_enter {o : Oper} {a : Act} {u : World} {K : Act → World → Prop} {Q : Exit → Act → World → Prop} (f : FuncId) (args : Array Value) (h : (execOp a.eval o).run P u = .ok (.enter f args) u) (hc : Calls P f args u fun e w' => ∃ v, e = .returned v ∧ K (a.put o.dst v) w') : o.wp P a u K Q := by
  unfold Oper.wp
  rw [h, Oper.upon_enter]
  refine hc.mono ?_
  rintro e w' ⟨v, rfl, hk⟩
  exact hk
theorem wp_value {o : Oper} {a : Act} {u u' : World} {K : Act → World → Prop} {Q : Exit → Act → World → Prop} (v : Value) (h : (execOp a.eval o).run P u = .ok (.value v) u') (hc : K (a.put o.dst v) u') : o.wp P a u K Q := by
  unfold Oper.wp
  rw [h, Oper.upon_value]
  exact hc
end
end Go.Proofs.Ytoalpihlflifmaa.M2
