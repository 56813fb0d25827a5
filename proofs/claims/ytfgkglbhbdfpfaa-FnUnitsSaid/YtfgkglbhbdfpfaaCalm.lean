/- Plain laws on worlds: a region that draws its order, whose operations read and whose callees leave what was there before alone, is walked once, in the order of the text, and leaves a world that differs from the first by new blocks and draws alone. No conditions. -/
import Derived.Test.YtfgkglbhbdfpfaaRows
import Derived.WalkKit
import Derived.WalkLawsBesides
import Derived.Deep.QuietTactic
import Derived.BigQuiet
import Derived.Deep.DeepMust
import Derived.Lib.Hide
import Derived.Outline
import Derived.Handy
namespace Go.Proofs.Ytfgkglbhbdfpfaa
open Go.RowKit

theorem ret_bool {a b : Bool} (h : a = b) : Ending.returned (.bool a) = .returned (.bool b) := by rw [h]
theorem ret_int {k : IntKind} {a b : Int} (h : a = b) : Ending.returned (.int k a) = .returned (.int k b) := by rw [h]

open Classical in
/-- The world e, if it goes on from w; else w. -/
noncomputable def ext (w e : World) : World := if Below w.heap.size w e then e else w
theorem ext_below (w e : World) : Below w.heap.size w (ext w e) := by
  unfold ext; split
  · assumption
  · exact Below.refl _ _
theorem ext_of {w e : World} (h : Below w.heap.size w e) : e = ext w e := by
  unfold ext; rw [if_pos h]
theorem lt_of_cell {w : World} {p : Addr} {v : Value} (h : w.cell? p = some v) : p.block < w.heap.size := World.block_lt_of_cell? w _ h
theorem below_cell {w w' : World} (hb : Below w.heap.size w w') {p : Addr} {v : Value} (h : w.cell? p = some v) : w'.cell? p = some v := (hb.cell (lt_of_cell h)).trans h
theorem ext_cell {w : World} {p : Addr} {v : Value} (h : w.cell? p = some v) : ∀ e, (ext w e).cell? p = some v := fun e => below_cell (ext_below w e) h
theorem below_trans {a b c : World} (h : Below a.heap.size a b) (k : Below b.heap.size b c) : Below a.heap.size a c := h.trans (k.mono h.size)
theorem bcell {W w1 : World} (hb : Below W.heap.size W w1) : (∀ b o, b < W.heap.size → w1.cell? ⟨b, o, none⟩ = W.cell? ⟨b, o, none⟩) ∧ (∀ b o, b < W.heap.size → w1.frozen? ⟨b, o, none⟩ = W.frozen? ⟨b, o, none⟩) :=
  ⟨fun b o h => hb.cell (p := ⟨b, o, none⟩) h, fun b o h => hb.frozen (p := ⟨b, o, none⟩) h⟩
theorem below_step {w a b : World} (h : Below w.heap.size w a) (k : Below a.heap.size a b) : Below w.heap.size w b := h.trans (k.mono h.size)
theorem below_frozen {w w' : World} (hb : Below w.heap.size w w') {p : Addr} (h : p.block < w.heap.size) {b : Bool} (hz : w.frozen? p = b) : w'.frozen? p = b := (hb.frozen h).trans hz
theorem below_lt {w w' : World} (hb : Below w.heap.size w w') {k : Nat} (h : k < w.heap.size) : k < w'.heap.size := Nat.lt_of_lt_of_le h hb.size
theorem below_alloc {w a : World} (h : Below w.heap.size w a) (o : Obj) : Below w.heap.size w (a.alloc o) := h.alloc h.size o
theorem below_drewN {B : Nat} {a w : World} (h : Below B a w) (n : Nat) : Below B a (w.drewN n) := ⟨h.os, h.tape, h.output, h.size, h.block⟩

theorem calm_lit {P : Program} {id : Nat} {Q : Exit → Act → World → Prop} {a : Act} {w : World} {l : List Oper} (hm : P.follows .mixedOrders = true) (hB : Region.lexB .any l.toArray = true)
    (h : wpQuiet P l.toArray (fun w' => ∃ e, w' = ext w e) (fun a' => ∀ w', Below w.heap.size w w' → Q .normal a' w') l a) : (Code.region id l.toArray true).wp P Q a w := by
  refine wp_region_quiet (C := fun w' => ∃ e, w' = ext w e) hm hB ⟨w.drew, ext_of ((Below.refl _ _).drew)⟩ ?_
  have e : (fun a' : Act => ∀ w', (∃ e, w' = ext w e) → Q .normal a' w') = fun a' => ∀ w', Below w.heap.size w w' → Q .normal a' w' := by
    funext a'
    apply propext
    constructor
    · intro h w' hb; exact h w' ⟨w', ext_of hb⟩
    · rintro h w' ⟨e, rfl⟩; exact h _ (ext_below w e)
  rw [e]
  simpa using h

theorem calm_of {P : Program} {f : FuncId} {args : Array Value} {w e : World} {v : Value}
    (h : Calls P f args (ext w e) fun r w' => r = .returned v ∧ Below (ext w e).heap.size (ext w e) w') : Calls P f args (ext w e) fun r w'' => r = .returned v ∧ ∃ e', w'' = ext w e' :=
  h.mono fun _ w' ⟨he, hb⟩ => ⟨he, w', ext_of (below_trans (ext_below w e) hb)⟩
theorem calm_same {P : Program} {f : FuncId} {args : Array Value} {w e : World} {v : Value}
    (h : Calls P f args (ext w e) fun r w' => r = .returned v ∧ ext w e = w') : Calls P f args (ext w e) fun r w'' => r = .returned v ∧ ∃ e', w'' = ext w e' :=
  h.mono fun _ _ ⟨he, hb⟩ => ⟨he, e, hb.symm⟩
end Go.Proofs.Ytfgkglbhbdfpfaa
