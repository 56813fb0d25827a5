/- Words for the bits of a number, and for a list of the call's own to which a row is appended. No conditions. -/
import Derived.Test.YtmgfejdgjfldfaaRes
import Derived.Lib.RabinKarpLaws
namespace Go.Proofs.Ytmgfejdgjfldfaa
open Go.RowKit
set_option linter.unusedSimpArgs false
set_option linter.unusedVariables false

/-- Does s have the bit k? -/
def bt (s k : Nat) : Bool := s / 2 ^ k % 2 == 1
theorem bt_bits {s k : Nat} (hs : s < 9223372036854775808) : bits BinOp.and IntKind.i64 ((s : Int) / 2 ^ k) 1 = ((s / 2 ^ k % 2 : Nat) : Int) := by
  have e : ((s : Int) / 2 ^ k) = ((s / 2 ^ k : Nat) : Int) := by push_cast; rfl
  rw [e]
  exact and_one _ (Nat.lt_of_le_of_lt (Nat.div_le_self _ _) hs)
theorem bt_yes {s k : Nat} (hs : s < 9223372036854775808) (h : bt s k = true) : (bits BinOp.and IntKind.i64 ((s : Int) / 2 ^ k) 1 == 0) = false ∧ (bits BinOp.and IntKind.i64 ((s : Int) / 2 ^ k) 1 == 1) = true := by
  rw [bt_bits hs]
  have h1 : s / 2 ^ k % 2 = 1 := by simpa [bt] using h
  rw [h1]
  exact ⟨by decide, by decide⟩
theorem bt_no {s k : Nat} (hs : s < 9223372036854775808) (h : bt s k = false) : (bits BinOp.and IntKind.i64 ((s : Int) / 2 ^ k) 1 == 0) = true ∧ (bits BinOp.and IntKind.i64 ((s : Int) / 2 ^ k) 1 == 1) = false := by
  rw [bt_bits hs]
  have h1 : s / 2 ^ k % 2 = 0 := by
    have : s / 2 ^ k % 2 ≠ 1 := by simpa [bt] using h
    omega
  rw [h1]
  exact ⟨by decide, by decide⟩
theorem bt_val {s k : Nat} (hs : s < 9223372036854775808) : bits BinOp.and IntKind.i64 ((s : Int) / 2 ^ k) 1 = if bt s k = true then 1 else 0 := by
  rw [bt_bits hs]
  by_cases h : s / 2 ^ k % 2 = 1
  · rw [if_pos (by simp [bt, h]), h]; rfl
  · rw [if_neg (by simp [bt, h]), show s / 2 ^ k % 2 = 0 from by omega]; rfl
theorem wrap_pow : ∀ n, n < 13 → wrap64 ((2 : Int) ^ n) = ((2 ^ n : Nat) : Int) ∧ 2 ^ n ≤ 4096 := by decide +kernel

/-- A row appended to a slice of the call's own. -/
theorem push_many {ops : Array Oper} {rest : List Oper} {o : Oper} {a : Act} {Q : Exit → Act → World → Prop} {wr : World} (hgd : o.guard = none) (s x : Operand)
    (ho : o.op = .call { callee := .builtin .append, args := #[s, x], argTypes := #[22, 22] }) (B : Nat) (sv : Value) (l : List Int) (hs : a.eval s = sv)
    (b off c : Nat) (ys : List Int) (hx : a.eval x = .slice (some ⟨b, off, none⟩) ys.length c) (hc : ∀ j, j < ys.length → wr.cell? ⟨b, off + j, none⟩ = some (.int .i64 (ys.getD j 0)))
    (hown : OwnS wr B sv l) (hlen : l.length + ys.length ≤ 1048576) (hB : B ≤ wr.heap.size)
    (h : ∀ v' w', OwnS w' B v' (l ++ ys) → wr.grownBy w' sv.ownBlock → wpList Try.prog ops Q rest (a.put o.dst v') w') :
    wpList Try.prog ops Q (o :: rest) a wr := by
  obtain ⟨i0, hi, hz0, hz1, hz2⟩ := info_parts infoInt
  refine wpList_append_own _ hgd s x 22 ho B 3 i0 (.int .i64 0) 1 8 Try.underlying22 hi hz0 hz1 hz2 rfl (by decide) sv l.length (l.map (Value.int .i64)) hs hown ⟨b, off, none⟩ ys.length c (ys.map (Value.int .i64)) hx (by simp)
    ?_ ?_ ?_ ?_ ?_ ?_
  · intro j u hj
    simp only [List.getElem?_map, Option.map_eq_some_iff] at hj
    obtain ⟨y, hy, rfl⟩ := hj
    have hj2 := (List.getElem?_eq_some_iff.1 hy).1
    have := hc j hj2
    have e : (⟨b, off, none⟩ : Addr).add j = ⟨b, off + j, none⟩ := by simp only [Addr.add]; split <;> simp_all
    rw [e, this]
    simp [List.getD, hy]
  · intro u hu
    simp only [List.mem_map] at hu
    obtain ⟨y, _, rfl⟩ := hu
    rfl
  · unfold maxLen; omega
  · omega
  · exact hB
  · intro v' w' h1 h2 _
    refine h v' w' ?_ h2
    unfold OwnS; simpa using h1
theorem OwnS.out {w : World} {B : Nat} {s : Value} {l : List Int} (h : OwnS w B s l) : ∃ A c, s = .slice A l.length c ∧ Fl w A l.length 1 (fun j => l.getD j 0) := by
  rcases h.2 with ⟨rfl, h0⟩ | ⟨g, cap, cur, rfl, hb, hh, hl, hm, hsz, ht⟩
  · exact ⟨none, 0, by rw [h0], by rw [h0]; exact Fl.nil⟩
  · refine ⟨some ⟨g, 0, none⟩, cap, rfl, fun _ => ⟨g, 0, rfl, fun j hj => ?_⟩⟩
    have hj' : j < l.length := by omega
    have h1 : (cur.toList.take (l.length * 1))[j]? = (l.map (Value.int .i64))[j]? := by rw [ht]
    rw [List.getElem?_take] at h1
    simp only [Nat.mul_one, hj', if_true, Array.getElem?_toList, List.getElem?_map, List.getElem?_eq_getElem hj', Option.map_some] at h1
    simp [World.cell?, hh, h1, List.getElem?_eq_getElem hj']
end Go.Proofs.Ytmgfejdgjfldfaa
