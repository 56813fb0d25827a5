/- The contracts of copyInts, without and l22Without. -/
import Derived.Test.YtmnmnkenboejpaaGramS
import Derived.Laws.AppendOwnNone
import Derived.Deep.RegionHeld3
import Derived.IntWalk
namespace Go.Proofs.Ytmnmnkenboejpaa
open Go.RowKit
set_option linter.unusedSimpArgs false
set_option linter.unusedVariables false
set_option maxHeartbeats 4000000
/-- A list of numbers appended to a slice of the call's own. -/
theorem run_push_list2 (ty : TypeId) (B : Nat) (sv : Value) (l l2 : List Int) (A : Option Addr) (n c : Nat) (w : World) (hn : n = l2.length) (hown : OwnS w B sv l) (hF : Fl w A n 1 (gl l2)) (hA : A = none → sv = .slice none 0 0 ∧ c = 0) (hlen : l.length + l2.length ≤ 2097152) (hB : B ≤ w.heap.size) :
    ∃ v' w', (Builtin.append_ #[23, 23] ty #[sv, .slice A n c]).run Try.prog w = .ok v' w' ∧ OwnS w' B v' (l ++ l2) ∧ w.grownBy w' sv.ownBlock ∧ ∀ b, v'.ownBlock = some b → sv.ownBlock = some b ∨ w.heap.size ≤ b := by
  subst hn
  obtain ⟨i0, hi, hz0, hz1, hz2⟩ := info_parts infoInt
  cases A with
  | some ad =>
    have hcells : ∀ j u, (l2.map (Value.int .i64))[j]? = some u → w.cell? (ad.add j) = some u := by
      intro j u hj
      have hjl : j < l2.length := by
        have := (List.getElem?_eq_some_iff.1 hj).1
        simpa using this
      obtain ⟨g, off, hA2, hc⟩ := hF (by omega)
      have : ad = ⟨g, off, none⟩ := Option.some.inj hA2
      subst this
      have h2 := hc j (by omega)
      rw [Addr.add_lit, h2]
      simp only [List.getElem?_map, List.getElem?_eq_getElem hjl, Option.map_some, Option.some.injEq] at hj
      rw [← hj]
      simp [gl, List.getElem?_eq_getElem hjl]
    obtain ⟨v', w', hrun, h1, h2, _, hat⟩ := run_append_own_at (P := Try.prog) w B 23 ty 3 i0 (.int .i64 0) 1 8 Try.underlying23 hi hz0 hz1 hz2 rfl (by decide) sv l.length (l.map (Value.int .i64)) hown ad l2.length c (l2.map (Value.int .i64)) (by simp)
      hcells (by intro u hu; obtain ⟨y, _, rfl⟩ := List.mem_map.1 hu; rfl) (by unfold maxLen; omega) (by omega) hB
    refine ⟨v', w', hrun, ?_, h2, fun b hb => ?_⟩
    · unfold OwnS; simpa using h1
    · rcases hat with hat | hat
      · exact Or.inl (hat ▸ hb)
      · rw [hat] at hb; injection hb with hb; exact Or.inr (by omega)
  | none =>
    obtain ⟨rfl, rfl⟩ := hA rfl
    have hl : l2 = [] := by
      rcases Nat.eq_zero_or_pos l2.length with h0 | h0
      · exact List.eq_nil_of_length_eq_zero h0
      · obtain ⟨g, off, e, _⟩ := hF h0; cases e
    subst hl
    have hl0 : l = [] := by
      rcases hown.2 with ⟨_, h0⟩ | ⟨g, cap, cur, e, _⟩
      · exact List.eq_nil_of_length_eq_zero h0
      · cases e
    subst hl0
    refine ⟨.slice none 0 0, w, ?_, OwnS.nil _ _, ⟨rfl, rfl, rfl, Nat.le_refl _, fun _ _ _ => rfl⟩, fun b hb => by simp [Value.ownBlock] at hb⟩
    simp [go_sem, Builtin.append_, Try.underlying23]
theorem run_push_list (ty : TypeId) (B : Nat) (sv : Value) (l l2 : List Int) (A : Option Addr) (n c : Nat) (w : World) (hn : n = l2.length) (hown : OwnS w B sv l) (hF : Fl w A n 1 (gl l2)) (hA : A = none → sv = .slice none 0 0 ∧ c = 0) (hlen : l.length + l2.length ≤ 2097152) (hB : B ≤ w.heap.size) :
    ∃ v' w', (Builtin.append_ #[23, 23] ty #[sv, .slice A n c]).run Try.prog w = .ok v' w' ∧ OwnS w' B v' (l ++ l2) ∧ w.grownBy w' sv.ownBlock := by
  obtain ⟨v', w', h1, h2, h3, _⟩ := run_push_list2 ty B sv l l2 A n c w hn hown hF hA hlen hB
  exact ⟨v', w', h1, h2, h3⟩
theorem push_list {ops : Array Oper} {rest : List Oper} {o : Oper} {a : Act} {Q : Exit → Act → World → Prop} {w : World} (hgd : o.guard = none) (s x : Operand)
    (ho : o.op = .call { callee := .builtin .append, args := #[s, x], argTypes := #[23, 23] }) (B : Nat) (sv : Value) (l l2 : List Int) (A : Option Addr) (n c : Nat) (hn : n = l2.length) (hs : a.eval s = sv)
    (hx : a.eval x = .slice A n c) (hown : OwnS w B sv l) (hF : Fl w A n 1 (gl l2)) (hA : A = none → sv = .slice none 0 0 ∧ c = 0) (hlen : l.length + l2.length ≤ 2097152) (hB : B ≤ w.heap.size)
    (h : ∀ v' w', OwnS w' B v' (l ++ l2) → w.grownBy w' sv.ownBlock → wpList Try.prog ops Q rest (a.put o.dst v') w') : wpList Try.prog ops Q (o :: rest) a w := by
  refine wpList_plain hgd fun K hK => ?_
  obtain ⟨v', w', hrun, h1, h2⟩ := run_push_list o.type B sv l l2 A n c w hn hown hF hA hlen hB
  unfold Oper.wp execOp
  simp only [ho, resolve, invoke, builtin, Sem.run_bind, Sem.run_pure, Result.andThen_ok, List.map_toArray, List.map_cons, List.map_nil, hs, hx, hrun]
  exact hK _ _ (h v' w' h1 h2)
theorem step_push_list {ops : Array Oper} {o : Oper} {a : Act} {K : Act → World → Prop} {Q : Exit → Act → World → Prop} {E : Prop} {w : World} (hgd : o.guard = none) (s x : Operand)
    (ho : o.op = .call { callee := .builtin .append, args := #[s, x], argTypes := #[23, 23] }) (B : Nat) (sv : Value) (l l2 : List Int) (A : Option Addr) (n c : Nat) (hn : n = l2.length) (hs : a.eval s = sv)
    (hx : a.eval x = .slice A n c) (hown : OwnS w B sv l) (hF : Fl w A n 1 (gl l2)) (hA : A = none → sv = .slice none 0 0 ∧ c = 0) (hlen : l.length + l2.length ≤ 2097152) (hB : B ≤ w.heap.size)
    (h : ∀ v' w', OwnS w' B v' (l ++ l2) → w.grownBy w' sv.ownBlock → K (a.put o.dst v') w') :
    if Region.wanted o (yielded ops a.tmps) = true then Oper.wp Try.prog o a w K Q else E := by
  have hw : Region.wanted o (yielded ops a.tmps) = true := by simp [Region.wanted, hgd]
  rw [if_pos hw]
  obtain ⟨v', w', hrun, h1, h2⟩ := run_push_list o.type B sv l l2 A n c w hn hown hF hA hlen hB
  unfold Oper.wp execOp
  simp only [ho, resolve, invoke, builtin, Sem.run_bind, Sem.run_pure, Result.andThen_ok, List.map_toArray, List.map_cons, List.map_nil, hs, hx, hrun]
  exact h v' w' h1 h2
theorem step_push_list2 {ops : Array Oper} {o : Oper} {a : Act} {K : Act → World → Prop} {Q : Exit → Act → World → Prop} {E : Prop} {w : World} (hgd : o.guard = none) (s x : Operand)
    (ho : o.op = .call { callee := .builtin .append, args := #[s, x], argTypes := #[23, 23] }) (B : Nat) (sv : Value) (l l2 : List Int) (A : Option Addr) (n c : Nat) (hn : n = l2.length) (hs : a.eval s = sv)
    (hx : a.eval x = .slice A n c) (hown : OwnS w B sv l) (hF : Fl w A n 1 (gl l2)) (hA : A = none → sv = .slice none 0 0 ∧ c = 0) (hlen : l.length + l2.length ≤ 2097152) (hB : B ≤ w.heap.size)
    (h : ∀ v' w', OwnS w' B v' (l ++ l2) → w.grownBy w' sv.ownBlock → (∀ b, v'.ownBlock = some b → sv.ownBlock = some b ∨ w.heap.size ≤ b) → K (a.put o.dst v') w') :
    if Region.wanted o (yielded ops a.tmps) = true then Oper.wp Try.prog o a w K Q else E := by
  have hw : Region.wanted o (yielded ops a.tmps) = true := by simp [Region.wanted, hgd]
  rw [if_pos hw]
  obtain ⟨v', w', hrun, h1, h2, h3⟩ := run_push_list2 o.type B sv l l2 A n c w hn hown hF hA hlen hB
  unfold Oper.wp execOp
  simp only [ho, resolve, invoke, builtin, Sem.run_bind, Sem.run_pure, Result.andThen_ok, List.map_toArray, List.map_cons, List.map_nil, hs, hx, hrun]
  exact h v' w' h1 h2 h3
theorem impl_copyInts (A : Option Addr) (n c : Nat) (l : List Int) (w : World) (hn : n = l.length) (hF : Fl w A n 1 (gl l)) (hc0 : A = none → c = 0) (hlen : l.length ≤ 1048576) :
    Calls Try.prog 50 #[.slice A n c] w fun e w' => ∃ s, e = .returned s ∧ OwnS w' w.heap.size s l ∧ Below w.heap.size w w' := by
  go_enter Try.func50, Try.ntmps50
  go_wp2_with (at_builtin; refine push_list rfl (.const (.slice none 0 0)) (.tmp 3) rfl w.heap.size _ [] l A n c hn rfl rfl (OwnS.nil _ _) hF (fun e => ⟨rfl, hc0 e⟩) (by simp; omega) (Nat.le_refl _) ?_; intro s' w1 hown hb0)
  have hb : w.grownBy w1 none := hb0
  go_ret
  exact ⟨s', by simp, hown, ⟨hb.os, hb.tape, hb.output, hb.size, fun k hk => hb.block k hk (by simp)⟩⟩
/-- The rows but row i, without column k. -/
def wo (L : List (List Int)) (i k : Nat) : List (List Int) := (L.eraseIdx i).map fun r => r.eraseIdx k
theorem wo_ne {L : List (List Int)} {i k j : Nat} {r : List Int} (h : L[j]? = some r) (hne : j ≠ i) : wo (L.take (j + 1)) i k = wo (L.take j) i k ++ [r.eraseIdx k] := by
  have hlt := (List.getElem?_eq_some_iff.1 h).1
  have htk : L.take (j + 1) = L.take j ++ [r] := by rw [List.take_add_one, h]; rfl
  unfold wo
  rw [htk]
  have hlen : (L.take j).length = j := by simp; omega
  rcases Nat.lt_or_ge i j with h1 | h1
  · rw [List.eraseIdx_append_of_lt_length (by omega)]; simp
  · rw [List.eraseIdx_append_of_length_le (by omega), List.eraseIdx_of_length_le (l := [r]) (by simp; omega), List.eraseIdx_of_length_le (l := L.take j) (by omega)]; simp
theorem wo_eq {L : List (List Int)} {k j : Nat} {r : List Int} (h : L[j]? = some r) : wo (L.take (j + 1)) j k = wo (L.take j) j k := by
  have hlt := (List.getElem?_eq_some_iff.1 h).1
  have htk : L.take (j + 1) = L.take j ++ [r] := by rw [List.take_add_one, h]; rfl
  unfold wo
  rw [htk]
  have hlen : (L.take j).length = j := by simp; omega
  rw [List.eraseIdx_append_of_length_le (by omega), hlen, Nat.sub_self, List.eraseIdx_of_length_le (l := L.take j) (by omega)]; simp
theorem ei_ne {l : List Int} {j k : Nat} (h : j < l.length) (hne : j ≠ k) : (l.take (j + 1)).eraseIdx k = (l.take j).eraseIdx k ++ [gl l j] := by
  have htk : l.take (j + 1) = l.take j ++ [gl l j] := by rw [List.take_add_one, List.getElem?_eq_getElem h]; simp [gl, List.getElem?_eq_getElem h]
  have hlen : (l.take j).length = j := by simp; omega
  rw [htk]
  rcases Nat.lt_or_ge k j with h1 | h1
  · rw [List.eraseIdx_append_of_lt_length (by omega)]
  · rw [List.eraseIdx_append_of_length_le (by omega), List.eraseIdx_of_length_le (l := [gl l j]) (by simp; omega), List.eraseIdx_of_length_le (l := l.take j) (by omega)]
theorem ei_eq {l : List Int} {j : Nat} (h : j < l.length) : (l.take (j + 1)).eraseIdx j = (l.take j).eraseIdx j := by
  have htk : l.take (j + 1) = l.take j ++ [gl l j] := by rw [List.take_add_one, List.getElem?_eq_getElem h]; simp [gl, List.getElem?_eq_getElem h]
  have hlen : (l.take j).length = j := by simp; omega
  rw [htk, List.eraseIdx_append_of_length_le (by omega), hlen, Nat.sub_self, List.eraseIdx_of_length_le (l := l.take j) (by omega)]; simp
theorem wo_len {L : List (List Int)} {i k : Nat} : (wo L i k).length ≤ L.length := by simp [wo, List.length_eraseIdx]; split <;> omega
theorem run_head (b off N cap k : Nat) (h : k ≤ cap) (w : World) : (Instr.sliceAt 23 (.slice (some ⟨b, off, none⟩) N cap) none (some (.int .i64 k)) none).run Try.prog w = .ok (.slice (some ⟨b, off, none⟩) k cap) w := by
  have hcs : (0 : Int) ≤ (k : Int) := Int.natCast_nonneg _
  have h1 : (k : Int) ≤ (cap : Int) := by omega
  simp [go_sem, Try.underlying23, hcs, h1]
theorem run_drop (b off N cap k : Nat) (h : k < N) (hc : N ≤ cap) : ∃ off1, (off1 = off + k + 1 ∨ N = k + 1 ∧ off1 = off) ∧ ∀ w, (Instr.sliceAt 23 (.slice (some ⟨b, off, none⟩) N cap) (some (.int .i64 ((k : Int) + 1))) none none).run Try.prog w = .ok (.slice (some ⟨b, off1, none⟩) (N - (k + 1)) (cap - (k + 1))) w := by
  have hs : (Try.prog.info? 3).map (·.size) = some 1 := by kernel_rfl
  have hcs : (0 : Int) ≤ (k : Int) + 1 := by omega
  have h2 : (k : Int) + 1 ≤ (N : Int) := by omega
  have h3 : (N : Int) ≤ (cap : Int) := by omega
  by_cases h1 : cap = k + 1
  · subst h1
    refine ⟨off, Or.inr ⟨by omega, rfl⟩, fun w => ?_⟩
    simp [go_sem, Try.underlying23]
    intro h9
    omega
  · refine ⟨off + k + 1, Or.inl rfl, fun w => ?_⟩
    have h4 : ¬ ((cap : Int) - ((k : Int) + 1) = 0) := by omega
    simp [go_sem, Try.underlying23, hs]
    rw [if_pos (by omega), if_neg h1, Nat.add_assoc]
set_option maxRecDepth 100000 in
theorem impl_without (A : Option Addr) (c : Nat) (L : List (List Int)) (i k : Nat) (w : World) (hn : L.length ≤ 1048576) (hr : ∀ r ∈ L, k < r.length ∧ r.length ≤ 1048576) (f0 : Fmc w A L) :
    Calls Try.prog 74 #[.slice A L.length c, .int .i64 i, .int .i64 k] w fun e w' => ∃ s, e = .returned s ∧ OwnM w' w.heap.size s (wo L i k) ∧ Below w.heap.size w w' := by
  obtain ⟨n, hn2⟩ : ∃ n, n = L.length := ⟨_, rfl⟩
  have HN := Lib.hid hn2
  simp only [← hn2] at hn ⊢
  clear hn2
  have HF := Lib.hid f0; clear f0
  have HR := Lib.hid hr; clear hr
  go_enter Try.func74, Try.ntmps74
  go_wp2_with fail
  go_loopw [7, 12] (fun s x wr => ∃ j : Nat, j ≤ n ∧ x = .int .i64 j ∧ OwnM wr w.heap.size s (wo (L.take j) i k) ∧ Below w.heap.size w wr) (fun _ x _ => n - (intOf x).toNat)
  case atStart => exact ⟨0, Nat.zero_le _, rfl, OwnM.nil _ _, Below.refl _ _⟩
  case round =>
    obtain ⟨j, hj, rfl, k0, hB⟩ := hrel
    by_cases hjn : j < n
    · obtain ⟨r, hrk⟩ : ∃ r, L[j]? = some r := ⟨_, List.getElem?_eq_getElem (by have := HN.out; omega)⟩
      obtain ⟨hkr, hrl⟩ := HR.out r (List.mem_of_getElem? hrk)
      obtain ⟨b, off, rfl, hc⟩ := (HF.out.below hB) (by have := HN.out; omega)
      obtain ⟨Ai, ci, c0, f1, hci⟩ := hc j r hrk
      clear hc
      have hi1 : (j : Int) < (n : Int) := by omega
      have hi0 : (0 : Int) ≤ (j : Int) := Int.natCast_nonneg _
      by_cases hji : j = i
      · subst hji
        have hst := wo_eq (k := k) hrk
        rw [← hst] at k0
        have HK0 := Lib.hid k0; clear k0
        clear hst hrk
        go_wp2_with fail
        go_roundw
        case rel => exact ⟨j + 1, by omega, by go_num, HK0.out, hB⟩
        case measure => simp [intOf]; omega
      · have hne : ((j : Int) != (i : Int)) = true := by simp; omega
        have hst := wo_ne (k := k) hrk hji
        have HST := Lib.hid hst; clear hst
        have HK0 := Lib.hid k0; clear k0
        clear hrk
        obtain ⟨br, or, rfl, hcr⟩ := f1 (by omega)
        have hf1 : Fl wr.drew (some ⟨br, or, none⟩) k 1 (gl (r.take k)) := fun _ => ⟨br, or, rfl, fun q hq => by rw [World.cell?_drew, hcr q (by omega)]; simp [gl, show q < k by omega]⟩
        have hk0 : (0 : Int) ≤ (k : Int) := Int.natCast_nonneg _
        have hk1 : (k : Int) ≤ (ci : Int) := by omega
        have hk2 : (0 : Int) ≤ (k : Int) + 1 := by omega
        have hk3 : (k : Int) + 1 ≤ (r.length : Int) := by omega
        have hk4 : IntKind.i64.wrap ((k : Int) + 1) = (k : Int) + 1 := IntWalk.i64_in _ (by omega)
        have hHead := run_head br or r.length ci k (by omega)
        obtain ⟨off1, hoff, hDrop⟩ := run_drop br or r.length ci k hkr hci
        have hf2 : Fl wr.drew (some ⟨br, off1, none⟩) (r.length - (k + 1)) 1 (gl (r.drop (k + 1))) := fun h0 => ⟨br, off1, rfl, fun q hq => by
          rcases hoff with e | ⟨e, _⟩
          · rw [e, World.cell?_drew, Nat.add_assoc, Nat.add_assoc, hcr (k + (1 + q)) (by omega)]
            simp only [gl, List.getD, List.getElem?_drop]
            rw [Nat.add_assoc]
          · omega⟩
        have hBs : w.heap.size ≤ wr.drew.heap.size := hB.size
        have hwl : (wo (L.take j) i k).length ≤ 1048576 := by have := wo_len (L := L.take j) (i := i) (k := k); simp at this; omega
        have hAr : ∀ (w2 : World) (A2 : Option Addr), Below wr.drew.heap.size wr.drew w2 → (∀ b off, A2 = some ⟨b, off, none⟩ → wr.drew.heap.size ≤ b ∧ b < w2.heap.size) → ∀ b off, A2 = some ⟨b, off, none⟩ → Value.ownBlock _ ≠ some b ∧ b < w2.heap.size := fun w2 A2 _ h b off e => ⟨fun e2 => by have h1 := (HK0.out.base e2).2; have h2 := (h b off e).1; exact absurd h2 (by show ¬ wr.heap.size ≤ b; omega), (h b off e).2⟩
        have hcp := fun w f => impl_copyInts (some ⟨br, or, none⟩) k ci (r.take k) w (by simp; omega) f (fun e => by cases e) (by simp; omega)
        go_wp2_with fail
        go_region_held3 (fun _ => True) (trivial)
          (first
            | (go_at_call 50; with_reducible refine (hcp _ hf1).mono ?_; rintro _ w1 ⟨s1, rfl, o1, hb1⟩)
            | (refine step_push_list rfl (.tmp 24) (.tmp 28) rfl wr.drew.heap.size s1 (r.take k) (r.drop (k + 1)) (some ⟨br, off1, none⟩) (r.length - (k + 1)) (ci - (k + 1)) (by simp) rfl rfl o1 (hf2.below hb1) (fun e => by cases e) (by simp; omega) hb1.size ?_; intro s2 w2 o2 hg2; replace hb1 := below_grow hb1 o1 hg2; rw [← List.eraseIdx_eq_take_drop_succ] at o2; have ho2 := o2.outc; clear o1 hg2; obtain ⟨A2, c2, rfl, f2, hA2, hc2, _⟩ := ho2)
            | (refine step_push_row rfl (.tmp 20) (.tmp 30) rfl w.heap.size _ (wo (L.take j) i k) (r.eraseIdx k) A2 c2 _ rfl rfl rfl ((HK0.out.below (w' := wr.drew) (Below.refl _ _).drew).below hb1) hwl (Nat.le_trans hBs hb1.size) f2 hc2 (hAr _ _ hb1 hA2) rfl ?_; intro s3 w3 o3 hg3))
        go_wp2_with fail
        go_roundw
        case rel => exact ⟨j + 1, by omega, by go_num, by rw [HST.out]; exact o3, Below.grown (below_step hB.drew hb1) hg3 (Nat.le_trans hBs hb1.size) (fun q h => (HK0.out.base h).1)⟩
        case measure => simp [intOf]; omega
    · obtain rfl : j = n := by omega
      have htk : L.take j = L := List.take_of_length_le (by have := HN.out; omega)
      rw [htk] at k0
      have HK := Lib.hid k0; clear k0
      go_wp2_with fail
      go_ret
      exact ⟨_, rfl, HK.out, hB⟩
set_option maxRecDepth 100000 in
theorem spec_Without (A : Option Addr) (c : Nat) (L : List (List Int)) (i k : Nat) (w : World) (hn : L.length ≤ 1048576) (hr : ∀ r ∈ L, r.length = L.length) (f0 : Fmc w A L) :
    Calls Try.prog 60 #[.slice A L.length c, .int .i64 i, .int .i64 k] w fun e w' => ∃ s, e = .returned s ∧ OwnM w' w.heap.size s (wo L i k) ∧ Below w.heap.size w w' := by
  obtain ⟨n, hn2⟩ : ∃ n, n = L.length := ⟨_, rfl⟩
  have HN := Lib.hid hn2
  simp only [← hn2] at hn hr ⊢
  clear hn2
  have HF := Lib.hid f0; clear f0
  have HR := Lib.hid hr; clear hr
  go_enter Try.func60, Try.ntmps60
  go_wp2_with fail
  have k0 : OwnM (w.alloc (.cells #[] 23)) w.heap.size _ [] := OwnM.empty (Nat.le_refl _)
  have hB := below_alloc (Below.refl w.heap.size w) (.cells #[] 23)
  have HK := Lib.hid k0; clear k0
  go_loopw [7, 8] (fun s x wr => ∃ j : Nat, j ≤ n ∧ x = .int .i64 j ∧ OwnM wr w.heap.size s (wo (L.take j) i k) ∧ Below w.heap.size w wr) (fun _ x _ => n - (intOf x).toNat)
  case atStart => exact ⟨0, Nat.zero_le _, rfl, HK.out, hB⟩
  case round =>
    clear hB HK
    obtain ⟨j, hj, rfl, k0, hB⟩ := hrel
    by_cases hjn : j < n
    · obtain ⟨r, hrk⟩ : ∃ r, L[j]? = some r := ⟨_, List.getElem?_eq_getElem (by have := HN.out; omega)⟩
      have hrl := HR.out r (List.mem_of_getElem? hrk)
      obtain ⟨W, hW⟩ : ∃ W, W = wr.alloc (.cells #[] 3) := ⟨_, rfl⟩
      have hi1 : (j : Int) < (n : Int) := by omega
      have hi0 : (0 : Int) ≤ (j : Int) := Int.natCast_nonneg _
      have p0 : OwnS W wr.heap.size (.slice (some ⟨wr.heap.size, 0, none⟩) 0 0) [] := by rw [hW]; exact OwnS.empty (Nat.le_refl _)
      have hb0 : Below wr.heap.size wr W := by rw [hW]; exact below_alloc (Below.refl wr.heap.size wr) _
      have hW0 := hb0.size
      have HK0 := Lib.hid k0; clear k0
      have HP := Lib.hid p0; clear p0
      have HBW := Lib.hid hb0; clear hb0
      have HB := Lib.hid hB; clear hB
      by_cases hji : j = i
      · subst hji
        have hst := wo_eq (k := k) hrk
        rw [← hst] at HK0
        have hne : ((j : Int) != (j : Int)) = false := by simp
        have hn0 : (0 : Int) < (n : Int) := by omega
        clear hst hrk
        go_wp2_with fail
        rw [← hW]
        have hsz : w.heap.size ≤ wr.heap.size := HB.out.size
        clear hW
        go_loopw [10] (fun x w' => x = .int .i64 0 ∧ w' = W) (fun _ _ => 0)
        case atStart => exact ⟨rfl, rfl⟩
        case round =>
          obtain ⟨rfl, rfl⟩ := hrel
          go_wp2_with fail
          go_roundw
          case rel => exact ⟨j + 1, by omega, by go_num, HK0.out.below HBW.out, below_step HB.out HBW.out⟩
          case measure => simp [intOf]; omega
      · have hne : ((j : Int) != (i : Int)) = true := by simp; omega
        have hst := wo_ne (k := k) hrk hji
        have HST := Lib.hid hst; clear hst
        have HRK := Lib.hid hrk; clear hrk
        have HRL := Lib.hid hrl
        go_wp2_with fail
        rw [← hW]
        clear hW
        go_loopw [9, 10] (fun s x w' => ∃ q : Nat, q ≤ n ∧ x = .int .i64 q ∧ OwnS w' wr.heap.size s ((r.take q).eraseIdx k) ∧ Below wr.heap.size wr w') (fun _ x _ => n - (intOf x).toNat)
        case atStart => exact ⟨0, Nat.zero_le _, rfl, HP.out, HBW.out⟩
        case round =>
          clear HP HBW
          obtain ⟨q, hq, rfl, p0, hB2⟩ := hrel
          rename World => w2
          by_cases hqn : q < n
          · obtain ⟨b, off, rfl, hc⟩ := (HF.out.below (below_step HB.out hB2)) (by have := HN.out; omega)
            obtain ⟨Ai, ci, c0, f1, hci⟩ := hc j r HRK.out
            obtain ⟨br, or, rfl, hcr⟩ := f1 (by omega)
            have c1 := hcr q (by omega)
            clear hc hcr hci
            have hq1 : (q : Int) < (n : Int) := by omega
            have hq0 : (0 : Int) ≤ (q : Int) := Int.natCast_nonneg _
            rw [hrl] at c0
            by_cases hqk : q = k
            · subst hqk
              have hkk : ((q : Int) != (q : Int)) = false := by simp
              rw [← ei_eq (l := r) (j := q) (by omega)] at p0
              have HP := Lib.hid p0; clear p0
              clear hrl
              go_wp2_with fail
              go_roundw
              case rel => exact ⟨q + 1, by omega, by go_num, HP.out, hB2⟩
              case measure => simp [intOf]; omega
            · have hkk : ((q : Int) != (k : Int)) = true := by simp; omega
              have hst := ei_ne (l := r) (j := q) (by omega) hqk
              have HST2 := Lib.hid hst; clear hst
              have htl : ((r.take q).eraseIdx k).length ≤ 1048576 := by simp only [List.length_eraseIdx, List.length_take]; split <;> omega
              have hB0 := hB2.size
              have hlt := fun q h => (p0.base (g := q) h).1
              have HLT := Lib.hid hlt; clear hlt
              clear hrl
              go_wp2_with (at_builtin; refine push_one rfl (.tmp 33) (.tmp 41) rfl wr.heap.size _ _ (gl r q) rfl rfl p0 htl hB0 ?_; intro s' w4 hown hgrow; have HG := Lib.hid hgrow; clear hgrow; have HW := Lib.hid hown; clear hown)
              go_roundw
              case rel => exact ⟨q + 1, by omega, by go_num, by rw [HST2.out]; exact HW.out, hB2.grown HG.out hB0 HLT.out⟩
              case measure => simp [intOf]; omega
          · obtain rfl : q = n := by omega
            have htk : r.take q = r := List.take_of_length_le (by omega)
            rw [htk] at p0
            obtain ⟨A2, c2, rfl, f2, hA2, hc2, _⟩ := p0.outc
            have m0 := HK0.out.below hB2
            have hwl : (wo (L.take j) i k).length ≤ 1048576 := by have := wo_len (L := L.take j) (i := i) (k := k); simp at this; omega
            have hsz := (below_step HB.out hB2).size
            have hAr : ∀ b off, A2 = some ⟨b, off, none⟩ → Value.ownBlock _ ≠ some b ∧ b < w2.heap.size := fun b off e => ⟨fun e2 => by have h1 := (HK0.out.base e2).2; have h2 := (hA2 b off e).1; omega, (hA2 b off e).2⟩
            have HAR := Lib.hid hAr; clear hAr
            have HM0 := Lib.hid m0; clear m0
            have HF2 := Lib.hid f2; clear f2
            clear p0 hA2 hrl htk
            go_wp2_with (at_builtin; refine push_row rfl (.tmp 46) (.tmp 48) rfl w.heap.size _ (wo (L.take j) i k) (r.eraseIdx k) A2 c2 _ rfl rfl rfl HM0.out hwl hsz HF2.out hc2 HAR.out ?_; intro s' w4 hown hgrow; have HG := Lib.hid hgrow; clear hgrow; have HW := Lib.hid hown; clear hown)
            go_roundw
            case rel => exact ⟨j + 1, by omega, by go_num, by rw [HST.out]; exact HW.out, (below_step HB.out hB2).grown HG.out hsz (fun q h => (HK0.out.base h).1)⟩
            case measure => simp [intOf]; omega
    · obtain rfl : j = n := by omega
      have htk : L.take j = L := List.take_of_length_le (by have := HN.out; omega)
      rw [htk] at k0
      have HK := Lib.hid k0; clear k0
      go_wp2_with fail
      go_ret
      exact ⟨_, rfl, HK.out, hB⟩
end Go.Proofs.Ytmnmnkenboejpaa
