/- Own slices of slices of ints: append of one; how they read; slices of slices of ints that came in. -/
import Derived.Test.YtehgeiaglddabaaSm4
import Derived.Test.YtehgeiaglddabaaAppA
import Derived.Test.YtehgeiaglddabaaArg
set_option linter.unusedVariables false
namespace Go.Proofs.Ytehgeiaglddabaa
open Go.RowKit Zp

theorem info_ints : (Try.prog.info? 22).map (fun i => (i.zero, i.size, i.bytes)) = some (some (.slice none 0 0), 1, 24) := by kernel_rfl

/-- the call's own slice of slices of ints -/
abbrev OwnR (w : World) (base : Nat) (v : Value) (us : List Value) : Prop := w.ownsRow base 22 1 v us.length us
/-- each is a slice of ints of the call's own -/
def RowsOwn (w : World) (base : Nat) (us : List Value) (ls : List (List Int)) : Prop := us.length = ls.length ∧ ∀ k (h : k < us.length) (h' : k < ls.length), Own w base us[k] ls[k]

theorem own_ne {w : World} {base base' : Nat} {v u : Value} {xs : List Int} {us : List Value} (h : Own w base v xs) (k : OwnR w base' u us) : v.ownBlock = none ∨ v.ownBlock ≠ u.ownBlock := by
  rcases h.2 with ⟨rfl, _⟩ | ⟨g, cap, cur, rfl, _, hg, _⟩
  · exact .inl rfl
  · refine .inr ?_
    rcases k.2 with ⟨rfl, _⟩ | ⟨g', cap', cur', rfl, _, hg', _⟩
    · intro e; cases e
    · intro e
      injection e with e
      subst e
      rw [hg] at hg'
      injection hg' with hg'
      injection hg' with _ ht
      exact absurd ht (by decide)

/-- what an append of an own row leaves -/
structure GrewR (w w' : World) (base : Nat) (v v' : Value) (us : List Value) : Prop where
  own : OwnR w' base v' us
  grown : w.grownBy w' v.ownBlock

theorem GrewR.below {w0 w w' : World} {base : Nat} {v v' : Value} {us vs : List Value} (h : GrewR w w' base v v' us) {B : Nat} (hb : Below B w0 w) (ho : OwnR w base v vs) (hB : B ≤ base) (hs : B ≤ w.heap.size) : Below B w0 w' :=
  hb.grown h.grown hs (fun k hk => Nat.le_trans hB (World.ownsRow.lt ho k hk).1)
theorem GrewR.rows {w w' : World} {base base2 : Nat} {v v' : Value} {us vs ws : List Value} {ls : List (List Int)} (h : GrewR w w' base v v' us) (ho : OwnR w base v vs) (hr : RowsOwn w base2 ws ls) : RowsOwn w' base2 ws ls :=
  ⟨hr.1, fun k h1 h2 => (hr.2 k h1 h2).grown h.grown (own_ne (hr.2 k h1 h2) ho)⟩

theorem run_appR (w : World) (base : Nat) (v : Value) (us : List Value) (A : Option Addr) (n c : Nat) (hown : OwnR w base v us) (hlen : us.length < 5864062014805) (hbase : base ≤ w.heap.size) (ty : TypeId) :
    ∃ v' w', (Builtin.append_ #[44, 44] ty #[v, .slice (some ⟨w.heap.size, 0, none⟩) 1 1]).run Try.prog (w.alloc (.cells #[.slice A n c] 22)) = .ok v' w' ∧ GrewR w w' base v v' (us ++ [.slice A n c]) := by
  obtain ⟨i0, hi, hz0, hz1, hz2⟩ := info_parts info_ints
  obtain ⟨v', w', hrun, h2, h3, _, h5⟩ := run_append_own_at (P := Try.prog) (w.alloc (.cells #[.slice A n c] 22)) base 44 ty 22 i0 _ 1 24 Try.underlying44 hi hz0 hz1 hz2 rfl (by omega)
    v us.length us (hown.alloc _) ⟨w.heap.size, 0, none⟩ 1 1 [.slice A n c] rfl (by
      intro j u hj
      match j, hj with
      | 0, hj => simp at hj; subst hj; simp [Addr.add]) (by simp [Value.oneCell']) (by simp only [maxLen]; omega) (by omega) (by simp; omega)
  refine ⟨v', w', hrun, ?_, grownBy_trans (World.grownBy_alloc w _ _) h3⟩
  have e : (us ++ [Value.slice A n c]).length = us.length + 1 := by simp
  rw [OwnR, e]
  exact h2

/-- append of one row -/
theorem wpList_appR {ops : Array Oper} {rest : List Oper} {o : Oper} {a : Act} {Q : Exit → Act → World → Prop} (w : World) (A : Option Addr) (n c : Nat) (hgd : o.guard = none) (s x : Operand)
    (ho : o.op = .call { callee := .builtin .append, args := #[s, x], argTypes := #[44, 44] })
    (base : Nat) (v : Value) (us : List Value) (hs : a.eval s = v) (hx : a.eval x = .slice (some ⟨w.heap.size, 0, none⟩) 1 1) (hown : OwnR w base v us) (hlen : us.length < 5864062014805) (hbase : base ≤ w.heap.size)
    (h : ∀ v' w', GrewR w w' base v v' (us ++ [.slice A n c]) → wpList Try.prog ops Q rest (a.put o.dst v') w') : wpList Try.prog ops Q (o :: rest) a (w.alloc (.cells #[.slice A n c] 22)) :=
  wpList_plain hgd fun _ hK => by
    obtain ⟨v', w', hrun, hg⟩ := run_appR w base v us A n c hown hlen hbase o.type
    unfold Oper.wp execOp
    simp only [ho, resolve, invoke, builtin, Sem.run_bind, Sem.run_pure, Result.andThen_ok, List.map_toArray, List.map_cons, List.map_nil, hs, hx, hrun]
    exact hK _ _ (h v' w' hg)

theorem RowsOwn.nil (w : World) (base : Nat) : RowsOwn w base [] [] := ⟨rfl, fun k h => absurd h (by simp)⟩
theorem RowsOwn.snoc {w : World} {base : Nat} {us : List Value} {ls : List (List Int)} {u : Value} {l : List Int} (h : RowsOwn w base us ls) (hu : Own w base u l) : RowsOwn w base (us ++ [u]) (ls ++ [l]) := by
  have hl := h.1
  refine ⟨by simp [hl], fun k h1 h2 => ?_⟩
  by_cases hk : k < us.length
  · rw [List.getElem_append_left hk, List.getElem_append_left (by omega)]
    exact h.2 k hk (by omega)
  · have e : k = us.length := by simp at h1; omega
    subst e
    rw [List.getElem_append_right (Nat.le_refl _), List.getElem_append_right (by omega)]
    simpa [hl] using hu
theorem RowsOwn.below {w w' : World} {base : Nat} {us : List Value} {ls : List (List Int)} (h : RowsOwn w base us ls) (hb : Below w.heap.size w w') : RowsOwn w' base us ls := ⟨h.1, fun k h1 h2 => (h.2 k h1 h2).below hb⟩
theorem RowsOwn.more {w : World} {base base' : Nat} {us : List Value} {ls : List (List Int)} (h : RowsOwn w base us ls) (hb : base' ≤ base) : RowsOwn w base' us ls := ⟨h.1, fun k h1 h2 => (h.2 k h1 h2).more hb⟩

/-- own rows read as tables -/
theorem tb_own {w : World} {base base2 : Nat} {A : Option Addr} {n c : Nat} {us : List Value} {ls : List (List Int)} (h : OwnR w base (.slice A n c) us) (hr : RowsOwn w base2 us ls) (hi : ∀ l ∈ ls, ∀ x ∈ l, I64 x) : TB w A ls := fun k hk => by
  have hku : k < us.length := by rw [hr.1]; exact hk
  have hn : us.length = n := by
    rcases h.2 with ⟨e, h0⟩ | ⟨g, cap, cur, e, _⟩
    · injection e with _ e2 _; omega
    · injection e with _ e2 _; exact e2.symm
  subst hn
  have hrd := Reads.of_own h
  obtain ⟨ad, u, e1, e2, e3, e4⟩ := Reads.at_ (k := k) hrd (by omega)
  have e5 : u = us[k] := by
    rw [List.getElem?_eq_getElem hku] at e3
    injection e3 with e3
    exact e3.symm
  obtain ⟨A1, n1, c1, e6, e7, e8, e9, e10⟩ := (hr.2 k hku hk).shapeN
  have hm : maxLen < 9223372036854775808 := by simp [maxLen]
  exact ⟨ad, A1, n1, c1, e1, by rw [block_of_add]; exact e2, by rw [e4, e5, e6], e7, by omega, e10, hi _ (List.getElem_mem hk)⟩
theorem ownR_shape {w : World} {base : Nat} {v : Value} {us : List Value} (h : OwnR w base v us) : ∃ A n c, v = .slice A n c ∧ us.length = n ∧ n ≤ c := by
  rcases h.2 with ⟨rfl, h0⟩ | ⟨g, cap, cur, rfl, _, _, h1, _⟩
  · exact ⟨none, 0, 0, rfl, h0, Nat.le_refl _⟩
  · exact ⟨_, _, _, rfl, rfl, h1⟩

/-- '.slice A n c' came in and reads as rows -/
structure ArgM (w : World) (A : Option Addr) (n c : Nat) (ts : List (List Int)) : Prop where
  len : ts.length = n
  cap : n ≤ c
  max : c ≤ 9223372036854775807
  tb : TB w A ts
theorem ArgM.nil (w : World) : ArgM w none 0 0 [] := ⟨rfl, Nat.le_refl _, by omega, fun k hk => absurd hk (by simp)⟩
theorem ArgM.mk_ {w : World} {a : Addr} {len cap : Nat} {A : Nat → Option Addr} {L C : Nat → Nat} {Z : Nat → List Int} (hl : len ≤ cap) (hm : cap ≤ maxLen)
    (h : ∀ r, r < cap → w.cell? (a.add r) = some (.slice (A r) (L r) (C r)) ∧ L r ≤ C r ∧ C r ≤ maxLen ∧ (Z r).length = C r ∧ (∀ n ∈ Z r, (Lit.int .i64 n).wf = true) ∧ (A r = none → C r = 0) ∧
        ∀ a', A r = some a' → 0 ≤ a'.block ∧ ∀ c, c < C r → w.cell? (a'.add c) = some (.int .i64 ((Z r).getD c 0))) :
    ArgM w (some a) len cap ((List.range len).map fun r => (Z r).take (L r)) := by
  have hmm : maxLen ≤ 9223372036854775807 := by simp [maxLen]
  refine ⟨by simp, hl, by omega, fun k hk => ?_⟩
  have hk' : k < len := by simpa using hk
  obtain ⟨h1, h2, h3, h4, h5, h6, h7⟩ := h k (by omega)
  have e : ((List.range len).map fun r => (Z r).take (L r))[k] = (Z k).take (L k) := by simp
  rw [e]
  have hlen : ((Z k).take (L k)).length = L k := by rw [List.length_take, h4]; omega
  refine ⟨a, A k, L k, C k, rfl, block_lt_of_cell h1, h1, hlen, by omega, ⟨by simp, fun hn => ?_⟩, fun x hx => i64_of_wf (h5 x (List.mem_of_mem_take hx))⟩
  rw [hlen] at hn
  cases hA : A k with
  | none => have := h6 hA; omega
  | some a' =>
    obtain ⟨_, h8⟩ := h7 a' hA
    have hc0 := h8 0 (by omega)
    refine ⟨a', rfl, ?_, fun j u hu => ?_⟩
    · have := block_lt_of_cell hc0
      rwa [block_of_add] at this
    · rw [List.getElem?_map] at hu
      cases hj : ((Z k).take (L k))[j]? with
      | none => rw [hj] at hu; cases hu
      | some x =>
        rw [hj] at hu
        injection hu with hu
        rw [List.getElem?_take] at hj
        split at hj
        · have hjl : j < (Z k).length := (List.getElem?_eq_some_iff.1 hj).1
          rw [h8 j (by omega), ← hu]
          simp [List.getD_eq_getElem?_getD, hj]
        · cases hj
end Go.Proofs.Ytehgeiaglddabaa
