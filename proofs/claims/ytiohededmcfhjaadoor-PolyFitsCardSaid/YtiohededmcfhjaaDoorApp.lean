/- append of one int to a slice of ints that the call itself made; make of ints. -/
import Derived.Test.YtiohededmcfhjaaDoorChecked
import Derived.Test.YtiohededmcfhjaaDoorMem
import Derived.Maps.AppendAt
import Derived.RegionTactic
import Derived.OwnWalk
set_option linter.unusedVariables false
namespace Go.Proofs.YtiohededmcfhjaaDoor
open Go.RowKit

theorem info_int : (Tryd.prog.info? 3).map (fun i => (i.zero, i.size, i.bytes)) = some (some (.int .i64 0), 1, 8) := by kernel_rfl

theorem grownBy_trans {a b c : World} {row : Option Nat} (h : a.grownBy b row) (k : b.grownBy c row) : a.grownBy c row :=
  ⟨k.os.trans h.os, k.tape.trans h.tape, k.output.trans h.output, Nat.le_trans h.size k.size, fun i hi hn => (k.block i (Nat.lt_of_lt_of_le hi h.size) hn).trans (h.block i hi hn)⟩

/-- the call's own slice of ints -/
abbrev Own (w : World) (base : Nat) (v : Value) (xs : List Int) : Prop := w.ownsRow base 3 1 v xs.length (xs.map vi)

/-- what an append of own ints leaves -/
structure Grew (w w' : World) (base : Nat) (v v' : Value) (xs : List Int) : Prop where
  own : Own w' base v' xs
  grown : w.grownBy w' v.ownBlock
  at_ : v'.ownBlock = v.ownBlock ∨ ∃ k, v'.ownBlock = some k ∧ w.heap.size ≤ k

theorem Grew.below {w0 w w' : World} {base : Nat} {v v' : Value} {xs ys : List Int} (h : Grew w w' base v v' xs) {B : Nat} (hb : Below B w0 w) (ho : Own w base v ys) (hB : B ≤ base) (hs : B ≤ w.heap.size) : Below B w0 w' :=
  hb.grown h.grown hs (fun k hk => Nat.le_trans hB (ho.lt k hk).1)

theorem run_app1 (w : World) (base : Nat) (v : Value) (xs : List Int) (n : Int) (hown : Own w base v xs) (hlen : xs.length < 17592186044416) (hbase : base ≤ w.heap.size) (ty : TypeId) :
    ∃ v' w', (Builtin.append_ #[22, 22] ty #[v, .slice (some ⟨w.heap.size, 0, none⟩) 1 1]).run Tryd.prog (w.alloc (.cells #[vi n] 3)) = .ok v' w' ∧ Grew w w' base v v' (xs ++ [n]) := by
  obtain ⟨i0, hi, hz0, hz1, hz2⟩ := info_parts info_int
  obtain ⟨v', w', hrun, h2, h3, _, h5⟩ := run_append_own_at (P := Tryd.prog) (w.alloc (.cells #[vi n] 3)) base 22 ty 3 i0 _ 1 8 Tryd.underlying22 hi hz0 hz1 hz2 rfl (by omega)
    v xs.length (xs.map vi) (hown.alloc _) ⟨w.heap.size, 0, none⟩ 1 1 [vi n] rfl (by
      intro j u hj
      match j, hj with
      | 0, hj => simp at hj; subst hj; simp [Addr.add]) (by simp [Value.oneCell']) (by simp only [maxLen]; omega) (by omega) (by simp; omega)
  refine ⟨v', w', hrun, ?_, grownBy_trans (World.grownBy_alloc w _ _) h3, ?_⟩
  · have e : (xs ++ [n]).length = xs.length + 1 := by simp
    rw [Own, e, List.map_append]
    exact h2
  · rcases h5 with h | h
    · exact .inl h
    · exact .inr ⟨_, h, by simp⟩

/-- append of one int -/
theorem wpList_app1 {ops : Array Oper} {rest : List Oper} {o : Oper} {a : Act} {Q : Exit → Act → World → Prop} (w : World) (n : Int) (hgd : o.guard = none) (s x : Operand)
    (ho : o.op = .call { callee := .builtin .append, args := #[s, x], argTypes := #[22, 22] })
    (base : Nat) (v : Value) (xs : List Int) (hs : a.eval s = v) (hx : a.eval x = .slice (some ⟨w.heap.size, 0, none⟩) 1 1) (hown : Own w base v xs) (hlen : xs.length < 17592186044416) (hbase : base ≤ w.heap.size)
    (h : ∀ v' w', Grew w w' base v v' (xs ++ [n]) → wpList Tryd.prog ops Q rest (a.put o.dst v') w') : wpList Tryd.prog ops Q (o :: rest) a (w.alloc (.cells #[vi n] 3)) :=
  wpList_plain hgd fun _ hK => by
    obtain ⟨v', w', hrun, hg⟩ := run_app1 w base v xs n hown hlen hbase o.type
    unfold Oper.wp execOp
    simp only [ho, resolve, invoke, builtin, Sem.run_bind, Sem.run_pure, Result.andThen_ok, List.map_toArray, List.map_cons, List.map_nil, hs, hx, hrun]
    exact hK _ _ (h v' w' hg)

/-- the shape of an own slice -/
theorem Own.shape {w : World} {base : Nat} {v : Value} {xs : List Int} (h : Own w base v xs) : ∃ A c, v = .slice A xs.length c ∧ xs.length ≤ c ∧ c ≤ maxLen ∧ (∀ ad, A = some ad → ∃ g, ad = ⟨g, 0, none⟩ ∧ base ≤ g ∧ g < w.heap.size) ∧ SL w A xs := by
  have h' := h
  rcases h.2 with ⟨rfl, h0⟩ | ⟨g, cap, cur, rfl, hb, hg, hnc, hcm, hcs, ht⟩
  · have : xs = [] := List.eq_nil_of_length_eq_zero h0
    subst this
    exact ⟨none, 0, rfl, Nat.le_refl _, Nat.zero_le _, by simp, SL.nil⟩
  · refine ⟨_, cap, rfl, hnc, hcm, ?_, Reads.of_own h'⟩
    intro ad e
    injection e with e
    subst e
    exact ⟨g, rfl, hb, (h'.lt g rfl).2⟩
end Go.Proofs.YtiohededmcfhjaaDoor
