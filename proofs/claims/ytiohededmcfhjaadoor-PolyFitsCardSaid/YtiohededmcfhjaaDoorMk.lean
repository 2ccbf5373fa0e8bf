/- make of ints; append within the capacity; stores into a slice of the call's own; results that are slices. -/
import Derived.Test.YtiohededmcfhjaaDoorApp
import Derived.Laws.MakeOwn
set_option linter.unusedVariables false
namespace Go.Proofs.YtiohededmcfhjaaDoor
open Go.RowKit

/-- n zeros, behind a name -/
def zeros (n : Nat) : Array Value := madeCells #[vi 0] n
theorem zeros_size (n : Nat) : (zeros n).size = n := size_madeCells _ _
theorem zeros_toList (n : Nat) : (zeros n).toList = (List.replicate n (0 : Int)).map vi := by
  rw [zeros, toList_madeCells_one, List.map_replicate]

/-- make([]int, n, c) at a size that is reckoned -/
theorem make_ints (n c : Nat) (hnc : n ≤ c) (hc : c * 8 ≤ 281474976710656) (w : World) :
    (Instr.makeSlice 22 (vi n) (vi c)).run Tryd.prog w = .ok (.slice (some ⟨w.heap.size, 0, none⟩) n c) (w.alloc (.cells (zeros c) 3)) := by
  obtain ⟨i0, hi, hz0, hz1, hz2⟩ := info_parts info_int
  have h := run_make (P := Tryd.prog) w 22 3 i0 (.int .i64 0) Tryd.underlying22 hi hz0 .i64 .i64 n c (by omega) (by omega) (by rw [hz2]; omega) (by omega)
  rw [hz1, Int.toNat_natCast, Int.toNat_natCast, Nat.mul_one] at h
  exact h

/-- make([]int, 0, c) -/
theorem make_ints0 (c : Nat) (hc : c * 8 ≤ 281474976710656) (w : World) :
    (Instr.makeSlice 22 (.int .i64 0) (vi c)).run Tryd.prog w = .ok (.slice (some ⟨w.heap.size, 0, none⟩) 0 c) (w.alloc (.cells (zeros c) 3)) := make_ints 0 c (Nat.zero_le _) hc w

theorem maxLen_of8 {c : Nat} (hc : c * 8 ≤ 281474976710656) : c ≤ maxLen := by simp only [maxLen]; omega

/-- a made slice of length 0 -/
theorem own_made0 (w : World) (base c : Nat) (hb : base ≤ w.heap.size) (hc : c * 8 ≤ 281474976710656) : Own (w.alloc (.cells (zeros c) 3)) base (.slice (some ⟨w.heap.size, 0, none⟩) 0 c) [] :=
  World.ownsRow_made w _ c hb (maxLen_of8 hc) (by rw [zeros_size, Nat.mul_one])
/-- a made slice of n zeros -/
theorem own_made (w : World) (base n : Nat) (hb : base ≤ w.heap.size) (hc : n * 8 ≤ 281474976710656) : Own (w.alloc (.cells (zeros n) 3)) base (.slice (some ⟨w.heap.size, 0, none⟩) n n) (List.replicate n 0) := by
  have h := World.ownsRow_lit (e := 3) (size := 1) w (zeros n) n hb (maxLen_of8 hc) (by rw [zeros_size, Nat.mul_one])
  rw [zeros_toList] at h
  rw [Own, List.length_replicate]
  exact h
/-- a list written out: '[]int{..}' -/
theorem own_lit (w : World) (base : Nat) (xs : List Int) (hb : base ≤ w.heap.size) (hm : xs.length ≤ maxLen) : Own (w.alloc (.cells (xs.map vi).toArray 3)) base (.slice (some ⟨w.heap.size, 0, none⟩) xs.length xs.length) xs := by
  have h := World.ownsRow_lit (e := 3) (size := 1) w (xs.map vi).toArray xs.length hb hm (by simp)
  exact h

section
variable {w w' : World} {base base' : Nat} {v : Value} {xs : List Int}
theorem Own.more (h : Own w base v xs) (hb : base' ≤ base) : Own w base' v xs := by
  refine ⟨h.1, ?_⟩
  rcases h.2 with h0 | ⟨g, cap, cur, hv, hg, rest⟩
  · exact .inl h0
  · exact .inr ⟨g, cap, cur, hv, Nat.le_trans hb hg, rest⟩
theorem Own.keep (h : Own w base v xs) (hk : ∀ g, v.ownBlock = some g → w'.heap[g]? = w.heap[g]?) : Own w' base v xs := by
  refine ⟨h.1, ?_⟩
  rcases h.2 with h0 | ⟨g, cap, cur, hv, hg, hh, rest⟩
  · exact .inl h0
  · exact .inr ⟨g, cap, cur, hv, hg, by rw [hk g (by rw [hv]; rfl)]; exact hh, rest⟩
/-- nothing that was there when the slice was has turned -/
theorem Own.below (h : Own w base v xs) (hb : Below w.heap.size w w') : Own w' base v xs := h.keep fun g hg => hb.block g (h.lt g hg).2
theorem Own.drewN (h : Own w base v xs) (k : Nat) : Own (w.drewN k) base v xs := h
theorem Own.alloc' (h : Own w base v xs) (o : Obj) : Own (w.alloc o) base v xs := World.ownsRow.alloc h o
/-- a store into another block -/
theorem Own.far (h : Own w base v xs) {q : Addr} (hq : v.ownBlock ≠ some q.block) (u : Value) : Own (w.setCell q u) base v xs :=
  h.keep fun g hg => Below.heap_setCell w q u g (fun e => hq (by rw [hg, e]))
theorem Own.grown (h : Own w base v xs) {row : Option Nat} (hg : w.grownBy w' row) (hne : v.ownBlock = none ∨ v.ownBlock ≠ row) : Own w' base v xs := World.ownsRow.kept h hg hne
theorem Own.len (h : Own w base v xs) : ∃ A c, v = .slice A xs.length c ∧ SL w A xs := by
  obtain ⟨A, c, h1, _, _, _, h2⟩ := h.shape
  exact ⟨A, c, h1, h2⟩
end

/-- the shape of one's own slice, its length a letter -/
theorem Own.shapeN {w : World} {base : Nat} {v : Value} {xs : List Int} (h : Own w base v xs) : ∃ A n c, v = .slice A n c ∧ xs.length = n ∧ n ≤ c ∧ c ≤ maxLen ∧ SL w A xs := by
  obtain ⟨A, c, h1, h2, h3, _, h4⟩ := h.shape
  exact ⟨A, _, c, h1, rfl, h2, h3, h4⟩

theorem set_map_vi (xs : List Int) (j : Nat) (n : Int) : (xs.map vi).set j (vi n) = (xs.set j n).map vi := by rw [List.map_set]
/-- a store into one's own slice, whose block is known -/
theorem Own.store {w : World} {base g n cap : Nat} {xs : List Int} (h : Own w base (.slice (some ⟨g, 0, none⟩) n cap) xs) (hn : n = xs.length) (j : Nat) (m : Int) :
    Own (w.setCell ⟨g, j, none⟩ (vi m)) base (.slice (some ⟨g, 0, none⟩) n cap) (xs.set j m) := by
  subst hn
  have h2 := (World.ownsRow.stored h j (vi m)).1
  rw [Own, List.length_set, ← set_map_vi]
  exact h2
theorem Own.at_ {w : World} {base g n cap : Nat} {xs : List Int} (h : Own w base (.slice (some ⟨g, 0, none⟩) n cap) xs) (hn : n = xs.length) (j : Nat) (hj : j < xs.length) : w.cell? ⟨g, j, none⟩ = some (vi xs[j]) := by
  subst hn
  rw [World.ownsRow.cellAt h j (by omega), List.getElem?_map, List.getElem?_eq_getElem hj]; rfl
theorem Own.frozen_ {w : World} {base g n cap : Nat} {xs : List Int} (h : Own w base (.slice (some ⟨g, 0, none⟩) n cap) xs) (hn : n = xs.length) (j : Nat) : w.frozen? ⟨g, j, none⟩ = false := by
  subst hn
  exact World.ownsRow.frozenAt h j
/-- the block of one's own slice that is not empty -/
theorem Own.block {w : World} {base : Nat} {v : Value} {xs : List Int} (h : Own w base v xs) (hn : 0 < xs.length) : ∃ g cap, v = .slice (some ⟨g, 0, none⟩) xs.length cap ∧ base ≤ g ∧ g < w.heap.size := by
  obtain ⟨A, c, rfl, _, _, hA, hs⟩ := h.shape
  obtain ⟨ad, rfl, _, _⟩ := hs.at_ hn
  obtain ⟨g, rfl, h1, h2⟩ := hA ad rfl
  exact ⟨g, c, rfl, h1, h2⟩

/-- append of one int within the capacity -/
theorem wpList_app1_fits {ops : Array Oper} {rest : List Oper} {o : Oper} {a : Act} {Q : Exit → Act → World → Prop} (w : World) (n : Int) (hgd : o.guard = none) (s x : Operand)
    (ho : o.op = .call { callee := .builtin .append, args := #[s, x], argTypes := #[22, 22] })
    (base g k cap : Nat) (xs : List Int) (hs : a.eval s = .slice (some ⟨g, 0, none⟩) k cap) (hx : a.eval x = .slice (some ⟨w.heap.size, 0, none⟩) 1 1) (hown : Own w base (.slice (some ⟨g, 0, none⟩) k cap) xs) (hk : k = xs.length) (hroom : k < cap)
    (h : ∀ w', Own w' base (.slice (some ⟨g, 0, none⟩) (k + 1) cap) (xs ++ [n]) → w.grownBy w' (some g) → wpList Tryd.prog ops Q rest (a.put o.dst (.slice (some ⟨g, 0, none⟩) (k + 1) cap)) w') :
    wpList Tryd.prog ops Q (o :: rest) a (w.alloc (.cells #[vi n] 3)) :=
  wpList_plain hgd fun _ hK => by
    subst hk
    obtain ⟨i0, hi, hz0, hz1, hz2⟩ := info_parts info_int
    obtain ⟨w', hrun, h2, h3⟩ := run_append_fits (P := Tryd.prog) (w.alloc (.cells #[vi n] 3)) base 22 o.type 3 i0 1 Tryd.underlying22 hi hz1 g xs.length cap (xs.map vi) (hown.alloc _)
      ⟨w.heap.size, 0, none⟩ 1 1 [vi n] rfl (cell_one_new _ _ _) (by simp [Value.oneCell']) (by omega)
    unfold Oper.wp execOp
    simp only [ho, resolve, invoke, builtin, Sem.run_bind, Sem.run_pure, Result.andThen_ok, List.map_toArray, List.map_cons, List.map_nil, hs, hx, hrun]
    refine hK _ _ (h w' ?_ (grownBy_trans (World.grownBy_alloc w _ _) h3))
    have e : (xs ++ [n]).length = xs.length + 1 := by simp
    rw [Own, e, List.map_append]
    exact h2

/-- the call hands back a slice of ints of its own -/
def Made (xs : List Int) (w : World) (e : Ending) (w' : World) : Prop := ∃ v, e = .returned v ∧ Own w' w.heap.size v xs ∧ Below w.heap.size w w'
/-- .. a slice of ints, of its own or not, that is read alone -/
def Gives (xs : List Int) (w : World) (e : Ending) (w' : World) : Prop := ∃ A c, e = .returned (.slice A xs.length c) ∧ xs.length ≤ c ∧ c ≤ maxLen ∧ SL w' A xs ∧ Below w.heap.size w w'
theorem Made.gives {xs : List Int} {w w' : World} {e : Ending} (h : Made xs w e w') : Gives xs w e w' := by
  obtain ⟨v, rfl, ho, hb⟩ := h
  obtain ⟨A, c, rfl, h1, h2, _, h3⟩ := ho.shape
  exact ⟨A, c, rfl, h1, h2, h3, hb⟩

/-- no result but a value, and memory of its own -/
def SaysW (v : Value) (w : World) (e : Ending) (w' : World) : Prop := e = .returned v ∧ Below w.heap.size w w'
end Go.Proofs.YtiohededmcfhjaaDoor
