/- A bundle of texts: Rowm, Sm5, Sm6, Rl, Tr, Sz, Cp, Mp, Gk, Th, Wy, Hd, Wk, Wl. -/
import Derived.Test.YtflkiddmakeabaaGreatDoorQ04
import Derived.Test.YtflkiddmakeabaaGreatDoorQ03
import Derived.Test.YtflkiddmakeabaaGreatDoorQ01
import Derived.Deep.RegionHeld3
import Derived.SizedLaws
import Derived.Deep.Matrix
import Derived.BigQuiet
import Derived.Maps.Own
import Derived.WideKeyEntry
import Derived.DeepKeys4
import Derived.Test.YtflkiddmakeabaaGreatDoorQ00
/- Own slices of slices of ints: append of one; how they read; slices of slices of ints that came in. -/
set_option linter.unusedVariables false
namespace Go.Proofs.YtflkiddmakeabaaGreatDoor
open Go.RowKit

theorem info_ints : (Tryz.prog.info? 22).map (fun i => (i.zero, i.size, i.bytes)) = some (some (.slice none 0 0), 1, 24) := by kernel_rfl

/-- the call's own slice of slices of ints -/
abbrev OwnR (w : World) (base : Nat) (v : Value) (us : List Value) : Prop := w.ownsRow base 22 1 v us.length us
/-- each is a slice of ints of the call's own -/
def RowsOwn (w : World) (base : Nat) (us : List Value) (ls : List (List Int)) : Prop := us.length = ls.length ∧ ∀ k (h : k < us.length) (h' : k < ls.length), Own w base us[k] ls[k]

theorem own_ne {w : World} {base base' : Nat} {v u : Value} {xs : List Int} {us : List Value} (h : Own w base v xs) (k : OwnR w base' u us) : v.ownBlock = none ∨ v.ownBlock ≠ u.ownBlock := by
  rcases h.2 with ⟨rfl, _⟩ | ⟨g, cap, cur, rfl, _, hg, _⟩
  · exact .inl rfl
  · refine .inr ?_
    rcases k.2 with ⟨rfl, _⟩ | ⟨g', cap', cur', rfl, _, hg', _⟩
    · intro e; cases e
    · intro e
      injection e with e
      subst e
      rw [hg] at hg'
      injection hg' with hg'
      injection hg' with _ ht
      exact absurd ht (by decide)

/-- what an append of an own row leaves -/
structure GrewR (w w' : World) (base : Nat) (v v' : Value) (us : List Value) : Prop where
  own : OwnR w' base v' us
  grown : w.grownBy w' v.ownBlock

theorem GrewR.below {w0 w w' : World} {base : Nat} {v v' : Value} {us vs : List Value} (h : GrewR w w' base v v' us) {B : Nat} (hb : Below B w0 w) (ho : OwnR w base v vs) (hB : B ≤ base) (hs : B ≤ w.heap.size) : Below B w0 w' :=
  hb.grown h.grown hs (fun k hk => Nat.le_trans hB (World.ownsRow.lt ho k hk).1)
theorem GrewR.rows {w w' : World} {base base2 : Nat} {v v' : Value} {us vs ws : List Value} {ls : List (List Int)} (h : GrewR w w' base v v' us) (ho : OwnR w base v vs) (hr : RowsOwn w base2 ws ls) : RowsOwn w' base2 ws ls :=
  ⟨hr.1, fun k h1 h2 => (hr.2 k h1 h2).grown h.grown (own_ne (hr.2 k h1 h2) ho)⟩

theorem run_appR (w : World) (base : Nat) (v : Value) (us : List Value) (A : Option Addr) (n c : Nat) (hown : OwnR w base v us) (hlen : us.length < 5864062014805) (hbase : base ≤ w.heap.size) (ty : TypeId) :
    ∃ v' w', (Builtin.append_ #[23, 23] ty #[v, .slice (some ⟨w.heap.size, 0, none⟩) 1 1]).run Tryz.prog (w.alloc (.cells #[.slice A n c] 22)) = .ok v' w' ∧ GrewR w w' base v v' (us ++ [.slice A n c]) := by
  obtain ⟨i0, hi, hz0, hz1, hz2⟩ := info_parts info_ints
  obtain ⟨v', w', hrun, h2, h3, _, h5⟩ := run_append_own_at (P := Tryz.prog) (w.alloc (.cells #[.slice A n c] 22)) base 23 ty 22 i0 _ 1 24 Tryz.underlying23 hi hz0 hz1 hz2 rfl (by omega)
    v us.length us (hown.alloc _) ⟨w.heap.size, 0, none⟩ 1 1 [.slice A n c] rfl (by
      intro j u hj
      match j, hj with
      | 0, hj => simp at hj; subst hj; simp [Addr.add]) (by simp [Value.oneCell']) (by simp only [maxLen]; omega) (by omega) (by simp; omega)
  refine ⟨v', w', hrun, ?_, grownBy_trans (World.grownBy_alloc w _ _) h3⟩
  have e : (us ++ [Value.slice A n c]).length = us.length + 1 := by simp
  rw [OwnR, e]
  exact h2

/-- append of one row -/
theorem wpList_appR {ops : Array Oper} {rest : List Oper} {o : Oper} {a : Act} {Q : Exit → Act → World → Prop} (w : World) (A : Option Addr) (n c : Nat) (hgd : o.guard = none) (s x : Operand)
    (ho : o.op = .call { callee := .builtin .append, args := #[s, x], argTypes := #[23, 23] })
    (base : Nat) (v : Value) (us : List Value) (hs : a.eval s = v) (hx : a.eval x = .slice (some ⟨w.heap.size, 0, none⟩) 1 1) (hown : OwnR w base v us) (hlen : us.length < 5864062014805) (hbase : base ≤ w.heap.size)
    (h : ∀ v' w', GrewR w w' base v v' (us ++ [.slice A n c]) → wpList Tryz.prog ops Q rest (a.put o.dst v') w') : wpList Tryz.prog ops Q (o :: rest) a (w.alloc (.cells #[.slice A n c] 22)) :=
  wpList_plain hgd fun _ hK => by
    obtain ⟨v', w', hrun, hg⟩ := run_appR w base v us A n c hown hlen hbase o.type
    unfold Oper.wp execOp
    simp only [ho, resolve, invoke, builtin, Sem.run_bind, Sem.run_pure, Result.andThen_ok, List.map_toArray, List.map_cons, List.map_nil, hs, hx, hrun]
    exact hK _ _ (h v' w' hg)

theorem RowsOwn.nil (w : World) (base : Nat) : RowsOwn w base [] [] := ⟨rfl, fun k h => absurd h (by simp)⟩
theorem RowsOwn.snoc {w : World} {base : Nat} {us : List Value} {ls : List (List Int)} {u : Value} {l : List Int} (h : RowsOwn w base us ls) (hu : Own w base u l) : RowsOwn w base (us ++ [u]) (ls ++ [l]) := by
  have hl := h.1
  refine ⟨by simp [hl], fun k h1 h2 => ?_⟩
  by_cases hk : k < us.length
  · rw [List.getElem_append_left hk, List.getElem_append_left (by omega)]
    exact h.2 k hk (by omega)
  · have e : k = us.length := by simp at h1; omega
    subst e
    rw [List.getElem_append_right (Nat.le_refl _), List.getElem_append_right (by omega)]
    simpa [hl] using hu
theorem RowsOwn.below {w w' : World} {base : Nat} {us : List Value} {ls : List (List Int)} (h : RowsOwn w base us ls) (hb : Below w.heap.size w w') : RowsOwn w' base us ls := ⟨h.1, fun k h1 h2 => (h.2 k h1 h2).below hb⟩
theorem RowsOwn.more {w : World} {base base' : Nat} {us : List Value} {ls : List (List Int)} (h : RowsOwn w base us ls) (hb : base' ≤ base) : RowsOwn w base' us ls := ⟨h.1, fun k h1 h2 => (h.2 k h1 h2).more hb⟩

/-- own rows read as tables -/
theorem tb_own {w : World} {base base2 : Nat} {A : Option Addr} {n c : Nat} {us : List Value} {ls : List (List Int)} (h : OwnR w base (.slice A n c) us) (hr : RowsOwn w base2 us ls) (hi : ∀ l ∈ ls, ∀ x ∈ l, I64 x) : TB w A ls := fun k hk => by
  have hku : k < us.length := by rw [hr.1]; exact hk
  have hn : us.length = n := by
    rcases h.2 with ⟨e, h0⟩ | ⟨g, cap, cur, e, _⟩
    · injection e with _ e2 _; omega
    · injection e with _ e2 _; exact e2.symm
  subst hn
  have hrd := Reads.of_own h
  obtain ⟨ad, u, e1, e2, e3, e4⟩ := Reads.at_ (k := k) hrd (by omega)
  have e5 : u = us[k] := by
    rw [List.getElem?_eq_getElem hku] at e3
    injection e3 with e3
    exact e3.symm
  obtain ⟨A1, n1, c1, e6, e7, e8, e9, e10⟩ := (hr.2 k hku hk).shapeN
  have hm : maxLen < 9223372036854775808 := by simp [maxLen]
  exact ⟨ad, A1, n1, c1, e1, by rw [block_of_add]; exact e2, by rw [e4, e5, e6], e7, by omega, e10, hi _ (List.getElem_mem hk)⟩
theorem ownR_shape {w : World} {base : Nat} {v : Value} {us : List Value} (h : OwnR w base v us) : ∃ A n c, v = .slice A n c ∧ us.length = n ∧ n ≤ c := by
  rcases h.2 with ⟨rfl, h0⟩ | ⟨g, cap, cur, rfl, _, _, h1, _⟩
  · exact ⟨none, 0, 0, rfl, h0, Nat.le_refl _⟩
  · exact ⟨_, _, _, rfl, rfl, h1⟩

/-- '.slice A n c' came in and reads as rows -/
structure ArgM (w : World) (A : Option Addr) (n c : Nat) (ts : List (List Int)) : Prop where
  len : ts.length = n
  cap : n ≤ c
  max : c ≤ 9223372036854775807
  tb : TB w A ts
theorem ArgM.nil (w : World) : ArgM w none 0 0 [] := ⟨rfl, Nat.le_refl _, by omega, fun k hk => absurd hk (by simp)⟩
theorem ArgM.mk_ {w : World} {a : Addr} {len cap : Nat} {A : Nat → Option Addr} {L C : Nat → Nat} {Z : Nat → List Int} (hl : len ≤ cap) (hm : cap ≤ maxLen)
    (h : ∀ r, r < cap → w.cell? (a.add r) = some (.slice (A r) (L r) (C r)) ∧ L r ≤ C r ∧ C r ≤ maxLen ∧ (Z r).length = C r ∧ (∀ n ∈ Z r, (Lit.int .i64 n).wf = true) ∧ (A r = none → C r = 0) ∧
        ∀ a', A r = some a' → 0 ≤ a'.block ∧ ∀ c, c < C r → w.cell? (a'.add c) = some (.int .i64 ((Z r).getD c 0))) :
    ArgM w (some a) len cap ((List.range len).map fun r => (Z r).take (L r)) := by
  have hmm : maxLen ≤ 9223372036854775807 := by simp [maxLen]
  refine ⟨by simp, hl, by omega, fun k hk => ?_⟩
  have hk' : k < len := by simpa using hk
  obtain ⟨h1, h2, h3, h4, h5, h6, h7⟩ := h k (by omega)
  have e : ((List.range len).map fun r => (Z r).take (L r))[k] = (Z k).take (L k) := by simp
  rw [e]
  have hlen : ((Z k).take (L k)).length = L k := by rw [List.length_take, h4]; omega
  refine ⟨a, A k, L k, C k, rfl, block_lt_of_cell h1, h1, hlen, by omega, ⟨by simp, fun hn => ?_⟩, fun x hx => i64_of_wf (h5 x (List.mem_of_mem_take hx))⟩
  rw [hlen] at hn
  cases hA : A k with
  | none => have := h6 hA; omega
  | some a' =>
    obtain ⟨_, h8⟩ := h7 a' hA
    have hc0 := h8 0 (by omega)
    refine ⟨a', rfl, ?_, fun j u hu => ?_⟩
    · have := block_lt_of_cell hc0
      rwa [block_of_add] at this
    · rw [List.getElem?_map] at hu
      cases hj : ((Z k).take (L k))[j]? with
      | none => rw [hj] at hu; cases hu
      | some x =>
        rw [hj] at hu
        injection hu with hu
        rw [List.getElem?_take] at hj
        split at hj
        · have hjl : j < (Z k).length := (List.getElem?_eq_some_iff.1 hj).1
          rw [h8 j (by omega), ← hu]
          simp [List.getD_eq_getElem?_getD, hj]
        · cases hj
end Go.Proofs.YtflkiddmakeabaaGreatDoor

/- Walks: sums.checked. -/
set_option linter.unusedVariables false
namespace Go.Proofs.YtflkiddmakeabaaGreatDoor
open Go.RowKit Zp

end Go.Proofs.YtflkiddmakeabaaGreatDoor

/- Walks: sums.checked, Total. -/
set_option linter.unusedVariables false
namespace Go.Proofs.YtflkiddmakeabaaGreatDoor
open Go.RowKit Zp

end Go.Proofs.YtflkiddmakeabaaGreatDoor

/- Plain and memory: tables Fixed; what a round tells, as lists; rows of one's own. -/
set_option linter.unusedVariables false
namespace Go.Proofs.YtflkiddmakeabaaGreatDoor
open Go.RowKit Zp


theorem OwnR.below {w w' : World} {base : Nat} {v : Value} {us : List Value} (h : OwnR w base v us) (hb : Below w.heap.size w w') : OwnR w' base v us := by
  rcases h.2 with h0 | ⟨g, cap, cur, e, h1, hg, h2⟩
  · exact ⟨h.1, .inl h0⟩
  · have hlt : g < w.heap.size := (World.ownsRow.lt h g (by rw [e]; rfl)).2
    exact ⟨h.1, .inr ⟨g, cap, cur, e, h1, (hb.block g hlt).trans hg, h2⟩⟩
/-- rows of one's own are made -/
def MadeRows (ls : List (List Int)) (w : World) (e : Ending) (w' : World) : Prop :=
  ∃ v us, e = .returned v ∧ OwnR w' w.heap.size v us ∧ RowsOwn w' w.heap.size us ls ∧ Below w.heap.size w w'
end Go.Proofs.YtflkiddmakeabaaGreatDoor

/- Walks: tree.root, tree.Root. -/
set_option linter.unusedVariables false
namespace Go.Proofs.YtflkiddmakeabaaGreatDoor
open Go.RowKit Zp
/-- a digest is handed back, that lies in a block of its own -/
def RootIs (l : List Int) (w : World) (e : Ending) (w' : World) : Prop :=
  ∃ g : Nat, e = .returned (.slice (some ⟨g, 0, none⟩) 4 4) ∧ (∃ cs, Blk w' g 153 cs) ∧ SL w' (some ⟨g, 0, none⟩) l ∧ l.length = 4 ∧ (∀ x ∈ l, I64 x) ∧ w.heap.size ≤ g ∧ Below w.heap.size w w'
theorem HashIs.root {p k : Nat} [NeZero p] (hm : p ≤ 2147483647) {l : List Int} {w w' : World} {e : Ending} (h : HashIs (digE p k l) w e w') : RootIs (digL p k l) w e w' := by
  obtain ⟨g, h1, h2, h3, h4⟩ := h
  exact ⟨g, h1, ⟨_, h2⟩, dig_sl h2, digL_len _ _, i64_digL hm l, h3, h4⟩
theorem RootIs.from {l : List Int} {w0 w w' : World} {e : Ending} (h : RootIs l w e w') (hb : Below w0.heap.size w0 w) : RootIs l w0 e w' := by
  obtain ⟨g, h1, h2, h3, h4, h5, h6, h7⟩ := h
  exact ⟨g, h1, h2, h3, h4, h5, Nat.le_trans hb.size h6, hb.trans (h7.mono hb.size)⟩
end Go.Proofs.YtflkiddmakeabaaGreatDoor

/- What a row of a slice of slices weighs at most. -/
set_option linter.unusedVariables false
namespace Go.Proofs.YtflkiddmakeabaaGreatDoor
open Go.RowKit Go.ChangeShapes

theorem weightsAll_mem {H : Type} {P : Program} {e : TypeId} {d : DataW H} {n : Nat} : ∀ {l : List (DataW H)}, d ∈ l → n ∈ d.weights P e → n ∈ DataW.weightsAll P e l
  | x :: l, hd, hn => by
    simp only [DataW.weightsAll, List.mem_append]
    rcases List.mem_cons.1 hd with rfl | h
    · exact .inl hn
    · exact .inr (weightsAll_mem h hn)
theorem sized_row {H : Type} {P : Program} {ts : List TypeId} {ds : List (DataW H)} (h : (DataW.weightsEach P ts ds).all (· ≤ reachBytes) = true) {j : Nat} {t e q : TypeId} {elems spare el sp : List (DataW H)} (ht : ts[j]? = some t) (hd : ds[j]? = some (.slice elems spare)) (hu : P.underlying t = some (.slice e)) (hv : P.underlying e = some (.slice q))
    (hm : .slice el sp ∈ elems) : (el.length + sp.length) * P.bytesOf q ≤ reachBytes := by
  have h1 : (el.length + sp.length) * P.bytesOf q ∈ DataW.weights P e (.slice el sp) := by simp [DataW.weights, hv]
  have h2 := weightsAll_mem hm h1
  have := List.all_eq_true.1 h _ (DataW.weights_mem_each ht hd _ (by simp only [DataW.weights, hu]; exact List.mem_cons_of_mem _ (List.mem_append_left _ h2)))
  simpa using this

theorem bytesI : Tryz.prog.bytesOf 3 = 8 := by kernel_rfl
theorem bytesR : Tryz.prog.bytesOf 22 = 24 := by kernel_rfl
/-- rows that came in, each of a length that memory holds -/
structure ArgMS (w : World) (A : Option Addr) (n c : Nat) (ts : List (List Int)) : Prop where
  m : ArgM w A n c ts
  n24 : n ≤ 5864062014805
  r8 : ∀ t ∈ ts, t.length * 8 ≤ 140737488351232
theorem ArgMS.rows {w : World} {A : Option Addr} {n c : Nat} {ts : List (List Int)} (h : ArgMS w A n c ts) : ∀ t ∈ ts, t.length ≤ 17592186044416 := fun t ht => by have := h.r8 t ht; omega
theorem ArgMS.nil (w : World) : ArgMS w none 0 0 [] := ⟨ArgM.nil _, by omega, by simp⟩
theorem ArgMS.i64 {w : World} {A : Option Addr} {n c : Nat} {ts : List (List Int)} (h : ArgMS w A n c ts) : ∀ t ∈ ts, ∀ x ∈ t, I64 x := fun t ht => by
  obtain ⟨k, hk, rfl⟩ := List.mem_iff_getElem.1 ht
  obtain ⟨_, _, _, _, _, _, _, _, _, _, hi⟩ := h.m.tb k hk
  exact hi
theorem ArgMS.mk_ {H : Type} {tys : List TypeId} {ds : List (DataW H)} (hsz : (DataW.weightsEach Tryz.prog tys ds).all (· ≤ reachBytes) = true) {j : Nat} (ht : tys[j]? = some 23) {w : World} {a : Addr} {len cap : Nat} {A : Nat → Option Addr} {L C : Nat → Nat} {Z : Nat → List Int}
    (hd : ds[j]? = some (.slice ((List.range len).map fun r => Go.Deep.intRow .i64 (A r) (L r) (Z r)) ((List.range (cap - len)).map fun j => Go.Deep.intRow .i64 (A (len + j)) (L (len + j)) (Z (len + j))))) (hl : len ≤ cap) (hm : cap ≤ maxLen)
    (h : ∀ r, r < cap → w.cell? (a.add r) = some (.slice (A r) (L r) (C r)) ∧ L r ≤ C r ∧ C r ≤ maxLen ∧ (Z r).length = C r ∧ (∀ n ∈ Z r, (Lit.int .i64 n).wf = true) ∧ (A r = none → C r = 0) ∧
        ∀ a', A r = some a' → 0 ≤ a'.block ∧ ∀ c, c < C r → w.cell? (a'.add c) = some (.int .i64 ((Z r).getD c 0))) :
    ArgMS w (some a) len cap ((List.range len).map fun r => (Z r).take (L r)) := by
  refine ⟨ArgM.mk_ hl hm h, ?_, fun t hmem => ?_⟩
  · have h1 := sized_slice hsz (j := j) (t := 23) (e := 22) ht hd Tryz.underlying23
    rw [bytesR] at h1
    simp only [List.length_map, List.length_range, reachBytes] at h1
    omega
  · obtain ⟨r, hr, rfl⟩ := List.mem_map.1 hmem
    have hr' := List.mem_range.1 hr
    obtain ⟨_, h2, _, h4, _, h6, _⟩ := h r (by omega)
    rw [List.length_take]
    cases hA : A r with
    | none => have := h6 hA; omega
    | some a' =>
      have hin : DataW.slice (H := H) (lits .i64 ((Z r).take (L r))) (lits .i64 ((Z r).drop (L r))) ∈ (List.range len).map fun r => Go.Deep.intRow .i64 (A r) (L r) (Z r) :=
        List.mem_map.2 ⟨r, hr, by simp only [Go.Deep.intRow, hA]⟩
      have h1 := sized_row hsz (j := j) ht hd Tryz.underlying23 Tryz.underlying22 hin
      rw [bytesI] at h1
      simp only [lits, List.length_map, List.length_take, List.length_drop, reachBytes] at h1
      omega
end Go.Proofs.YtflkiddmakeabaaGreatDoor

/- Walks: same.Copied, Rows, Opened, Openings. -/
set_option linter.unusedVariables false
namespace Go.Proofs.YtflkiddmakeabaaGreatDoor
open Go.RowKit Zp
def CopRel (ts : List (List Int)) (w : World) (v i : Value) (wr : World) : Prop :=
  ∃ (k : Nat) (us : List Value), k ≤ ts.length ∧ i = vi k ∧ OwnR wr w.heap.size v us ∧ RowsOwn wr w.heap.size us (ts.take k) ∧ Below w.heap.size w wr
set_option maxRecDepth 100000 in
set_option maxHeartbeats 2000000 in
theorem copied_any (A : Option Addr) (N c : Nat) (ts : List (List Int)) (hN : ts.length = N) (hN2 : N ≤ 5864062014805) (hR : ∀ t ∈ ts, t.length ≤ 17592186044416) (w : World) (hT : TB w A ts) :
    Calls Tryz.prog 25 #[.slice A N c] w (MadeRows ts w) := by
  have HN := Lib.hid hN
  have HT := Lib.hid hT
  have HR := Lib.hid hR
  have HN2 := Lib.hid hN2
  clear hN hT hR hN2
  go_enter Tryz.func25, Tryz.ntmps25
  go_wp2
  go_loopw [3, 4, 5] (fun v i _ wr => CopRel ts w v i wr) (fun _ i _ _ => N - (intOf i).toNat)
  case atStart => exact ⟨0, [], Nat.zero_le _, rfl, World.ownsRow_nil _ _ _ _, RowsOwn.nil _ _, Below.refl _ _⟩
  case round =>
    obtain ⟨k, us, hk, rfl, hown, hrows, hb⟩ := hrel
    rw [HN.out] at hk
    by_cases hlt : k < N
    · have hkt : k < ts.length := by rw [HN.out]; exact hlt
      obtain ⟨ad, A1, n1, c1, rfl, hb1, hc1, hl1, hn1, hs1, hi1⟩ := (HT.out.below hb) k hkt
      have i1 : (0 : Int) ≤ (k : Int) := by omega
      have i2 : (k : Int) < (N : Int) := by omega
      have hwr : IntKind.i64.wrap ((k : Int) + 1) = (k : Int) + 1 := IntWalk.i64_in _ (by have := HN2.out; omega)
      have hrl := HR.out _ (List.getElem_mem hkt)
      have htk : ts.take (k + 1) = ts.take k ++ [ts[k]] := List.take_succ_eq_append_getElem hkt
      have hs1' : SL wr A1 ts[k] := hs1
      obtain ⟨x, hx⟩ : ∃ x, x = ts[k] := ⟨_, rfl⟩
      rw [← hx] at hl1 hs1' hrl htk
      have hba : Below wr.heap.size wr (wr.alloc (.cells #[] 3)) := (Below.refl _ _).alloc (Nat.le_refl _) _
      have hc1' := (hba.cell (p := ad.add k) hb1).trans hc1
      have ho0 := own_empty wr wr.heap.size (Nat.le_refl _)
      have hus : us.length = k := by rw [hrows.1, List.length_take]; omega
      have HX := Lib.hid htk
      have HL1 := Lib.hid hl1
      have HRL := Lib.hid (show ([] : List Int).length + n1 ≤ 17592186044416 by simp; omega)
      have HS1 := Lib.hid (hs1'.below hba)
      have HO0 := Lib.hid ho0
      have HBA := Lib.hid hba
      have HOW := Lib.hid hown
      have HRW := Lib.hid hrows
      have HB := Lib.hid hb
      have HUS := Lib.hid (show us.length < 5864062014805 by have := HN2.out; omega)
      clear hl1 hn1 hs1 hi1 hrl htk hs1' hx hba ho0 hown hrows hb hus hb1 hkt
      go_wp2_with (first
        | (at_builtin; refine wpList_appA _ rfl _ _ rfl wr.heap.size _ [] A1 n1 c1 x rfl rfl HL1.out HO0.out HS1.out HRL.out (by simp) ?_; intro v2 w2 hg2; have ho2 := hg2.own; have hb2 : Below wr.heap.size wr w2 := hg2.below HBA.out HO0.out (Nat.le_refl _) HBA.out.size; clear hg2; obtain ⟨A2, n2, c2, rfl, hl2, hc2, hm2, hs2⟩ := ho2.shapeN; have hB2 := HB.out.trans (hb2.mono HB.out.size); have hR2 := HRW.out.below hb2; have hW2 := OwnR.below HOW.out hb2; have HL2 := Lib.hid hl2; have ho2' := ho2.more (base' := w.heap.size) HB.out.size; clear hl2 hs2)
        | (at_builtin; refine wpList_appR w2 A2 n2 c2 rfl _ _ rfl w.heap.size _ us rfl rfl hW2 HUS.out hB2.size ?_; intro v3 w3 hg3))
      have hr3 := (hg3.rows hW2 hR2).snoc (ho2'.grown hg3.grown (own_ne ho2' hW2))
      have hown3 := hg3.own
      have hb3 := hg3.below hB2 hW2 (Nat.le_refl _) hB2.size
      rw [show ([] : List Int) ++ x = x from rfl, ← HX.out] at hr3
      exact ⟨⟨k + 1, _, by rw [HN.out]; omega, by go_num, hown3, hr3, hb3⟩, by simp [intOf]; omega⟩
    · have ek : k = N := by omega
      rw [ek, ← HN.out, List.take_length] at hrows
      go_wp2
      go_ret
      exact ⟨_, us, rfl, hown, hrows, hb⟩
end Go.Proofs.YtflkiddmakeabaaGreatDoor

/- Maps whose keys are structs or the like, told by what each key holds: look-up, update, an entry that is laid and then stored into. Of no program. -/
set_option linter.unusedVariables false
namespace Go.Proofs.YtflkiddmakeabaaGreatDoor
open Go.MapKept Go.ChangeMaps

section
variable {P : Program} {k : TypeId}
/-- the entries tell f -/
def Tells (es : Array MapEntry) (f : Value → Option Value) : Prop := ∀ x v, f x = some v ↔ ∃ e ∈ es.toList, e.key = x ∧ e.val = v
/-- block b is a map that holds f -/
def MapIs (P : Program) (k : TypeId) (w : World) (b : Nat) (f : Value → Option Value) : Prop :=
  ∃ (es : Array MapEntry) (clock : Nat), w.heap[b]? = some (.map es clock) ∧ Stamped es clock ∧ (∀ x ∈ es.toList, ∃ l, keyOf P k x.key = some l) ∧ Tells es f
/-- .. but for one key, whose entry bears a stamp -/
def EntIs (P : Program) (k : TypeId) (w : World) (b : Nat) (key : Value) (st : Nat) (f : Value → Option Value) : Prop :=
  ∃ (es : Array MapEntry) (clock : Nat), w.heap[b]? = some (.map es clock) ∧ Stamped es clock ∧ (∀ x ∈ es.toList, ∃ l, keyOf P k x.key = some l) ∧ (∃ e ∈ es.toList, e.born = st ∧ e.key = key) ∧
    ∀ x, x ≠ key → ∀ v, f x = some v ↔ ∃ e ∈ es.toList, e.key = x ∧ e.val = v
theorem MapIs.made (P : Program) (k : TypeId) (w : World) : MapIs P k (w.alloc (.map #[] 0)) w.heap.size (fun _ => none) :=
  ⟨#[], 0, (MapKept.heap_alloc w _).1, stamped_empty 0, by simp, fun x v => by simp⟩
theorem MapIs.lt {w : World} {b : Nat} {f : Value → Option Value} (h : MapIs P k w b f) : b < w.heap.size := by
  obtain ⟨es, clock, hb, _⟩ := h
  exact (Array.getElem?_eq_some_iff.1 hb).1
theorem MapIs.kept {w w' : World} {b : Nat} {f : Value → Option Value} {row : Option Nat} (h : MapIs P k w b f) (hg : w.grownBy w' row) (hne : some b ≠ row) : MapIs P k w' b f := by
  have hlt := h.lt
  obtain ⟨es, clock, hb, r⟩ := h
  exact ⟨es, clock, (hg.block b hlt hne).trans hb, r⟩
theorem MapIs.same {w w' : World} {b : Nat} {f : Value → Option Value} (h : MapIs P k w b f) (hg : w'.heap[b]? = w.heap[b]?) : MapIs P k w' b f := by
  obtain ⟨es, clock, hb, r⟩ := h
  exact ⟨es, clock, hg.trans hb, r⟩
theorem key_unique {es : Array MapEntry} {clock : Nat} (h : Stamped es clock) {x y : MapEntry} (hx : x ∈ es.toList) (hy : y ∈ es.toList) (e : x.key = y.key) : x = y := by
  have hp := ((stamped_iff es clock).1 h).2.2
  obtain ⟨i, hi, rfl⟩ := List.mem_iff_getElem.1 hx
  obtain ⟨j, hj, rfl⟩ := List.mem_iff_getElem.1 hy
  rcases Nat.lt_trichotomy i j with h1 | h1 | h1
  · exact absurd e (List.pairwise_iff_getElem.1 hp i j hi hj h1)
  · subst h1; rfl
  · exact absurd e.symm (List.pairwise_iff_getElem.1 hp j i hj hi h1)
theorem tells_some {es : Array MapEntry} {clock : Nat} (h : Stamped es clock) : ∃ f, Tells es f := by
  refine ⟨fun x => open Classical in if hx : ∃ e ∈ es.toList, e.key = x then some (Classical.choose hx).val else none, fun x v => ?_⟩
  by_cases hx : ∃ e ∈ es.toList, e.key = x
  · simp only [dif_pos hx, Option.some.injEq]
    obtain ⟨h1, h2⟩ := Classical.choose_spec hx
    constructor
    · intro hv; exact ⟨_, h1, h2, hv⟩
    · rintro ⟨e, he, h3, h4⟩
      have := key_unique h h1 he (h2.trans h3.symm)
      rw [this]; exact h4
  · simp only [dif_neg hx, reduceCtorEq, false_iff]
    rintro ⟨e, he, h3, _⟩
    exact hx ⟨e, he, h3⟩
variable (K : Maps.Keyed P k)
include K
/-- m[key] -/
theorem MapIs.look {w : World} {b : Nat} {f : Value → Option Value} (h : MapIs P k w b f) {t e : TypeId} (ht : P.underlying t = some (.map k e)) {z : Value} (hz : (zeroValue e).run P w = .ok z w) {key : Value} {kl : Lit} (hkey : keyOf P k key = some kl) :
    (Instr.lookup t (.map (some b)) key false).run P w = .ok ((f key).getD z) w := by
  obtain ⟨es, clock, hb, hs, hk, hf⟩ := h
  rcases K.find w hkey es.toList hk with ⟨h1, h2⟩ | ⟨j, e0, h1, h2, h3⟩
  · have hn : f key = none := by
      cases hfk : f key with
      | none => rfl
      | some v =>
        obtain ⟨x, hx, h3, _⟩ := (hf key v).1 hfk
        exact absurd h3 (h2 x hx)
    simp [Instr.lookup, run_underlying ht, MapKept.run_getObj_map hb, K.check w _ hkey, h1, hz, hn, Result.andThen]
  · have hn : f key = some e0.val := (hf key _).2 ⟨e0, List.mem_of_getElem? h2, h3, rfl⟩
    simp [Instr.lookup, run_underlying ht, MapKept.run_getObj_map hb, K.check w _ hkey, h1, hn, Result.andThen]
omit K in
theorem block_grown (w : World) (b : Nat) (o : Obj) : w.grownBy (setBlock w b o) (some b) := ⟨rfl, rfl, rfl, by simp [setBlock], fun i _ hi => by
  have hne : b ≠ i := fun e => hi (by rw [e])
  simp [setBlock, hne]⟩
omit K in
theorem mem_push {es : Array MapEntry} {e x : MapEntry} : x ∈ (es.push e).toList ↔ x ∈ es.toList ∨ x = e := by simp
omit K in
theorem mem_mod {es : Array MapEntry} {clock j : Nat} (hs : Stamped es clock) {e0 : MapEntry} (hj : es.toList[j]? = some e0) (v : Value) (x : MapEntry) :
    x ∈ (es.modify j fun e => { e with val := v }).toList ↔ (x ∈ es.toList ∧ x.key ≠ e0.key) ∨ x = { e0 with val := v } := by
  have hjl : j < es.toList.length := (List.getElem?_eq_some_iff.1 hj).1
  have hje : es.toList[j] = e0 := (List.getElem?_eq_some_iff.1 hj).2
  have hp := ((stamped_iff es clock).1 hs).2.2
  rw [Array.toList_modify, List.mem_iff_getElem?]
  constructor
  · rintro ⟨i, hi⟩
    rw [List.getElem?_modify] at hi
    by_cases e : j = i
    · subst e
      rw [hj] at hi
      simp at hi
      exact .inr hi.symm
    · simp only [if_neg e] at hi
      have hi' : es.toList[i]? = some x := by simpa using hi
      refine .inl ⟨List.mem_of_getElem? hi', fun hk => ?_⟩
      have hil : i < es.toList.length := (List.getElem?_eq_some_iff.1 hi').1
      have hie : es.toList[i] = x := (List.getElem?_eq_some_iff.1 hi').2
      rcases Nat.lt_or_ge i j with h1 | h1
      · exact List.pairwise_iff_getElem.1 hp i j hil hjl h1 (by rw [hie, hje]; exact hk)
      · exact List.pairwise_iff_getElem.1 hp j i hjl hil (by omega) (by rw [hie, hje]; exact hk.symm)
  · rintro (⟨hx, hk⟩ | rfl)
    · obtain ⟨i, hi⟩ := List.mem_iff_getElem?.1 hx
      refine ⟨i, ?_⟩
      have hne : j ≠ i := fun e => by subst e; rw [hj] at hi; injection hi with hi; exact hk (by rw [hi])
      simp [hne, hi]
    · exact ⟨j, by simp [hj]⟩
omit K in
theorem stamped_val {es : Array MapEntry} {clock : Nat} (hs : Stamped es clock) (j : Nat) (v : Value) : Stamped (es.modify j fun e => { e with val := v }) clock :=
  stamped_modify hs j _ (fun _ _ => rfl) (fun _ _ _ => rfl)
/-- what a map holds when one key was stored into -/
def Put (f f' : Value → Option Value) (key val : Value) : Prop := f' key = some val ∧ ∀ x, x ≠ key → f' x = f x
omit K in
theorem tells_put {es : Array MapEntry} {clock : Nat} (hs : Stamped es clock) {f : Value → Option Value} {key val : Value} (h1 : ∃ e ∈ es.toList, e.key = key ∧ e.val = val)
    (h2 : ∀ x, x ≠ key → ∀ v, f x = some v ↔ ∃ e ∈ es.toList, e.key = x ∧ e.val = v) : ∃ f', Tells es f' ∧ Put f f' key val := by
  obtain ⟨f', hf⟩ := tells_some hs
  refine ⟨f', hf, (hf key val).2 h1, fun x hx => ?_⟩
  apply Option.ext
  intro v
  rw [hf x v, h2 x hx v]
/-- m[key]'s entry is laid -/
theorem MapIs.entry {w : World} {b : Nat} {f : Value → Option Value} (h : MapIs P k w b f) {t e : TypeId} (ht : P.underlying t = some (.map k e)) {z : Value} (hz : (zeroValue e).run P w = .ok z w) {key : Value} {kl : Lit} (hkey : keyOf P k key = some kl) :
    ∃ v0 st w', (Instr.mapEntry t (.map (some b)) key).run P w = .ok (.tuple #[v0, goInt (st : Nat)]) w' ∧ EntIs P k w' b key st f ∧ w.grownBy w' (some b) := by
  obtain ⟨es, clock, hb, hs, hk, hf⟩ := h
  rcases K.find w hkey es.toList hk with ⟨h1, h2⟩ | ⟨j, e0, h1, h2, h3⟩
  · refine ⟨z, clock, setBlock w b (.map (es.push ⟨key, z, clock⟩) (clock + 1)), ?_, ⟨_, _, heap_setBlock_same hb _, stamped_push hs h2, ?_, ⟨⟨key, z, clock⟩, by simp, rfl, rfl⟩, ?_⟩, block_grown _ _ _⟩
    · simp [Instr.mapEntry, run_underlying ht, MapKept.run_getObj_map hb, K.check w false hkey, h1, hz, MapKept.run_setObj_map _ hb, Result.andThen, setBlock]
    · intro x hx
      rcases mem_push.1 hx with hx | rfl
      · exact hk x hx
      · exact ⟨kl, hkey⟩
    · intro x hx v
      rw [hf x v]
      constructor
      · rintro ⟨e, he, h3⟩; exact ⟨e, mem_push.2 (.inl he), h3⟩
      · rintro ⟨e, he, h3, h4⟩
        rcases mem_push.1 he with he | rfl
        · exact ⟨e, he, h3, h4⟩
        · exact absurd h3.symm hx
  · have hj : es[j]? = some e0 := by simpa using h2
    have hsame : es.modify j (fun e => { e with key := key }) = es := by
      apply Array.ext'
      rw [Array.toList_modify, modify_eq_set _ _ _ _ h2]
      have : ({ e0 with key := key } : MapEntry) = e0 := by rw [← h3]
      rw [this]
      exact Go.WideElems.set_self _ _ _ h2
    refine ⟨e0.val, e0.born, setBlock w b (.map es clock), ?_, ⟨es, clock, heap_setBlock_same hb _, hs, hk, ⟨e0, List.mem_of_getElem? h2, rfl, h3⟩, fun x _ v => hf x v⟩, block_grown _ _ _⟩
    simp [Instr.mapEntry, run_underlying ht, MapKept.run_getObj_map hb, K.check w false hkey, h1, hj, h3, K.stays w hkey, hsame, MapKept.run_setObj_map _ hb, Result.andThen, setBlock]
omit K in
/-- .. and stored into -/
theorem EntIs.store {w : World} {b st : Nat} {key : Value} {f : Value → Option Value} (h : EntIs P k w b key st f) (t : TypeId) (val : Value) :
    ∃ w' f', (Instr.entryStore t (.map (some b)) (goInt (st : Nat)) val).run P w = .ok () w' ∧ MapIs P k w' b f' ∧ Put f f' key val ∧ w.grownBy w' (some b) := by
  obtain ⟨es, clock, hb, hs, hk, ⟨e0, he0, rfl, rfl⟩, hf⟩ := h
  obtain ⟨j, hj⟩ := List.mem_iff_getElem?.1 he0
  have hs' := stamped_val hs j val
  have hmm := mem_mod hs hj val
  obtain ⟨f', hf', hp⟩ := tells_put (f := f) hs' (key := e0.key) (val := val) ⟨{ e0 with val := val }, (hmm _).2 (.inr rfl), rfl, rfl⟩ (fun x hx v => by
    rw [hf x hx v]
    constructor
    · rintro ⟨e, he, h3, h4⟩; exact ⟨e, (hmm e).2 (.inl ⟨he, by rw [h3]; exact hx⟩), h3, h4⟩
    · rintro ⟨e, he, h3, h4⟩
      rcases (hmm e).1 he with ⟨he, _⟩ | rfl
      · exact ⟨e, he, h3, h4⟩
      · exact absurd h3.symm hx)
  refine ⟨setBlock w b (.map (es.modify j fun e => { e with val := val }) clock), f', ?_, ⟨_, _, heap_setBlock_same hb _, hs', ?_, hf'⟩, hp, block_grown _ _ _⟩
  · have hidx : es.findIdx? (fun e => ((e.born : Nat) : Int) == ((e0.born : Nat) : Int)) = some j := by
      rw [Go.WideElems.findIdx_arr]
      exact Go.WideElems.findIdx_born hs.2.1 hj
    simp [Instr.entryStore, MapKept.run_getObj_map hb, asInt, asIntOf, goInt, hidx, MapKept.run_setObj_map _ hb, Result.andThen, setBlock]
  · intro x hx
    rcases (hmm x).1 hx with ⟨hx, _⟩ | rfl
    · exact hk x hx
    · exact hk e0 he0
/-- m[key] = val -/
theorem MapIs.update {w : World} {b : Nat} {f : Value → Option Value} (h : MapIs P k w b f) {t e : TypeId} (ht : P.underlying t = some (.map k e)) {key val : Value} {kl : Lit} (hkey : keyOf P k key = some kl) :
    ∃ w' f', (Instr.mapUpdate t (.map (some b)) key val).run P w = .ok () w' ∧ MapIs P k w' b f' ∧ Put f f' key val ∧ w.grownBy w' (some b) := by
  obtain ⟨es, clock, hb, hs, hk, hf⟩ := h
  rcases K.find w hkey es.toList hk with ⟨h1, h2⟩ | ⟨j, e0, h1, h2, h3⟩
  · have hs' := stamped_push hs (val := val) h2
    obtain ⟨f', hf', hp⟩ := tells_put (f := f) hs' (key := key) (val := val) ⟨⟨key, val, clock⟩, by simp, rfl, rfl⟩ (fun x hx v => by
      rw [hf x v]
      constructor
      · rintro ⟨e, he, h3⟩; exact ⟨e, mem_push.2 (.inl he), h3⟩
      · rintro ⟨e, he, h3, h4⟩
        rcases mem_push.1 he with he | rfl
        · exact ⟨e, he, h3, h4⟩
        · exact absurd h3.symm hx)
    refine ⟨setBlock w b (.map (es.push ⟨key, val, clock⟩) (clock + 1)), f', ?_, ⟨_, _, heap_setBlock_same hb _, hs', ?_, hf'⟩, hp, block_grown _ _ _⟩
    · simp [Instr.mapUpdate, run_underlying ht, MapKept.run_getObj_map hb, K.check w false hkey, h1, MapKept.run_setObj_map _ hb, Result.andThen, setBlock]
    · intro x hx
      rcases mem_push.1 hx with hx | rfl
      · exact hk x hx
      · exact ⟨kl, hkey⟩
  · subst h3
    have hj : es[j]? = some e0 := by simpa using h2
    have hsame : es.modify j (fun e => { e with key := e0.key, val := val }) = es.modify j (fun e => { e with val := val }) := by
      apply Array.ext'
      rw [Array.toList_modify, Array.toList_modify, modify_eq_set _ _ _ _ h2, modify_eq_set _ _ _ _ h2]
    have hs' := stamped_val hs j val
    have hmm := mem_mod hs h2 val
    obtain ⟨f', hf', hp⟩ := tells_put (f := f) hs' (key := e0.key) (val := val) ⟨{ e0 with val := val }, (hmm _).2 (.inr rfl), rfl, rfl⟩ (fun x hx v => by
      rw [hf x v]
      constructor
      · rintro ⟨e, he, h3, h4⟩; exact ⟨e, (hmm e).2 (.inl ⟨he, by rw [h3]; exact hx⟩), h3, h4⟩
      · rintro ⟨e, he, h3, h4⟩
        rcases (hmm e).1 he with ⟨he, _⟩ | rfl
        · exact ⟨e, he, h3, h4⟩
        · exact absurd h3.symm hx)
    refine ⟨setBlock w b (.map (es.modify j fun e => { e with val := val }) clock), f', ?_, ⟨_, _, heap_setBlock_same hb _, hs', ?_, hf'⟩, hp, block_grown _ _ _⟩
    · simp [Instr.mapUpdate, run_underlying ht, MapKept.run_getObj_map hb, K.check w false hkey, h1, hj, K.stays w hkey, hsame, MapKept.run_setObj_map _ hb, Result.andThen, setBlock]
    · intro x hx
      rcases (hmm x).1 hx with ⟨hx, _⟩ | rfl
      · exact hk x hx
      · exact hk e0 (List.mem_of_getElem? h2)
end
end Go.Proofs.YtflkiddmakeabaaGreatDoor

/- Groups of rows as keys of maps. -/
set_option linter.unusedVariables false
namespace Go.Proofs.YtflkiddmakeabaaGreatDoor
open Go.RowKit Zp
theorem gk_at : Tryz.prog.keyTypeAt 3 142 = true := by kernel_rfl
theorem gk_row : 142 < Tryz.prog.types.size := of_decide_eq_true (by kernel_rfl)
theorem gk_laid : laidOutB Tryz.prog = true := by kernel_rfl
theorem keyed_group : Maps.Keyed Tryz.prog 142 :=
  Maps.Keyed.of_law (deep_law_laid (P := Tryz.prog) gk_laid (m := 3) (by omega) gk_row gk_at (by rw [Tryz.underlying142]))
theorem gk_type : Tryz.prog.keyType 142 = true := by kernel_rfl
theorem gk_cells : Tryz.prog.cellsOf 142 = 2 := by kernel_rfl
theorem gk_int : Tryz.prog.cellsOf 3 = 1 := by kernel_rfl
theorem gk_size : ∃ m, Tryz.prog.types.size = m + 1 := ⟨Tryz.prog.types.size - 1, by have := gk_row; omega⟩
theorem key_group {x y : Int} (hx : I64 x) (hy : I64 y) : ∃ l, keyOf Tryz.prog 142 (.agg #[vi x, vi y]) = some l := by
  have wx : (Lit.int .i64 x).wf = true := by simp [Lit.wf, IntKind.min, IntKind.max, IntKind.signed, IntKind.bits]; omega
  have wy : (Lit.int .i64 y).wf = true := by simp [Lit.wf, IntKind.min, IntKind.max, IntKind.signed, IntKind.bits]; omega
  have h0 := gk_type
  have h1 := gk_cells
  have h2 := gk_int
  obtain ⟨m, hm⟩ := gk_size
  refine ⟨.string (keyBytes [.int .i64 x, .int .i64 y]), ?_⟩
  unfold keyOf
  simp only [Tryz.underlying142]
  rw [if_pos (by simp [h0, Value.formed, Tryz.underlying142, h1]), hm]
  unfold Program.keyLits
  simp only [Tryz.underlying142, Value.cells]
  rw [if_pos (by refine ⟨by rw [h1]; rfl, by kernel_rfl⟩)]
  simp [h2, Program.keyLits, Tryz.underlying3, wx, wy, List.mapM_cons, List.mapM_nil]
theorem key_gp {a c : Nat} (hc : a ≤ 65536 ∧ c ≤ 65536) : ∃ l, keyOf Tryz.prog 142 (Gp a c) = some l := key_group ⟨by omega, by omega⟩ ⟨by omega, by omega⟩
theorem gp_inj {a c a' c' : Nat} (h : Gp a c = Gp a' c') : a = a' ∧ c = c' := by
  simp [Gp] at h
  omega
end Go.Proofs.YtflkiddmakeabaaGreatDoor

/- Walks: tree.Root; tree.hidden, with whatever function it is handed. -/
set_option linter.unusedVariables false
namespace Go.Proofs.YtflkiddmakeabaaGreatDoor
open Go.RowKit Zp
theorem SL.farO {w w' : World} {A : Option Addr} {xs : List Int} {g : Nat} (h : SL w A xs) (hg : w.grownBy w' (some g)) (hne : ∀ ad, A = some ad → xs ≠ [] → ad.block ≠ g) : SL w' A xs := by
  by_cases hx : xs = []
  · subst hx
    exact SL.nil
  · cases A with
    | none =>
      rcases Nat.eq_zero_or_pos xs.length with h0 | h0
      · exact absurd (List.length_eq_zero_iff.1 h0) hx
      · obtain ⟨ad, h1, _⟩ := h.at_ h0
        cases h1
    | some ad => exact h.far hg (hne ad rfl hx)
set_option maxRecDepth 100000 in
set_option maxHeartbeats 1000000 in
theorem hidden_any (K : Nat) (hK : ∀ (args : Array Value) (w : World), (callFunc K args).run Tryz.prog w = .ok (.enter K args) w) (caps : Array Value) (g0 : Nat) (A0 : Option Addr) (n c : Nat) (l : List Int) (hadg : ∀ ad, A0 = some ad → l ≠ [] → ad.block ≠ g0) (hml : l.length = n) (hn : n ≤ 65536) (hup : Asc l)
    (J : List (Nat × Nat) → World → Prop) (hJ : ∀ pre W W', J pre W → Below W.heap.size W W' → J pre W')
    (hY : ∀ (pre : List (Nat × Nat)) (a m : Nat) (W : World), J pre W → 1 ≤ m → a + m ≤ 65536 → Calls Tryz.prog K (#[.agg #[vi (a : Int), vi ((a : Int) + (m : Int))]] ++ caps) W fun e W' => (∃ r, e = .returned r) ∧ J (pre ++ [(a, m)]) W' ∧ W.grownBy W' (some g0)) :
    ∀ (m a : Nat), 1 ≤ m → a + m ≤ 65536 → ∀ (pre : List (Nat × Nat)) (w : World), J pre w → SL w A0 l → g0 < w.heap.size →
    Calls Tryz.prog 106 #[Gp a (a + m), .slice A0 n c, .func (.func K) #[] caps] w fun e w' => (∃ r, e = .returned r) ∧ J (pre ++ hidL l a m) w' ∧ w.grownBy w' (some g0) := by
  intro m
  induction m using Nat.strongRecOn with
  | ind m ih =>
    intro a h1 ha pre w hj hs hg0
    have hb1 : Below w.heap.size w (w.alloc (.cells #[vi a, vi ((a : Int) + m)] 142)) := (Below.refl _ _).alloc (Nat.le_refl _) _
    have hB := Blk.new w 142 #[vi a, vi ((a : Int) + m)]
    have HSH := Lib.hid (shows_any A0 n c l hml hn hup a m ha _ (hs.below hb1))
    have HB1 := Lib.hid hb1
    by_cases hsh : shownB l a m = true
    · have HS0 := Lib.hid hsh
      by_cases h2 : 2 ≤ m
      · have hlf := leftN_lt h2
        have HHL := Lib.hid (show hidL l a m = hidL l a (leftN m) ++ hidL l (a + leftN m) (m - leftN m) by rw [hidL, if_pos hsh, dif_pos h2])
        have HH := Lib.hid (fun w => halves_any a m h2 (by omega) w)
        obtain ⟨j, hj'⟩ : ∃ j, j = leftN m := ⟨_, rfl⟩
        rw [← hj'] at hlf HH HHL
        obtain ⟨hj1, hj2, hj3⟩ := hlf
        have I1 := Lib.hid (fun W (x : J pre W) y z => ih j hj1 a hj3 (by omega) pre W x y z)
        have I2 : Hid (∀ W, J (pre ++ hidL l a j) W → SL W A0 l → g0 < W.heap.size → Calls Tryz.prog 106 #[.agg #[vi ((a : Int) + j), vi ((a : Int) + m)], .slice A0 n c, .func (.func K) #[] caps] W fun e w' => (∃ r, e = .returned r) ∧ J ((pre ++ hidL l a j) ++ hidL l (a + j) (m - j)) w' ∧ W.grownBy w' (some g0)) := Lib.hid (fun W x y z => by
          have h := ih (m - j) (by omega) (a + j) (by omega) (by omega) (pre ++ hidL l a j) W x y z
          rw [show a + j + (m - j) = a + m by omega] at h
          simpa [Gp] using h)
        have t1 : decide (1 < (m : Int)) = true := by simp; omega
        have t2 : decide ((1 : Int) < (a : Int) + (m : Int) - (a : Int)) = true := by simp; omega
        have HJ := Lib.hid hj
        have HJB := Lib.hid hJ
        have HBB := Lib.hid hB
        have HSS := Lib.hid hs
        clear hsh hB hb1 ih hJ hY hup hml hj hj' hs
        go_enter Tryz.func106, Tryz.ntmps106
        go_wp2_with fail
        refine HSH.out.mono ?_
        rintro e w2 ⟨rfl, hb2⟩
        rw [HS0.out]
        have hB2 := Blk.below HBB.out hb2 HBB.out.lt
        have e0 := (hB2.cell 0).trans (show _ = some (vi a) from rfl)
        have e1 := (hB2.cell 1).trans (show _ = some (vi ((a : Int) + m)) from rfl)
        have hb02 := HB1.out.trans (hb2.mono HB1.out.size)
        have HB02 := Lib.hid hb02
        clear hB2 hb2 hb02
        go_wp2_with fail
        refine (HH.out w2).mono ?_
        rintro _ w3 ⟨rfl, hb3⟩
        have hb03 := HB02.out.trans (hb3.mono HB02.out.size)
        have HB03 := Lib.hid hb03
        clear e0 e1 hb3 hb03
        go_wp2_with fail
        obtain ⟨q, hq⟩ : ∃ q, q = w3.heap.size := ⟨_, rfl⟩
        obtain ⟨W4, hW4⟩ : ∃ W4, W4 = (w3.alloc (.cells #[vi a, vi ((a : Int) + j)] 142)).alloc (.cells #[vi ((a : Int) + j), vi ((a : Int) + m)] 142) := ⟨_, rfl⟩
        rw [← hW4]
        have hB7 := (Blk.new w3 142 #[vi a, vi ((a : Int) + j)]).alloc (.cells #[vi ((a : Int) + j), vi ((a : Int) + m)] 142)
        have hB8 := Blk.new (w3.alloc (.cells #[vi a, vi ((a : Int) + j)] 142)) 142 #[vi ((a : Int) + j), vi ((a : Int) + m)]
        rw [← hW4, show (w3.alloc (.cells #[vi a, vi ((a : Int) + j)] 142)).heap.size = q + 1 by simp [hq]] at hB8
        rw [← hW4, ← hq] at hB7
        have hb4 : Below w.heap.size w W4 := by rw [hW4]; exact (HB03.out.alloc HB03.out.size _).alloc (by have := HB03.out.size; simp; omega) _
        have hqs := HB03.out.size
        rw [← hq] at hqs ⊢
        clear hW4 hq
        refine (I1.out W4 (HJB.out _ _ _ HJ.out hb4) (HSS.out.below hb4) (by have := hb4.size; omega)).mono ?_
        rintro _ w5 ⟨⟨r5, rfl⟩, hj5, hg5⟩
        have hB8' := Blk.grown hB8 hg5 (by intro e; injection e with e; omega)
        have e0 := (hB8'.cell 0).trans (show _ = some (vi ((a : Int) + j)) from rfl)
        have e1 := (hB8'.cell 1).trans (show _ = some (vi ((a : Int) + m)) from rfl)
        have hs5 : SL w5 A0 l := (HSS.out.below hb4).farO hg5 hadg
        have HJ5 := Lib.hid hj5
        have HG5 := Lib.hid (grownBy_trans (grown_of_below hb4 (some g0)) hg5)
        have HX := Lib.hid (I2.out w5 hj5 hs5 (by have := HG5.out.size; omega))
        clear hB7 hB8 hB8' hj5 hg5 hs5 hb4 I1 I2 HJ
        go_wp2_with fail
        refine HX.out.mono ?_
        rintro _ w6 ⟨⟨r6, rfl⟩, hj6, hg6⟩
        have HFIN : Hid (J (pre ++ hidL l a m) w6 ∧ w.grownBy w6 (some g0)) := Lib.hid ⟨by rw [HHL.out, ← List.append_assoc]; exact hj6, grownBy_trans HG5.out hg6⟩
        clear hj6 hg6 HX e0 e1
        go_wp2
        go_end0
        exact ⟨⟨_, rfl⟩, HFIN.out.1, HFIN.out.2⟩
      · have e : m = 1 := by omega
        subst e
        have HHL := Lib.hid (show hidL l a 1 = [] by rw [hidL, if_pos hsh, dif_neg h2])
        have HJ := Lib.hid hj
        have HJB := Lib.hid hJ
        have HBB := Lib.hid hB
        clear hsh hB hb1 ih hJ hY hup hml hj
        go_enter Tryz.func106, Tryz.ntmps106
        go_wp2_with fail
        refine HSH.out.mono ?_
        rintro e w2 ⟨rfl, hb2⟩
        rw [HS0.out]
        have hB2 := Blk.below HBB.out hb2 HBB.out.lt
        have e0 := (hB2.cell 0).trans (show _ = some (vi a) from rfl)
        have e1 := (hB2.cell 1).trans (show _ = some (vi ((a : Int) + 1)) from rfl)
        have hb02 := HB1.out.trans (hb2.mono HB1.out.size)
        have HFIN : Hid (J (pre ++ hidL l a 1) w2 ∧ w.grownBy w2 (some g0)) := Lib.hid ⟨by rw [HHL.out, List.append_nil]; exact HJB.out _ _ _ HJ.out hb02, grown_of_below hb02 _⟩
        clear hB2 hb2 hb02
        go_wp2
        go_end0
        exact ⟨⟨_, rfl⟩, HFIN.out.1, HFIN.out.2⟩
    · have HS0 := Lib.hid (show shownB l a m = false by simpa using hsh)
      have HHL := Lib.hid (show hidL l a m = [(a, m)] by rw [hidL, if_neg hsh])
      have HYY := Lib.hid (fun W h => hY pre a m W h h1 ha)
      have HJ := Lib.hid hj
      have HJB := Lib.hid hJ
      have HBB := Lib.hid hB
      clear hsh hB hb1 ih hJ hY hup hml hj
      go_enter Tryz.func106, Tryz.ntmps106
      go_wp2_with fail
      refine HSH.out.mono ?_
      rintro e w2 ⟨rfl, hb2⟩
      rw [HS0.out]
      have hB2 := Blk.below HBB.out hb2 HBB.out.lt
      have e0 := (hB2.cell 0).trans (show _ = some (vi a) from rfl)
      have e1 := (hB2.cell 1).trans (show _ = some (vi ((a : Int) + m)) from rfl)
      have hb02 := HB1.out.trans (hb2.mono HB1.out.size)
      have HB02 := Lib.hid hb02
      clear hB2 hb2 hb02
      go_wp2_with fail
      refine (HYY.out w2 (HJB.out _ _ _ HJ.out HB02.out)).mono ?_
      rintro _ w3 ⟨⟨r3, rfl⟩, hj3, hg3⟩
      have HFIN : Hid (J (pre ++ hidL l a m) w3 ∧ w.grownBy w3 (some g0)) := Lib.hid ⟨by rw [HHL.out]; exact hj3, grownBy_trans (grown_of_below HB02.out _) hg3⟩
      clear hj3 hg3 e0 e1
      go_wp2
      exact bodyPost_ret (results_none rfl _ _ _) rfl ⟨⟨_, rfl⟩, HFIN.out.1, HFIN.out.2⟩
end Go.Proofs.YtflkiddmakeabaaGreatDoor

/- What was worked out of an Opening, in memory: a struct of two maps keyed by groups. -/
set_option linter.unusedVariables false
namespace Go.Proofs.YtflkiddmakeabaaGreatDoor
open Go.RowKit Zp Go.MapKept Go.ChangeMaps
/-- nothing that was there is turned but two blocks -/
structure GrowM (w w' : World) (c m : Nat) : Prop where
  os : w'.os = w.os
  tape : w'.tape = w.tape
  output : w'.output = w.output
  size : w.heap.size ≤ w'.heap.size
  block : ∀ x, x < w.heap.size → x ≠ c → x ≠ m → w'.heap[x]? = w.heap[x]?
section
variable {a b d : World} {c m B : Nat}
theorem GrowM.refl (w : World) (c m : Nat) : GrowM w w c m := ⟨rfl, rfl, rfl, Nat.le_refl _, fun _ _ _ _ => rfl⟩
theorem GrowM.trans (h : GrowM a b c m) (g : GrowM b d c m) : GrowM a d c m :=
  ⟨g.os.trans h.os, g.tape.trans h.tape, g.output.trans h.output, Nat.le_trans h.size g.size, fun x h1 h2 h3 => (g.block x (Nat.lt_of_lt_of_le h1 h.size) h2 h3).trans (h.block x h1 h2 h3)⟩
theorem GrowM.one (h : a.grownBy b (some c)) : GrowM a b c m := ⟨h.os, h.tape, h.output, h.size, fun x h1 h2 _ => h.block x h1 (fun e => h2 (by injection e))⟩
theorem GrowM.two (h : a.grownBy b (some m)) : GrowM a b c m := ⟨h.os, h.tape, h.output, h.size, fun x h1 _ h3 => h.block x h1 (fun e => h3 (by injection e))⟩
theorem GrowM.of (h : Below a.heap.size a b) : GrowM a b c m := ⟨h.os, h.tape, h.output, h.size, fun x h1 _ _ => h.block x h1⟩
theorem GrowM.below (h : GrowM a b c m) (hB : B ≤ a.heap.size) (hc : B ≤ c) (hm : B ≤ m) : Below B a b := ⟨h.os, h.tape, h.output, h.size, fun x hx => h.block x (by omega) (by omega) (by omega)⟩
theorem GrowM.drewN (h : GrowM a b c m) (n : Nat) : GrowM a (b.drewN n) c m := ⟨h.os, h.tape, h.output, h.size, h.block⟩
end
/-- a block that is a map -/
def IsMap (w : World) (b : Nat) : Prop := ∃ es clock, w.heap[b]? = some (.map es clock)
theorem IsMap.lt {w : World} {b : Nat} (h : IsMap w b) : b < w.heap.size := by
  obtain ⟨es, clock, hb⟩ := h
  exact (Array.getElem?_eq_some_iff.1 hb).1
theorem IsMap.ne_blk {w : World} {b g : Nat} {t : TypeId} {cs : Array Value} (h : IsMap w b) (hg : Blk w g t cs) : g ≠ b := by
  rintro rfl
  obtain ⟨es, clock, hb⟩ := h
  unfold Blk at hg
  rw [hb] at hg
  injection hg with hg
  cases hg
theorem IsMap.ne_cell {w : World} {b : Nat} {p : Addr} {v : Value} (h : IsMap w b) (hg : w.cell? p = some v) : p.block ≠ b := by
  rintro rfl
  obtain ⟨es, clock, hb⟩ := h
  simp [World.cell?, hb] at hg
theorem MapIs.isMap {P : Program} {k : TypeId} {w : World} {b : Nat} {f : Value → Option Value} (h : MapIs P k w b f) : IsMap w b := by
  obtain ⟨es, clock, hb, _⟩ := h
  exact ⟨es, clock, hb⟩
theorem EntIs.isMap {P : Program} {k : TypeId} {w : World} {b st : Nat} {key : Value} {f : Value → Option Value} (h : EntIs P k w b key st f) : IsMap w b := by
  obtain ⟨es, clock, hb, _⟩ := h
  exact ⟨es, clock, hb⟩
theorem EntIs.kept {P : Program} {k : TypeId} {w w' : World} {b st : Nat} {key : Value} {f : Value → Option Value} {row : Option Nat} (h : EntIs P k w b key st f) (hg : w.grownBy w' row) (hne : some b ≠ row) : EntIs P k w' b key st f := by
  have hlt := h.isMap.lt
  obtain ⟨es, clock, hb, r⟩ := h
  exact ⟨es, clock, (hg.block b hlt hne).trans hb, r⟩
section
variable {w w' : World} {c m : Nat}
theorem GrowM.cell (h : GrowM w w' c m) (hc : IsMap w c) (hm : IsMap w m) {p : Addr} {v : Value} (hp : w.cell? p = some v) : w'.cell? p = some v := by
  rw [← hp]
  exact World.cell?_of_block (h.block p.block (block_lt_of_cell hp) (hc.ne_cell hp) (hm.ne_cell hp))
theorem GrowM.blk (h : GrowM w w' c m) (hc : IsMap w c) (hm : IsMap w m) {g : Nat} {t : TypeId} {cs : Array Value} (hg : Blk w g t cs) : Blk w' g t cs :=
  (h.block g hg.lt (hc.ne_blk hg) (hm.ne_blk hg)).trans hg
theorem SL.growM {A : Option Addr} {xs : List Int} (hs : SL w A xs) (h : GrowM w w' c m) (hc : IsMap w c) (hm : IsMap w m) : SL w' A xs := by
  refine ⟨hs.1, fun hn => ?_⟩
  obtain ⟨ad, e, hb, hcell⟩ := hs.2 hn
  exact ⟨ad, e, Nat.lt_of_lt_of_le hb h.size, fun j u hu => h.cell hc hm (hcell j u hu)⟩
theorem TB.growM {A : Option Addr} {ts : List (List Int)} (ht : TB w A ts) (h : GrowM w w' c m) (hc : IsMap w c) (hm : IsMap w m) : TB w' A ts := fun k hk => by
  obtain ⟨ad, A1, n1, c1, h1, h2, h3, h4, h5, h6, h7⟩ := ht k hk
  exact ⟨ad, A1, n1, c1, h1, Nat.lt_of_lt_of_le h2 h.size, h.cell hc hm h3, h4, h5, h6.growM h hc hm, h7⟩
theorem Spg.growM {p s b k z : Nat} [NeZero p] {oo : Nat → Nat → Fin p} (G : Spg w s b k z oo) (h : GrowM w w' c m) (hc : s < c) (hm : s < m) : Spg w' s b k z oo :=
  G.below (h.below (B := s + 1) (block_lt_of_cell G.c0) hc hm) (Nat.lt_succ_self _)
theorem Fld.growM {S b p : Nat} [NeZero p] (F : Fld w S b p) (h : GrowM w w' c m) (hc : S ≤ c) (hm : S ≤ m) : Fld w' S b p := F.below (h.below F.le hc hm) (Nat.le_refl _)
end
/-- a digest as a value -/
def dgV (d : List Int) : Value := .agg (d.map vi).toArray
/-- what a map of lists has of a group -/
def LIs (w : World) : Option Value → Option (List Int) → Prop
  | none, none => True
  | some v, some l => ∃ A n c, v = .slice A n c ∧ l.length = n ∧ 0 < n ∧ n ≤ 281474976710656 ∧ SL w A l ∧ ∀ x ∈ l, I64 x
  | _, _ => False
def DMap (w : World) (b : Nat) (f : GF) : Prop := ∃ F, MapIs Tryz.prog 142 w b F ∧ ∀ a m, 1 ≤ m → a + m ≤ 65536 → F (Gp a (a + m)) = (f a m).map dgV
def LMap (w : World) (b : Nat) (f : GF) : Prop := ∃ F, MapIs Tryz.prog 142 w b F ∧ ∀ a m, 1 ≤ m → a + m ≤ 65536 → LIs w (F (Gp a (a + m))) (f a m)
/-- what was worked out -/
structure Way (w : World) (y bD bL : Nat) (fD fL : GF) : Prop where
  obj : Blk w y 210 #[.map (some bD), .map (some bL)]
  dig : DMap w bD fD
  lis : LMap w bL fL
  ne : bD ≠ bL
theorem LIs.mono {w w' : World} {o : Option Value} {l : Option (List Int)} (h : LIs w o l) (hs : ∀ A xs, SL w A xs → SL w' A xs) : LIs w' o l := by
  cases o <;> cases l
  · trivial
  · exact h
  · exact h
  · obtain ⟨A, n, c, h1, h2, h3, h4, h5, h6⟩ := h
    exact ⟨A, n, c, h1, h2, h3, h4, hs _ _ h5, h6⟩
section
variable {w w' : World} {y bD bL : Nat} {fD fL : GF}
theorem DMap.isMap (h : DMap w bD fD) : IsMap w bD := h.choose_spec.1.isMap
theorem LMap.isMap (h : LMap w bL fL) : IsMap w bL := h.choose_spec.1.isMap
theorem Way.mapD (h : Way w y bD bL fD fL) : IsMap w bD := h.dig.isMap
theorem Way.mapL (h : Way w y bD bL fD fL) : IsMap w bL := h.lis.isMap
theorem DMap.same (h : DMap w bD fD) (hb : w'.heap[bD]? = w.heap[bD]?) : DMap w' bD fD := by
  obtain ⟨F, h1, h2⟩ := h
  exact ⟨F, h1.same hb, h2⟩
theorem LMap.same (h : LMap w bL fL) (hb : w'.heap[bL]? = w.heap[bL]?) (hs : ∀ A xs, SL w A xs → SL w' A xs) : LMap w' bL fL := by
  obtain ⟨F, h1, h2⟩ := h
  exact ⟨F, h1.same hb, fun a m h3 h4 => (h2 a m h3 h4).mono hs⟩
theorem Way.below (h : Way w y bD bL fD fL) (hb : Below w.heap.size w w') : Way w' y bD bL fD fL :=
  ⟨Blk.below h.obj hb h.obj.lt, h.dig.same (hb.block _ h.mapD.lt), h.lis.same (hb.block _ h.mapL.lt) (fun A xs hs => hs.below hb), h.ne⟩
/-- m[g] of the digests -/
theorem DMap.look (h : DMap w bD fD) {a m : Nat} (h1 : 1 ≤ m) (h2 : a + m ≤ 65536) {d : List Int} (hd : fD a m = some d) :
    (Instr.lookup 207 (.map (some bD)) (.agg #[vi (a : Int), vi ((a + m : Nat) : Int)]) false).run Tryz.prog w = .ok (dgV d) w := by
  obtain ⟨F, h3, h4⟩ := h
  obtain ⟨l, hl⟩ := key_gp (a := a) (c := a + m) (by omega)
  have := h3.look keyed_group Tryz.underlying207 (z := .agg #[vi 0, vi 0, vi 0, vi 0]) (by kernel_rfl) hl
  rw [h4 a m h1 h2, hd] at this
  exact this
end
end Go.Proofs.YtflkiddmakeabaaGreatDoor

/- A region that draws its order, walked by hand: what yields wherever S holds is taken first. Of no program. -/
set_option linter.unusedVariables false
namespace Go.Proofs.YtflkiddmakeabaaGreatDoor
open Go.RowKit
theorem wpAnyH_take_at {P : Program} {ops : Array Oper} {Q : Exit → Act → World → Prop} {md : Region.Mode} {S : World → Prop} {i d : Nat} {oi : Oper} {v : Value} {fuel : Nat} {listed : Array Bool} {a : Act} {w : World} (hi : ops[i]? = some oi) (hd : oi.dst = some d)
    (hs : Region.noSelect ops = true) (hf : Region.free md ops listed i = true) (hr : (Region.ready md ops listed).contains i = true)
    (hQ : ∀ c a w, Q (.panic c) (a.put (some d) v) w → Q (.panic c) a w) (hy : YieldsIf P ops S oi v a) (hS : S w)
    (h : wpAnyH P md ops Q S fuel (listed.setIfInBounds i true) (a.put (some d) v) w) : wpAnyH P md ops Q S (fuel + 1) listed a w := by
  rw [← hd] at h hQ
  exact wpAnyH_take hi hs hf hr hQ hy hS h
end Go.Proofs.YtflkiddmakeabaaGreatDoor

/- The walk of tree.way.work: what an Opening shows is worked out, group by group. -/
set_option linter.unusedVariables false
namespace Go.Proofs.YtflkiddmakeabaaGreatDoor
open Go.RowKit Zp Go.MapKept Go.ChangeMaps
/-- what work hands back: the nodes that are left; the maps hold what was worked out -/
def WorkIs (y bD bL : Nat) (r : (GF × GF) × List (List Int)) (w : World) (e : Ending) (w' : World) : Prop :=
  ∃ A' n' c', e = .returned (.slice A' n' c') ∧ r.2.length = n' ∧ n' ≤ c' ∧ TB w' A' r.2 ∧ Way w' y bD bL r.1.1 r.1.2 ∧ GrowM w w' bD bL
theorem TB.tail {w : World} {ad : Addr} {l : List Int} {ls : List (List Int)} (h : TB w (some ad) (l :: ls)) : TB w (some (ad.add 1)) ls := fun k hk => by
  obtain ⟨ad', A, n, c, e, h2, h3, h4⟩ := h (k + 1) (by simpa using hk)
  injection e with e
  subst e
  refine ⟨ad.add 1, A, n, c, rfl, ?_, ?_, h4⟩
  · rw [add_of_add, Nat.add_comm 1 k]; exact h2
  · rw [add_of_add, Nat.add_comm 1 k]; exact h3
theorem TB.none_ (w : World) (A : Option Addr) : TB w A [] := fun k hk => absurd hk (by simp)
theorem DMap.put {w' : World} {bD a m : Nat} {fD : GF} {F F' : Value → Option Value} {d : List Int} (h : ∀ a m, 1 ≤ m → a + m ≤ 65536 → F (Gp a (a + m)) = (fD a m).map dgV)
    (hm : MapIs Tryz.prog 142 w' bD F') (hp : Put F F' (Gp a (a + m)) (dgV d)) : DMap w' bD (updF fD a m d) := by
  refine ⟨F', hm, fun a' m' h1 h2 => ?_⟩
  by_cases e : a' = a ∧ m' = m
  · obtain ⟨rfl, rfl⟩ := e
    rw [updF_same, hp.1]; rfl
  · rw [updF_other _ _ e, hp.2 _ (fun he => e ?_), h a' m' h1 h2]
    have := gp_inj he
    omega
theorem Way.putD {w : World} {y bD bL a m : Nat} {fD fL : GF} (h : Way w y bD bL fD fL) (h1 : 1 ≤ m) (h2 : a + m ≤ 65536) (d : List Int) :
    ∃ w', (Instr.mapUpdate 207 (.map (some bD)) (.agg #[vi (a : Int), vi ((a : Int) + (m : Int))]) (dgV d)).run Tryz.prog w = .ok () w' ∧ Way w' y bD bL (updF fD a m d) fL ∧ w.grownBy w' (some bD) := by
  obtain ⟨F, h3, h4⟩ := h.dig
  obtain ⟨kl, hkl⟩ := key_gp (a := a) (c := a + m) (by omega)
  have e : Gp a (a + m) = .agg #[vi (a : Int), vi ((a : Int) + (m : Int))] := by simp [Gp]
  obtain ⟨w', F', hrun, hm, hp, hg⟩ := h3.update keyed_group Tryz.underlying207 hkl (val := dgV d)
  refine ⟨w', by rw [← e]; exact hrun, ?_, hg⟩
  have hgm : GrowM w w' bD bL := GrowM.one hg
  exact ⟨hgm.blk h.mapD h.mapL h.obj, DMap.put h4 hm hp, h.lis.same (hg.block _ h.mapL.lt (fun e => by injection e with e; exact h.ne e.symm)) (fun A xs hs => hs.growM hgm h.mapD h.mapL), h.ne⟩
theorem four_of {d : List Int} (h : d.length = 4) : ∃ x0 x1 x2 x3, d = [x0, x1, x2, x3] := by
  match d, h with
  | [x0, x1, x2, x3], _ => exact ⟨x0, x1, x2, x3, rfl⟩
set_option maxRecDepth 100000 in
set_option maxHeartbeats 1000000 in
theorem work_no (p S b s k z y bD bL : Nat) [NeZero p] (oo : Nat → Nat → Fin p) (A0 : Option Addr) (n0 c0 : Nat) (l : List Int) (hl : l.length = n0) (hn0 : n0 ≤ 65536) (hup : Asc l) (AR : Option Addr) (nR cR : Nat) (v3 : Value)
    (a m : Nat) (h1 : 1 ≤ m) (ha : a + m ≤ 65536) (hsh : shownB l a m = false) (x : List Int) (ns : List (List Int)) (An : Option Addr) (nn cn : Nat) (hnn : (x :: ns).length = nn) (hcn : nn ≤ cn) (hx4 : x.length = 4) (fD fL : GF)
    (w : World) (F : Fld w S b p) (G : Spg w s b k z oo) (Y : Way w y bD bL fD fL) (hp : SL w A0 l) (hT : TB w An (x :: ns)) :
    Calls Tryz.prog 170 #[.pointer (some ⟨y, 0, none⟩), .pointer (some ⟨s, 0, none⟩), .agg #[.slice A0 n0 c0, .slice AR nR cR, v3], Gp a (a + m), .slice An nn cn] w
      (WorkIs y bD bL ((updF fD a m (fvs (els p x)), fL), ns) w) := by
  have hsl := block_lt_of_cell G.c0
  have hpm := F.max
  obtain ⟨ad, A1, n1, c1, rfl, hb1, hc1, hl1, hn1, hs1, hi1⟩ := hT 0 (by simp)
  have hTt := hT.tail
  have ead : ad.add 0 = ad := by simp [Addr.add]
  rw [ead] at hb1 hc1
  change x.length = n1 at hl1
  change SL w A1 x at hs1
  have hi1' : ∀ j ∈ x, I64 j := hi1
  obtain ⟨W, hW⟩ : ∃ W, W = (w.alloc (.cells #[.slice A0 n0 c0, .slice AR nR cR, v3] 70)).alloc (.cells #[vi a, vi ((a : Int) + (m : Int))] 142) := ⟨_, rfl⟩
  have hb0 : Below w.heap.size w W := by rw [hW]; exact ((Below.refl _ _).alloc (Nat.le_refl _) _).alloc (by simp) _
  have hB7 := (Blk.new w 70 #[.slice A0 n0 c0, .slice AR nR cR, v3]).alloc (.cells #[vi a, vi ((a : Int) + (m : Int))] 142)
  have hB8 := Blk.new (w.alloc (.cells #[.slice A0 n0 c0, .slice AR nR cR, v3] 70)) 142 #[vi a, vi ((a : Int) + (m : Int))]
  rw [← hW] at hB7 hB8
  rw [show (w.alloc (.cells #[.slice A0 n0 c0, .slice AR nR cR, v3] 70)).heap.size = w.heap.size + 1 by simp] at hB8
  have d0 := (hB7.cell 0).trans (show _ = some (.slice A0 n0 c0) from rfl)
  have HSH := Lib.hid (shows_any A0 n0 c0 l hl hn0 hup a m ha W (hp.below hb0))
  rw [hsh] at HSH
  have HB0 := Lib.hid hb0
  have HB8 := Lib.hid hB8
  have HWE := Lib.hid hW
  have HEL := Lib.hid (fun W' (hs : SL W' A1 x) hc => elements_any p b hpm A1 n1 c1 x hl1 hi1' (by omega) W' hs hc)
  have HF := Lib.hid F
  have HG := Lib.hid G
  have HY := Lib.hid Y
  have HSF := Lib.hid (fun W' (G : Spg W' s b k z oo) => sfield_s s b k z oo W' G)
  have HS1 := Lib.hid hs1
  have HC1 := Lib.hid hc1
  have HTT := Lib.hid hTt
  have HLN := Lib.hid hnn
  have hd4 : (fvs (els p x)).length = 4 := by simp [fvs, els, hx4]
  obtain ⟨d, hd⟩ : ∃ d, d = fvs (els p x) := ⟨_, rfl⟩
  rw [← hd] at hd4 HEL ⊢
  obtain ⟨x0, x1, x2, x3, hd'⟩ := four_of hd4
  subst hd'
  have nn1 : (1 : Int) ≤ (nn : Int) := by simp at hnn; omega
  have nn0 : (0 : Int) < (nn : Int) := by omega
  have nnN : 0 < nn := by omega
  have hta := fun (W : World) (g c : Nat) => run_arrayAt (P := Tryz.prog) (w := W) 212 3 4 (some ⟨g, 0, none⟩) 4 c Tryz.underlying212 (Nat.le_refl _)
  have nn2 : (nn : Int) ≤ (cn : Int) := by omega
  rw [hW] at d0 HSH
  clear hW hb0 hB7 hB8 hsh Y F G hp hT hTt hs1 hc1 hi1 hi1' hl1 hnn hd hd4 hx4 hl hup ead
  go_enter Tryz.func170, Tryz.ntmps170
  go_wp2_with fail
  refine HSH.out.mono ?_
  rintro _ w3 ⟨rfl, hb3⟩
  go_wp2_with fail
  rw [← HWE.out] at hb3
  have hb03 : Below w.heap.size w w3 := HB0.out.trans (hb3.mono HB0.out.size)
  have HB03 := Lib.hid hb03
  have KX : Hid (∀ W', Below w3.heap.size w3 W' → Fld W' S b p ∧ Spg W' s b k z oo ∧ SL W' A1 x ∧ Way W' y bD bL fD fL ∧ Below w.heap.size w W') := Lib.hid fun W' hb => by
    have hb' := HB03.out.trans (hb.mono HB03.out.size)
    exact ⟨HF.out.below hb' HF.out.le, HG.out.below hb' hsl, HS1.out.below hb', HY.out.below hb', hb'⟩
  have hB8' := Blk.below HB8.out hb3 HB8.out.lt
  have KS : Hid (∀ W', Below w3.heap.size w3 W' → W'.cell? ⟨y, 0, none⟩ = some (.map (some bD)) ∧ W'.cell? ⟨w.heap.size + 1, 0, none⟩ = some (vi a) ∧ W'.cell? ⟨w.heap.size + 1, 1, none⟩ = some (vi ((a : Int) + m)) ∧ W'.cell? ad = some (.slice A1 n1 c1)) := Lib.hid fun W' hb => by
    have hq := Blk.below hB8' hb hB8'.lt
    have hb' := HB03.out.trans (hb.mono HB03.out.size)
    exact ⟨((HY.out.below hb').obj.cell 0).trans rfl, (hq.cell 0).trans rfl, (hq.cell 1).trans rfl, (hb'.cell (p := ad) hb1).trans HC1.out⟩
  have hb33 : Below w3.heap.size w3 w3.drew := below_drewN (Below.refl _ _) 1
  clear hB8' hb3 hb03
  refine wp_region_held_drew (S := fun w' => w'.cell? ⟨y, 0, none⟩ = some (.map (some bD)) ∧ w'.cell? ⟨w.heap.size + 1, 0, none⟩ = some (vi a) ∧ w'.cell? ⟨w.heap.size + 1, 1, none⟩ = some (vi ((a : Int) + m)) ∧ w'.cell? ad = some (.slice A1 n1 c1)) (by kernel_rfl) (KS.out _ hb33) (fun hHeld => ?_)
  refine wpAnyH_take_at (i := 0) rfl rfl (by kernel_rfl) (by kernel_rfl) (by kernel_rfl) (fun _ _ _ h => h) (Or.inl ⟨by rfl, by (intro w hSw; (try dsimp only at hSw); go_simp; try with_reducible rfl)⟩) (by assumption) ?_
  (try simp only [Act.put, List.setIfInBounds_toArray, List.set_cons_zero, List.set_cons_succ])
  refine wpAnyH_take_at (i := 1) rfl rfl (by kernel_rfl) (by kernel_rfl) (by kernel_rfl) (fun _ _ _ h => h) (Or.inl ⟨by rfl, by (intro w hSw; (try dsimp only at hSw); go_simp; try with_reducible rfl)⟩) (by assumption) ?_
  (try simp only [Act.put, List.setIfInBounds_toArray, List.set_cons_zero, List.set_cons_succ])
  refine wpAnyH_take_at (i := 2) rfl rfl (by kernel_rfl) (by kernel_rfl) (by kernel_rfl) (fun _ _ _ h => h) (Or.inl ⟨by rfl, by (intro w hSw; (try dsimp only at hSw); go_simp; try with_reducible rfl)⟩) (by assumption) ?_
  (try simp only [Act.put, List.setIfInBounds_toArray, List.set_cons_zero, List.set_cons_succ])
  refine wpAnyH_take_at (i := 3) rfl rfl (by kernel_rfl) (by kernel_rfl) (by kernel_rfl) (fun _ _ _ h => h) (Or.inl ⟨by rfl, by (intro w hSw; (try dsimp only at hSw); go_simp; try with_reducible rfl)⟩) (by assumption) ?_
  (try simp only [Act.put, List.setIfInBounds_toArray, List.set_cons_zero, List.set_cons_succ])
  refine wpAnyH_take_at (i := 4) rfl rfl (by kernel_rfl) (by kernel_rfl) (by kernel_rfl) (fun _ _ _ h => h) (Or.inl ⟨by rfl, by (intro w hSw; (try dsimp only at hSw); go_simp; try with_reducible rfl)⟩) (by assumption) ?_
  (try simp only [Act.put, List.setIfInBounds_toArray, List.set_cons_zero, List.set_cons_succ])
  refine wpAnyH_take_at (i := 5) rfl rfl (by kernel_rfl) (by kernel_rfl) (by kernel_rfl) (fun _ _ _ h => h) (Or.inl ⟨by rfl, by (intro w hSw; (try dsimp only at hSw); go_simp; try with_reducible rfl)⟩) (by assumption) ?_
  (try simp only [Act.put, List.setIfInBounds_toArray, List.set_cons_zero, List.set_cons_succ])
  refine wpAnyH_take_at (i := 7) rfl rfl (by kernel_rfl) (by kernel_rfl) (by kernel_rfl) (fun _ _ _ h => h) (Or.inl ⟨by rfl, by (intro w hSw; (try dsimp only at hSw); go_simp; try with_reducible rfl)⟩) (by assumption) ?_
  (try simp only [Act.put, List.setIfInBounds_toArray, List.set_cons_zero, List.set_cons_succ])
  refine wpAnyH_take_at (i := 8) rfl rfl (by kernel_rfl) (by kernel_rfl) (by kernel_rfl) (fun _ _ _ h => h) (Or.inl ⟨by rfl, by (intro w hSw; (try dsimp only at hSw); go_simp; try with_reducible rfl)⟩) (by assumption) ?_
  (try simp only [Act.put, List.setIfInBounds_toArray, List.set_cons_zero, List.set_cons_succ])
  refine wpAnyH_take_at (i := 9) rfl rfl (by kernel_rfl) (by kernel_rfl) (by kernel_rfl) (fun _ _ _ h => h) (Or.inl ⟨by rfl, by (intro w hSw; (try dsimp only at hSw); go_simp; try with_reducible rfl)⟩) (by assumption) ?_
  (try simp only [Act.put, List.setIfInBounds_toArray, List.set_cons_zero, List.set_cons_succ])
  refine wpAnyH_ready (rs := [6]) (by kernel_rfl) (by simp) ?_
  refine AllReadyH.cons rfl (fun K hK => ?_) AllReadyH.nil
  go_simp
  refine (HSF.out _ (KX.out _ hb33).2.1).mono ?_
  rintro _ _ ⟨rfl, rfl⟩
  refine hK.out _ _ (by (first | exact KS.out _ (by assumption) | (simp only [Act.put]; exact KS.out _ (by assumption)))) (fun hHeld => ?_)
  clear hK K
  (try simp only [Act.put, List.setIfInBounds_toArray, List.set_cons_zero, List.set_cons_succ])
  refine wpAnyH_ready (rs := [10]) (by kernel_rfl) (by simp) ?_
  refine AllReadyH.cons rfl (fun K hK => ?_) AllReadyH.nil
  go_simp
  refine (HEL.out _ (KX.out _ hb33).2.2.1 (KX.out _ hb33).1.c0).mono ?_
  rintro _ w4 ⟨v4, rfl, ho4, hb4⟩
  obtain ⟨g4, c4, rfl, hg41, hg42⟩ := ho4.block (by simp)
  have q0 := ho4.at_ rfl 0 (by simp)
  have q1 := ho4.at_ rfl 1 (by simp)
  have q2 := ho4.at_ rfl 2 (by simp)
  have q3 := ho4.at_ rfl 3 (by simp)
  simp only [List.length_cons, List.length_nil, List.getElem_cons_zero, List.getElem_cons_succ] at q0 q1 q2 q3 ⊢
  have hb34 := hb33.trans (hb4.mono hb33.size)
  obtain ⟨w5, hrun, hY5, hg5⟩ := (KX.out _ hb34).2.2.2.1.putD h1 ha [x0, x1, x2, x3]
  have HY5 := Lib.hid hY5
  have HG5 := Lib.hid hg5
  change (Instr.mapUpdate _ _ _ (.agg #[vi x0, vi x1, vi x2, vi x3])).run _ _ = _ at hrun
  clear hY5 hg5 ho4
  refine hK.out _ _ (by (first | exact KS.out _ (by assumption) | (simp only [Act.put]; exact KS.out _ (by assumption)))) (fun hHeld => ?_)
  clear hK K
  (try simp only [Act.put, List.setIfInBounds_toArray, List.set_cons_zero, List.set_cons_succ])
  refine wpAnyH_ready (rs := [11]) (by kernel_rfl) (by simp) ?_
  refine AllReadyH.cons rfl (fun K hK => ?_) AllReadyH.nil
  go_simp
  refine hK.out _ _ (by (first | exact KS.out _ (by assumption) | (simp only [Act.put]; exact KS.out _ (by assumption)))) (fun hHeld => ?_)
  clear hK K
  (try simp only [Act.put, List.setIfInBounds_toArray, List.set_cons_zero, List.set_cons_succ])
  refine wpAnyH_ready (rs := [12]) (by kernel_rfl) (by simp) ?_
  refine AllReadyH.cons rfl (fun K hK => ?_) AllReadyH.nil
  go_simp
  refine hK.out _ _ (by (first | exact KS.out _ (by assumption) | (simp only [Act.put]; exact KS.out _ (by assumption)))) (fun hHeld => ?_)
  clear hK K
  (try simp only [Act.put, List.setIfInBounds_toArray, List.set_cons_zero, List.set_cons_succ])
  refine wpAnyH_ready (rs := [13]) (by kernel_rfl) (by simp) ?_
  refine AllReadyH.cons rfl (fun K hK => ?_) AllReadyH.nil
  go_simp
  refine hK.out _ _ ?_ (fun hHeld => ?_)
  · have hb := KS.out _ hb34
    have hm := (KX.out _ hb34).2.2.2.1
    have hg : GrowM w4 w5 bD bL := GrowM.one HG5.out
    exact ⟨hg.cell hm.mapD hm.mapL hb.1, hg.cell hm.mapD hm.mapL hb.2.1, hg.cell hm.mapD hm.mapL hb.2.2.1, hg.cell hm.mapD hm.mapL hb.2.2.2⟩
  clear hK K
  (try simp only [Act.put, List.setIfInBounds_toArray, List.set_cons_zero, List.set_cons_succ])
  refine wpAnyH_done (by kernel_rfl) ?_ _
  clear hHeld
  have hm := (KX.out _ hb34).2.2.2.1
  have hgm : GrowM w w5 bD bL := (GrowM.of (KX.out _ hb34).2.2.2.2).trans (GrowM.one HG5.out)
  have HFIN : Hid (Way w5 y bD bL (updF fD a m [x0, x1, x2, x3]) fL ∧ GrowM w w5 bD bL ∧ TB w5 (some (ad.add 1)) ns) := Lib.hid ⟨HY5.out, hgm, HTT.out.growM hgm HY.out.mapD HY.out.mapL⟩
  clear hm hgm q0 q1 q2 q3 hrun KX KS HSH HEL HSF hta
  have HNS : Hid (ns.length = nn - 1) := Lib.hid (by have := HLN.out; simp at this; omega)
  by_cases hc1 : cn = 1
  · have hn0 : ns = [] := List.eq_nil_of_length_eq_zero (by have := HLN.out; simp at this; omega)
    subst hc1
    have e : nn = 1 := by omega
    subst e
    go_wp2
    go_ret
    exact ⟨_, _, _, rfl, HNS.out, by omega, by rw [hn0]; exact TB.none_ _ _, HFIN.out.1, HFIN.out.2.1⟩
  · go_wp2
    go_ret
    exact ⟨_, _, _, rfl, HNS.out, by omega, HFIN.out.2.2, HFIN.out.1, HFIN.out.2.1⟩
end Go.Proofs.YtflkiddmakeabaaGreatDoor

/- tree.way.work at a group that is shown: what is laid into both maps; a group of one row. -/
set_option linter.unusedVariables false
namespace Go.Proofs.YtflkiddmakeabaaGreatDoor
open Go.RowKit Zp Go.MapKept Go.ChangeMaps
theorem LMap.put {w w' : World} {bL a m : Nat} {fL : GF} {F F' : Value → Option Value} {l : List Int} {v : Value} (h : ∀ a m, 1 ≤ m → a + m ≤ 65536 → LIs w (F (Gp a (a + m))) (fL a m)) (hs : ∀ A xs, SL w A xs → SL w' A xs)
    (hm : MapIs Tryz.prog 142 w' bL F') (hp : Put F F' (Gp a (a + m)) v) (hv : LIs w' (some v) (some l)) : LMap w' bL (updF fL a m l) := by
  refine ⟨F', hm, fun a' m' h1 h2 => ?_⟩
  by_cases e : a' = a ∧ m' = m
  · obtain ⟨rfl, rfl⟩ := e
    rw [updF_same, hp.1]; exact hv
  · rw [updF_other _ _ e, hp.2 _ (fun he => e ?_)]
    · exact (h a' m' h1 h2).mono hs
    · have := gp_inj he
      omega
/-- what the four steps of 'w.lists[g], w.digests[g] = l, d' leave -/
structure PutBoth (w : World) (y bD bL a m : Nat) (fD fL : GF) (d l : List Int) (v : Value) (v0 v1 : Value) (s0 s1 : Nat) (w1 w2 w3 w4 : World) : Prop where
  r1 : (Instr.mapEntry 208 (.map (some bL)) (.agg #[vi (a : Int), vi ((a : Int) + (m : Int))])).run Tryz.prog w = .ok (.tuple #[v0, vi (s0 : Int)]) w1
  r2 : (Instr.entryStore 208 (.map (some bL)) (vi (s0 : Int)) v).run Tryz.prog w1 = .ok () w2
  r3 : (Instr.mapEntry 207 (.map (some bD)) (.agg #[vi (a : Int), vi ((a : Int) + (m : Int))])).run Tryz.prog w2 = .ok (.tuple #[v1, vi (s1 : Int)]) w3
  r4 : (Instr.entryStore 207 (.map (some bD)) (vi (s1 : Int)) (dgV d)).run Tryz.prog w3 = .ok () w4
  way : Way w4 y bD bL (updF fD a m d) (updF fL a m l)
  g1 : GrowM w w1 bD bL
  g2 : GrowM w w2 bD bL
  g3 : GrowM w w3 bD bL
  g4 : GrowM w w4 bD bL
theorem Way.putBoth {w : World} {y bD bL a m : Nat} {fD fL : GF} (h : Way w y bD bL fD fL) (h1 : 1 ≤ m) (h2 : a + m ≤ 65536) (d l : List Int) (v : Value) (hv : LIs w (some v) (some l)) :
    ∃ v0 v1 s0 s1 w1 w2 w3 w4, PutBoth w y bD bL a m fD fL d l v v0 v1 s0 s1 w1 w2 w3 w4 := by
  have hmD := h.mapD
  have hmL := h.mapL
  obtain ⟨FL, l1, l2⟩ := h.lis
  obtain ⟨FD, d1, d2⟩ := h.dig
  obtain ⟨kl, hkl⟩ := key_gp (a := a) (c := a + m) (by omega)
  have e : Gp a (a + m) = .agg #[vi (a : Int), vi ((a : Int) + (m : Int))] := by simp [Gp]
  obtain ⟨v0, s0, w1, e1, n1, g1⟩ := l1.entry keyed_group Tryz.underlying208 (z := .slice none 0 0) (by kernel_rfl) hkl
  obtain ⟨w2, FL', e2, m2, p2, g2⟩ := n1.store 208 v
  have G1 : GrowM w w1 bD bL := GrowM.two g1
  have G2 : GrowM w w2 bD bL := G1.trans (GrowM.two g2)
  have neDL : some bD ≠ some bL := fun e' => h.ne (Option.some.inj e')
  have neLD : some bL ≠ some bD := fun e' => h.ne (Option.some.inj e').symm
  have d1' := (d1.kept g1 neDL).kept g2 neDL
  obtain ⟨v1, s1, w3, e3, n3, g3⟩ := d1'.entry keyed_group Tryz.underlying207 (z := .agg #[vi 0, vi 0, vi 0, vi 0]) (by kernel_rfl) hkl
  obtain ⟨w4, FD', e4, m4, p4, g4⟩ := n3.store 207 (dgV d)
  have G3 : GrowM w w3 bD bL := G2.trans (GrowM.one g3)
  have G4 : GrowM w w4 bD bL := G3.trans (GrowM.one g4)
  have hs : ∀ A xs, SL w A xs → SL w4 A xs := fun A xs hs => hs.growM G4 hmD hmL
  refine ⟨v0, v1, s0, s1, w1, w2, w3, w4, ⟨by rw [← e]; exact e1, e2, by rw [← e]; exact e3, e4, ?_, G1, G2, G3, G4⟩⟩
  exact ⟨G4.blk hmD hmL h.obj, DMap.put d2 m4 p4, LMap.put l2 hs ((m2.kept g3 neLD).kept g4 neLD) p2 (hv.mono hs), h.ne⟩
end Go.Proofs.YtflkiddmakeabaaGreatDoor
