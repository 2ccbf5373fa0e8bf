/- A bundle of texts: Rowm, Sm5, Sm6, Rl, Tr, Sz, Cp, Mp, Gk, Th, Wy, Hd, Wk, Wl. -/
import Derived.Test.YtflkiddmakeabaaGreatDoorR04
import Derived.Test.YtflkiddmakeabaaGreatDoorR03
import Derived.Test.YtflkiddmakeabaaGreatDoorR01
import Derived.Deep.RegionHeld3
import Derived.SizedLaws
import Derived.Deep.Matrix
import Derived.BigQuiet
import Derived.Maps.Own
import Derived.WideKeyEntry
import Derived.DeepKeys4
import Derived.Test.YtflkiddmakeabaaGreatDoorR00
/- Own slices of slices of ints: append of one; how they read; slices of slices of ints that came in. -/
set_option linter.unusedVariables false
namespace Go.Proofs.YtflkiddmakeabaaGreatDoor
open Go.RowKit

theorem info_ints : (Tryz.prog.info? 22).map (fun i => (i.zero, i.size, i.bytes)) = some (some (.slice none 0 0), 1, 24) := by kernel_rfl

/-- the call's own slice of slices of ints -/
abbrev OwnR (w : World) (base : Nat) (v : Value) (us : List Value) : Prop := w.ownsRow base 22 1 v us.length us
/-- each is a slice of ints of the call's own -/
def RowsOwn (w : World) (base : Nat) (us : List Value) (ls : List (List Int)) : Prop := us.length = ls.length ∧ ∀ k (h : k < us.length) (h' : k < ls.length), Own w base us[k] ls[k]

theorem own_ne {w : World} {base base' : Nat} {v u : Value} {xs : List Int} {us : List Value} (h : Own w base v xs) (k : OwnR w base' u us) : v.ownBlock = none ∨ v.ownBlock ≠ u.ownBlock := by
  rcases h.2 with ⟨rfl, _⟩ | ⟨g, cap, cur, rfl, _, hg, _⟩
  · exact .inl rfl
  · refine .inr ?_
    rcases k.2 with ⟨rfl, _⟩ | ⟨g', cap', cur', rfl, _, hg', _⟩
    · intro e; cases e
    · intro e
      injection e with e
      subst e
      rw [hg] at hg'
      injection hg' with hg'
      injection hg' with _ ht
      exact absurd ht (by decide)

/-- what an append of an own row leaves -/
structure GrewR (w w' : World) (base : Nat) (v v' : Value) (us : List Value) : Prop where
  own : OwnR w' base v' us
  grown : w.grownBy w' v.ownBlock

theorem GrewR.below {w0 w w' : World} {base : Nat} {v v' : Value} {us vs : List Value} (h : GrewR w w' base v v' us) {B : Nat} (hb : Below B w0 w) (ho : OwnR w base v vs) (hB : B ≤ base) (hs : B ≤ w.heap.size) : Below B w0 w' :=
  hb.grown h.grown hs (fun k hk => Nat.le_trans hB (World.ownsRow.lt ho k hk).1)
theorem GrewR.rows {w w' : World} {base base2 : Nat} {v v' : Value} {us vs ws : List Value} {ls : List (List Int)} (h : GrewR w w' base v v' us) (ho : OwnR w base v vs) (hr : RowsOwn w base2 ws ls) : RowsOwn w' base2 ws ls :=
  ⟨hr.1, fun k h1 h2 => (hr.2 k h1 h2).grown h.grown (own_ne (hr.2 k h1 h2) ho)⟩

theorem run_appR (w : World) (base : Nat) (v : Value) (us : List Value) (A : Option Addr) (n c : Nat) (hown : OwnR w base v us) (hlen : us.length < 5864062014805) (hbase : base ≤ w.heap.size) (ty : TypeId) :
    ∃ v' w', (Builtin.append_ #[23, 23] ty #[v, .slice (some ⟨w.heap.size, 0, none⟩) 1 1]).run Tryz.prog (w.alloc (.cells #[.slice A n c] 22)) = .ok v' w' ∧ GrewR w w' base v v' (us ++ [.slice A n c]) := by
  obtain ⟨i0, hi, hz0, hz1, hz2⟩ := info_parts info_ints
  obtain ⟨v', w', hrun, h2, h3, _, h5⟩ := run_append_own_at (P := Tryz.prog) (w.alloc (.cells #[.slice A n c] 22)) base 23 ty 22 i0 _ 1 24 Tryz.underlying23 hi hz0 hz1 hz2 rfl (by omega)
    v us.length us (hown.alloc _) ⟨w.heap.size, 0, none⟩ 1 1 [.slice A n c] rfl (by
      intro j u hj
      match j, hj with
      | 0, hj => simp at hj; subst hj; simp [Addr.add]) (by simp [Value.oneCell']) (by simp only [maxLen]; omega) (by omega) (by simp; omega)
  refine ⟨v', w', hrun, ?_, grownBy_trans (World.grownBy_alloc w _ _) h3⟩
  have e : (us ++ [Value.slice A n c]).length = us.length + 1 := by simp
  rw [OwnR, e]
  exact h2

/-- append of one row -/
theorem wpList_appR {ops : Array Oper} {rest : List Oper} {o : Oper} {a : Act} {Q : Exit → Act → World → Prop} (w : World) (A : Option Addr) (n c : Nat) (hgd : o.guard = none) (s x : Operand)
    (ho : o.op = .call { callee := .builtin .append, args := #[s, x], argTypes := #[23, 23] })
    (base : Nat) (v : Value) (us : List Value) (hs : a.eval s = v) (hx : a.eval x = .slice (some ⟨w.heap.size, 0, none⟩) 1 1) (hown : OwnR w base v us) (hlen : us.length < 5864062014805) (hbase : base ≤ w.heap.size)
    (h : ∀ v' w', GrewR w w' base v v' (us ++ [.slice A n c]) → wpList Tryz.prog ops Q rest (a.put o.dst v') w') : wpList Tryz.prog ops Q (o :: rest) a (w.alloc (.cells #[.slice A n c] 22)) :=
  wpList_plain hgd fun _ hK => by
    obtain ⟨v', w', hrun, hg⟩ := run_appR w base v us A n c hown hlen hbase o.type
    unfold Oper.wp execOp
    simp only [ho, resolve, invoke, builtin, Sem.run_bind, Sem.run_pure, Result.andThen_ok, List.map_toArray, List.map_cons, List.map_nil, hs, hx, hrun]
    exact hK _ _ (h v' w' hg)

theorem RowsOwn.nil (w : World) (base : Nat) : RowsOwn w base [] [] := ⟨rfl, fun k h => absurd h (by simp)⟩
theorem RowsOwn.snoc {w : World} {base : Nat} {us : List Value} {ls : List (List Int)} {u : Value} {l : List Int} (h : RowsOwn w base us ls) (hu : Own w base u l) : RowsOwn w base (us ++ [u]) (ls ++ [l]) := by
  have hl := h.1
  refine ⟨by simp [hl], fun k h1 h2 => ?_⟩
  by_cases hk : k < us.length
  · rw [List.getElem_append_left hk, List.getElem_append_left (by omega)]
    exact h.2 k hk (by omega)
  · have e : k = us.length := by simp at h1; omega
    subst e
    rw [List.getElem_append_right (Nat.le_refl _), List.getElem_append_right (by omega)]
    simpa [hl] using hu
theorem RowsOwn.below {w w' : World} {base : Nat} {us : List Value} {ls : List (List Int)} (h : RowsOwn w base us ls) (hb : Below w.heap.size w w') : RowsOwn w' base us ls := ⟨h.1, fun k h1 h2 => (h.2 k h1 h2).below hb⟩
theorem RowsOwn.more {w : World} {base base' : Nat} {us : List Value} {ls : List (List Int)} (h : RowsOwn w base us ls) (hb : base' ≤ base) : RowsOwn w base' us ls := ⟨h.1, fun k h1 h2 => (h.2 k h1 h2).more hb⟩

/-- own rows read as tables -/
theorem tb_own {w : World} {base base2 : Nat} {A : Option Addr} {n c : Nat} {us : List Value} {ls : List (List Int)} (h : OwnR w base (.slice A n c) us) (hr : RowsOwn w base2 us ls) (hi : ∀ l ∈ ls, ∀ x ∈ l, I64 x) : TB w A ls := fun k hk => by
  have hku : k < us.length := by rw [hr.1]; exact hk
  have hn : us.length = n := by
    rcases h.2 with ⟨e, h0⟩ | ⟨g, cap, cur, e, _⟩
    · injection e with _ e2 _; omega
    · injection e with _ e2 _; exact e2.symm
  subst hn
  have hrd := Reads.of_own h
  obtain ⟨ad, u, e1, e2, e3, e4⟩ := Reads.at_ (k := k) hrd (by omega)
  have e5 : u = us[k] := by
    rw [List.getElem?_eq_getElem hku] at e3
    injection e3 with e3
    exact e3.symm
  obtain ⟨A1, n1, c1, e6, e7, e8, e9, e10⟩ := (hr.2 k hku hk).shapeN
  have hm : maxLen < 9223372036854775808 := by simp [maxLen]
  exact ⟨ad, A1, n1, c1, e1, by rw [block_of_add]; exact e2, by rw [e4, e5, e6], e7, by omega, e10, hi _ (List.getElem_mem hk)⟩
theorem ownR_shape {w : World} {base : Nat} {v : Value} {us : List Value} (h : OwnR w base v us) : ∃ A n c, v = .slice A n c ∧ us.length = n ∧ n ≤ c := by
  rcases h.2 with ⟨rfl, h0⟩ | ⟨g, cap, cur, rfl, _, _, h1, _⟩
  · exact ⟨none, 0, 0, rfl, h0, Nat.le_refl _⟩
  · exact ⟨_, _, _, rfl, rfl, h1⟩

/-- '.slice A n c' came in and reads as rows -/
structure ArgM (w : World) (A : Option Addr) (n c : Nat) (ts : List (List Int)) : Prop where
  len : ts.length = n
  cap : n ≤ c
  max : c ≤ 9223372036854775807
  tb : TB w A ts
theorem ArgM.nil (w : World) : ArgM w none 0 0 [] := ⟨rfl, Nat.le_refl _, by omega, fun k hk => absurd hk (by simp)⟩
theorem ArgM.mk_ {w : World} {a : Addr} {len cap : Nat} {A : Nat → Option Addr} {L C : Nat → Nat} {Z : Nat → List Int} (hl : len ≤ cap) (hm : cap ≤ maxLen)
    (h : ∀ r, r < cap → w.cell? (a.add r) = some (.slice (A r) (L r) (C r)) ∧ L r ≤ C r ∧ C r ≤ maxLen ∧ (Z r).length = C r ∧ (∀ n ∈ Z r, (Lit.int .i64 n).wf = true) ∧ (A r = none → C r = 0) ∧
        ∀ a', A r = some a' → 0 ≤ a'.block ∧ ∀ c, c < C r → w.cell? (a'.add c) = some (.int .i64 ((Z r).getD c 0))) :
    ArgM w (some a) len cap ((List.range len).map fun r => (Z r).take (L r)) := by
  have hmm : maxLen ≤ 9223372036854775807 := by simp [maxLen]
  refine ⟨by simp, hl, by omega, fun k hk => ?_⟩
  have hk' : k < len := by simpa using hk
  obtain ⟨h1, h2, h3, h4, h5, h6, h7⟩ := h k (by omega)
  have e : ((List.range len).map fun r => (Z r).take (L r))[k] = (Z k).take (L k) := by simp
  rw [e]
  have hlen : ((Z k).take (L k)).length = L k := by rw [List.length_take, h4]; omega
  refine ⟨a, A k, L k, C k, rfl, block_lt_of_cell h1, h1, hlen, by omega, ⟨by simp, fun hn => ?_⟩, fun x hx => i64_of_wf (h5 x (List.mem_of_mem_take hx))⟩
  rw [hlen] at hn
  cases hA : A k with
  | none => have := h6 hA; omega
  | some a' =>
    obtain ⟨_, h8⟩ := h7 a' hA
    have hc0 := h8 0 (by omega)
    refine ⟨a', rfl, ?_, fun j u hu => ?_⟩
    · have := block_lt_of_cell hc0
      rwa [block_of_add] at this
    · rw [List.getElem?_map] at hu
      cases hj : ((Z k).take (L k))[j]? with
      | none => rw [hj] at hu; cases hu
      | some x =>
        rw [hj] at hu
        injection hu with hu
        rw [List.getElem?_take] at hj
        split at hj
        · have hjl : j < (Z k).length := (List.getElem?_eq_some_iff.1 hj).1
          rw [h8 j (by omega), ← hu]
          simp [List.getD_eq_getElem?_getD, hj]
        · cases hj
end Go.Proofs.YtflkiddmakeabaaGreatDoor

/- Walks: sums.checked. -/
set_option linter.unusedVariables false
namespace Go.Proofs.YtflkiddmakeabaaGreatDoor
open Go.RowKit Zp

end Go.Proofs.YtflkiddmakeabaaGreatDoor

/- Walks: sums.checked, Total. -/
set_option linter.unusedVariables false
namespace Go.Proofs.YtflkiddmakeabaaGreatDoor
open Go.RowKit Zp

end Go.Proofs.YtflkiddmakeabaaGreatDoor

/- Plain and memory: tables Fixed; what a round tells, as lists; rows of one's own. -/
set_option linter.unusedVariables false
namespace Go.Proofs.YtflkiddmakeabaaGreatDoor
open Go.RowKit Zp


theorem OwnR.below {w w' : World} {base : Nat} {v : Value} {us : List Value} (h : OwnR w base v us) (hb : Below w.heap.size w w') : OwnR w' base v us := by
  rcases h.2 with h0 | ⟨g, cap, cur, e, h1, hg, h2⟩
  · exact ⟨h.1, .inl h0⟩
  · have hlt : g < w.heap.size := (World.ownsRow.lt h g (by rw [e]; rfl)).2
    exact ⟨h.1, .inr ⟨g, cap, cur, e, h1, (hb.block g hlt).trans hg, h2⟩⟩
/-- rows of one's own are made -/
def MadeRows (ls : List (List Int)) (w : World) (e : Ending) (w' : World) : Prop :=
  ∃ v us, e = .returned v ∧ OwnR w' w.heap.size v us ∧ RowsOwn w' w.heap.size us ls ∧ Below w.heap.size w w'
end Go.Proofs.YtflkiddmakeabaaGreatDoor

/- Walks: tree.root, tree.Root. -/
set_option linter.unusedVariables false
namespace Go.Proofs.YtflkiddmakeabaaGreatDoor
open Go.RowKit Zp
/-- the rows by their places -/
def rowF (rs : List (List Int)) (i : Nat) : List Int := rs.getD i []
theorem rowF_at {rs : List (List Int)} {i : Nat} (h : i < rs.length) : rowF rs i = rs[i] := by simp [rowF, h]
/-- a digest is handed back, that lies in a block of its own -/
def RootIs (l : List Int) (w : World) (e : Ending) (w' : World) : Prop :=
  ∃ g : Nat, e = .returned (.slice (some ⟨g, 0, none⟩) 4 4) ∧ (∃ cs, Blk w' g 153 cs) ∧ SL w' (some ⟨g, 0, none⟩) l ∧ l.length = 4 ∧ (∀ x ∈ l, I64 x) ∧ w.heap.size ≤ g ∧ Below w.heap.size w w'
theorem HashIs.root {p k : Nat} [NeZero p] (hm : p ≤ 2147483647) {l : List Int} {w w' : World} {e : Ending} (h : HashIs (digE p k l) w e w') : RootIs (digL p k l) w e w' := by
  obtain ⟨g, h1, h2, h3, h4⟩ := h
  exact ⟨g, h1, ⟨_, h2⟩, dig_sl h2, digL_len _ _, i64_digL hm l, h3, h4⟩
theorem RootIs.from {l : List Int} {w0 w w' : World} {e : Ending} (h : RootIs l w e w') (hb : Below w0.heap.size w0 w) : RootIs l w0 e w' := by
  obtain ⟨g, h1, h2, h3, h4, h5, h6, h7⟩ := h
  exact ⟨g, h1, h2, h3, h4, h5, Nat.le_trans hb.size h6, hb.trans (h7.mono hb.size)⟩
set_option maxRecDepth 100000 in
set_option maxHeartbeats 4000000 in
theorem troot_one (p S b s k z : Nat) [NeZero p] (oo : Nat → Nat → Fin p) (A : Option Addr) (N c : Nat) (rs : List (List Int)) (hN : rs.length = N) (hN2 : N ≤ 65536) (hR : ∀ l ∈ rs, l.length * 8 + 80 ≤ 140737488355328)
    (a : Nat) (ha : a + 1 ≤ N) (w : World) (F : Fld w S b p) (G : Spg w s b k z oo) (hT : TB w A rs) :
    Calls Tryz.prog 97 #[.pointer (some ⟨s, 0, none⟩), .slice A N c, Gp a (a + 1)] w (RootIs (rootD (digL p k) (rowF rs) a 1) w) := by
  have hal : a < rs.length := by omega
  have hsl := block_lt_of_cell G.c0
  obtain ⟨ad, A1, n1, c1, rfl, hb1, hc1, hl1, hn1, hs1, hi1⟩ := hT a hal
  have hrl := hR _ (List.getElem_mem hal)
  rw [rootD_one _ _ _ (by omega), rowF_at hal]
  generalize rs[a] = row at hl1 hs1 hi1 hrl
  have hB0 : Below w.heap.size w (w.alloc (.cells #[vi a, vi ((a : Int) + 1)] 142)) := (Below.refl _ _).alloc (Nat.le_refl _) _
  obtain ⟨W, hW⟩ : ∃ W, W = w.alloc (.cells #[vi a, vi ((a : Int) + 1)] 142) := ⟨_, rfl⟩
  have hB := Blk.new w 142 #[vi a, vi ((a : Int) + 1)]
  rw [← hW] at hB hB0
  have hc1W := (hB0.cell (p := ad.add a) hb1).trans hc1
  have e0 := (hB.cell 0).trans (show _ = some (vi a) from rfl)
  have e1 := (hB.cell 1).trans (show _ = some (vi ((a : Int) + 1)) from rfl)
  have hb2 : Below W.heap.size W (W.alloc (.cells #[.slice A1 n1 c1] 22)) := (Below.refl _ _).alloc (Nat.le_refl _) _
  have hj := joined_any 0 (some ⟨W.heap.size, 0, none⟩) 1 1 [row] rfl (by omega) (by simp; omega) (W.alloc (.cells #[.slice A1 n1 c1] 22)) (tb_lit1 (hs1.below hB0) hl1 hn1 hi1)
  rw [show [row].flatten = row by simp, show W.heap.size = w.heap.size + 1 by rw [hW]; simp] at hj
  have HJ := Lib.hid hj
  have HB2 := Lib.hid (hB0.trans (hb2.mono hB0.size))
  have HH := Lib.hid (fun W' A' n' c' (hl : (0 :: row).length = n') (F : Fld W' S b p) (G : Spg W' s b k z oo) (hs : SL W' A' (0 :: row)) => hash_any p S b s k z oo A' n' c' (0 :: row) hl (by
    intro x hx
    rcases List.mem_cons.1 hx with rfl | hx
    · constructor <;> omega
    · exact hi1 x hx) (by rw [← hl, List.length_cons]; omega) W' F G hs)
  have HF := Lib.hid F
  have HG := Lib.hid G
  rw [hW] at HJ HB2 hc1W e0 e1
  have a0 : (0 : Int) ≤ (a : Int) := by omega
  have a1 : (a : Int) < (N : Int) := by omega
  have hpm := F.max
  clear hB0 hB hb2 hj hW W F G hT hs1 hi1 hrl hR hN hal
  go_enter Tryz.func97, Tryz.ntmps97
  go_wp2_with fail
  refine HJ.out.mono ?_
  rintro _ w2 ⟨v2, rfl, ho2, hb2⟩
  obtain ⟨A2, n2, c2, rfl, hl2, _, _, hs2⟩ := ho2.shapeN
  have hb := HB2.out.trans (hb2.mono HB2.out.size)
  have HX := Lib.hid ((HH.out w2 A2 n2 c2 hl2 (HF.out.below hb HF.out.le) (HG.out.below hb hsl) hs2).mono fun e w' h => (h.root hpm).from hb)
  clear hl2 ho2 hb2 hs2 hb
  go_wp2_with fail
  refine HX.out.mono ?_
  rintro _ w3 ⟨g, rfl, h1, h2, h3, h4, h5, h6⟩
  go_wp2
  go_ret
  exact ⟨g, rfl, h1, h2, h3, h4, h5, h6⟩
set_option maxRecDepth 100000 in
set_option maxHeartbeats 400000 in
theorem troot_any (p S b s k z : Nat) [NeZero p] (oo : Nat → Nat → Fin p) (A : Option Addr) (N c : Nat) (rs : List (List Int)) (hN : rs.length = N) (hN2 : N ≤ 65536) (hR : ∀ l ∈ rs, l.length * 8 + 80 ≤ 140737488355328) :
    ∀ (m a : Nat), 1 ≤ m → a + m ≤ N → ∀ (w : World), Fld w S b p → Spg w s b k z oo → TB w A rs →
    Calls Tryz.prog 97 #[.pointer (some ⟨s, 0, none⟩), .slice A N c, Gp a (a + m)] w (RootIs (rootD (digL p k) (rowF rs) a m) w) := by
  intro m
  induction m using Nat.strongRecOn with
  | ind m ih =>
    intro a h1 ha w F G hT
    by_cases h2 : 2 ≤ m
    · have hlf := leftN_lt h2
      rw [rootD_two _ _ _ h2]
      have hsl := block_lt_of_cell G.c0
      have hb1 : Below w.heap.size w (w.alloc (.cells #[vi a, vi ((a : Int) + m)] 142)) := (Below.refl _ _).alloc (Nat.le_refl _) _
      have hh := halves_any a m h2 (by omega) (w.alloc (.cells #[vi a, vi ((a : Int) + m)] 142))
      have HH := Lib.hid hh
      have HB1 := Lib.hid hb1
      clear hh hb1
      obtain ⟨j, hj⟩ : ∃ j, j = leftN m := ⟨_, rfl⟩
      rw [← hj] at hlf HH ⊢
      obtain ⟨hj1, hj2, hj3⟩ := hlf
      have t1 : ((m : Int) == 1) = false := by simp; omega
      clear hj
      go_enter Tryz.func97, Tryz.ntmps97
      go_wp2_with fail
      refine HH.out.mono ?_
      rintro _ w1 ⟨rfl, hb1⟩
      go_wp2_with fail
      have hb01 : Below w.heap.size w w1 := HB1.out.trans (hb1.mono HB1.out.size)
      obtain ⟨q, hq⟩ : ∃ q, q = w1.heap.size := ⟨_, rfl⟩
      obtain ⟨W2, hW2⟩ : ∃ W2, W2 = (w1.alloc (.cells #[vi a, vi ((a : Int) + j)] 142)).alloc (.cells #[vi ((a : Int) + j), vi ((a : Int) + m)] 142) := ⟨_, rfl⟩
      rw [← hW2, ← hq]
      have hB7 := (Blk.new w1 142 #[vi a, vi ((a : Int) + j)]).alloc (.cells #[vi ((a : Int) + j), vi ((a : Int) + m)] 142)
      have hB8 := Blk.new (w1.alloc (.cells #[vi a, vi ((a : Int) + j)] 142)) 142 #[vi ((a : Int) + j), vi ((a : Int) + m)]
      rw [← hW2, show (w1.alloc (.cells #[vi a, vi ((a : Int) + j)] 142)).heap.size = q + 1 by simp [hq]] at hB8
      rw [← hW2, ← hq] at hB7
      have hb2 : Below w.heap.size w W2 := by rw [hW2]; exact (hb01.alloc hb01.size _).alloc (by have := hb01.size; simp; omega) _
      have HB2 := Lib.hid hb2
      have c70 := (hB7.cell 0).trans (show _ = some (vi a) from rfl)
      have c71 := (hB7.cell 1).trans (show _ = some (vi ((a : Int) + j)) from rfl)
      have c80 := (hB8.cell 0).trans (show _ = some (vi ((a : Int) + j)) from rfl)
      have c81 := (hB8.cell 1).trans (show _ = some (vi ((a : Int) + m)) from rfl)
      have q7 := hB7.lt
      have q8 := hB8.lt
      clear hB7 hB8 hW2 hq hb2 hb1 hb01
      obtain ⟨d1, hd1⟩ : ∃ d, d = rootD (digL p k) (rowF rs) a j := ⟨_, rfl⟩
      obtain ⟨d2, hd2⟩ : ∃ d, d = rootD (digL p k) (rowF rs) (a + j) (m - j) := ⟨_, rfl⟩
      have HD1 := Lib.hid hd1
      have HD2 := Lib.hid hd2
      have I1 := Lib.hid (fun W F G T => by have h := ih j hj1 a hj3 (by omega) W F G T; rw [← hd1] at h; exact h)
      have I2 : Hid (∀ W, Fld W S b p → Spg W s b k z oo → TB W A rs → Calls Tryz.prog 97 #[.pointer (some ⟨s, 0, none⟩), .slice A N c, .agg #[vi ((a : Int) + j), vi ((a : Int) + m)]] W (RootIs d2 W)) := Lib.hid (fun W F G T => by
        have h := ih (m - j) (by omega) (a + j) (by omega) (by omega) W F G T
        rw [← hd2, show a + j + (m - j) = a + m by omega] at h
        simpa [Gp] using h)
      have HJ := Lib.hid (fun (W : World) (g1 g2 : Nat) (l1 : d1.length = 4) (l2 : d2.length = 4) (i1 : ∀ x ∈ d1, I64 x) (i2 : ∀ x ∈ d2, I64 x) (s1 : SL W (some ⟨g1, 0, none⟩) d1) (s2 : SL W (some ⟨g2, 0, none⟩) d2) =>
        joined_any 1 (some ⟨W.heap.size, 0, none⟩) 2 2 [d1, d2] rfl (by omega) (by simp [l1, l2]) (W.alloc (.cells #[.slice (some ⟨g1, 0, none⟩) 4 4, .slice (some ⟨g2, 0, none⟩) 4 4] 22)) (tb_lit2 s1 l1 (by omega) i1 s2 l2 (by omega) i2))
      rw [show [d1, d2].flatten = d1 ++ d2 by simp] at HJ
      have HHs := Lib.hid (fun W' A' n' c' (l1 : d1.length = 4) (l2 : d2.length = 4) (i1 : ∀ x ∈ d1, I64 x) (i2 : ∀ x ∈ d2, I64 x) (hl : (1 :: (d1 ++ d2)).length = n') (F : Fld W' S b p) (G : Spg W' s b k z oo) (hs : SL W' A' (1 :: (d1 ++ d2))) => (hash_any p S b s k z oo A' n' c' (1 :: (d1 ++ d2)) hl (by
        intro x hx
        rcases List.mem_cons.1 hx with rfl | hx
        · constructor <;> omega
        · rcases List.mem_append.1 hx with hx | hx
          · exact i1 x hx
          · exact i2 x hx) (by rw [← hl]; simp [l1, l2]) W' F G hs).mono fun e w' h => h.root F.max)
      have KX : Hid (∀ W', Below W2.heap.size W2 W' → Fld W' S b p ∧ Spg W' s b k z oo ∧ TB W' A rs) := Lib.hid fun W' hb => by
        have hb' := HB2.out.trans (hb.mono HB2.out.size)
        exact ⟨F.below hb' F.le, G.below hb' hsl, hT.below hb'⟩
      have KS : Hid (∀ W', Below W2.heap.size W2 W' → W'.cell? ⟨q, 0, none⟩ = some (vi a) ∧ W'.cell? ⟨q, 1, none⟩ = some (vi ((a : Int) + j)) ∧ W'.cell? ⟨q + 1, 0, none⟩ = some (vi ((a : Int) + j)) ∧ W'.cell? ⟨q + 1, 1, none⟩ = some (vi ((a : Int) + m))) := Lib.hid fun W' hb =>
        ⟨(hb.cell (p := ⟨q, 0, none⟩) q7).trans c70, (hb.cell (p := ⟨q, 1, none⟩) q7).trans c71, (hb.cell (p := ⟨q + 1, 0, none⟩) q8).trans c80, (hb.cell (p := ⟨q + 1, 1, none⟩) q8).trans c81⟩
      have hb22 : Below W2.heap.size W2 W2.drew := below_drewN (Below.refl _ _) 1
      clear hd1 hd2 F G hT ih hR hN c70 c71 c80 c81
      go_region_held3 (fun w' => w'.cell? ⟨q, 0, none⟩ = some (vi a) ∧ w'.cell? ⟨q, 1, none⟩ = some (vi ((a : Int) + j)) ∧ w'.cell? ⟨q + 1, 0, none⟩ = some (vi ((a : Int) + j)) ∧ w'.cell? ⟨q + 1, 1, none⟩ = some (vi ((a : Int) + m)))
        (first | exact KS.out _ (Below.refl _ _) | exact KS.out _ hb22 | exact KS.out _ hb26 | exact KS.out _ hb25 | exact KS.out _ hb24a | exact KS.out _ hb24 | exact KS.out _ hb23)
        ((first
          | (go_at_call 97; (have hx := hb23; clear hx); refine (I2.out _ (KX.out _ hb23).1 (KX.out _ hb23).2.1 (KX.out _ hb23).2.2).mono ?_; rintro _ w4 ⟨g2, rfl, ⟨x2, y2⟩, s2, l2, i2, n2, hb4⟩; have s1' := s1.below hb4; have hb24 := hb23.trans (hb4.mono hb23.size); have hb24a := hb24.alloc hb24.size (.cells #[.slice (some ⟨g1, 0, none⟩) 4 4, .slice (some ⟨g2, 0, none⟩) 4 4] 22); clear y2 hb4 s1)
          | (go_at_call 97; refine (I1.out _ (KX.out _ hb22).1 (KX.out _ hb22).2.1 (KX.out _ hb22).2.2).mono ?_; rintro _ w3 ⟨g1, rfl, ⟨x1, y1⟩, s1, l1, i1, n1, hb3⟩; have hb23 : Below W2.heap.size W2 w3 := hb22.trans (hb3.mono hb22.size); clear y1 hb3)
          | (go_at_call 144; refine (HJ.out w4 g1 g2 l1 l2 i1 i2 s1' s2).mono ?_; rintro _ w5 ⟨v5, rfl, ho5, hb5⟩; obtain ⟨A5, n5, c5, rfl, hl5, _, _, hs5⟩ := ho5.shapeN; have HL5 := Lib.hid hl5; have hb25 := hb24a.trans (hb5.mono hb24a.size); clear hl5 ho5 hb5)
          | (go_at_call 126; refine ((HHs.out w5 A5 n5 c5 l1 l2 i1 i2 HL5.out (KX.out _ hb25).1 (KX.out _ hb25).2.1 hs5)).mono ?_; rintro _ w6 ⟨g6, rfl, ⟨x6, y6⟩, s6, l6, i6, n6, hb6⟩; have hb26 := hb25.trans (hb6.mono hb25.size); clear hb6)))
      have HFIN : Hid (RootIs (digL p k (1 :: (d1 ++ d2))) w (.returned (.slice (some ⟨g6, 0, none⟩) 4 4)) w6) := Lib.hid ⟨g6, rfl, ⟨_, y6⟩, s6, l6, i6, by have := HB2.out.size; have := hb25.size; omega, HB2.out.trans (hb26.mono HB2.out.size)⟩
      clear y6 s6 l6 i6 n6 hb26 hb25 hb24a hb24 hb23 hb22 l1 l2 i1 i2 s1' s2 n1 n2 hs5 HL5 KS KX HHs HJ I1 I2
      go_wp2
      go_ret
      have hfin := HFIN.out
      rw [HD1.out, HD2.out] at hfin
      exact hfin
    · have e : m = 1 := by omega
      subst e
      exact troot_one p S b s k z oo A N c rs hN hN2 hR a ha w F G hT
end Go.Proofs.YtflkiddmakeabaaGreatDoor

/- What a row of a slice of slices weighs at most. -/
set_option linter.unusedVariables false
namespace Go.Proofs.YtflkiddmakeabaaGreatDoor
open Go.RowKit Go.ChangeShapes

theorem weightsAll_mem {H : Type} {P : Program} {e : TypeId} {d : DataW H} {n : Nat} : ∀ {l : List (DataW H)}, d ∈ l → n ∈ d.weights P e → n ∈ DataW.weightsAll P e l
  | x :: l, hd, hn => by
    simp only [DataW.weightsAll, List.mem_append]
    rcases List.mem_cons.1 hd with rfl | h
    · exact .inl hn
    · exact .inr (weightsAll_mem h hn)
theorem sized_row {H : Type} {P : Program} {ts : List TypeId} {ds : List (DataW H)} (h : (DataW.weightsEach P ts ds).all (· ≤ reachBytes) = true) {j : Nat} {t e q : TypeId} {elems spare el sp : List (DataW H)} (ht : ts[j]? = some t) (hd : ds[j]? = some (.slice elems spare)) (hu : P.underlying t = some (.slice e)) (hv : P.underlying e = some (.slice q))
    (hm : .slice el sp ∈ elems) : (el.length + sp.length) * P.bytesOf q ≤ reachBytes := by
  have h1 : (el.length + sp.length) * P.bytesOf q ∈ DataW.weights P e (.slice el sp) := by simp [DataW.weights, hv]
  have h2 := weightsAll_mem hm h1
  have := List.all_eq_true.1 h _ (DataW.weights_mem_each ht hd _ (by simp only [DataW.weights, hu]; exact List.mem_cons_of_mem _ (List.mem_append_left _ h2)))
  simpa using this

theorem bytesI : Tryz.prog.bytesOf 3 = 8 := by kernel_rfl
theorem bytesR : Tryz.prog.bytesOf 22 = 24 := by kernel_rfl
/-- rows that came in, each of a length that memory holds -/
structure ArgMS (w : World) (A : Option Addr) (n c : Nat) (ts : List (List Int)) : Prop where
  m : ArgM w A n c ts
  n24 : n ≤ 5864062014805
  r8 : ∀ t ∈ ts, t.length * 8 ≤ 140737488351232
theorem ArgMS.rows {w : World} {A : Option Addr} {n c : Nat} {ts : List (List Int)} (h : ArgMS w A n c ts) : ∀ t ∈ ts, t.length ≤ 17592186044416 := fun t ht => by have := h.r8 t ht; omega
theorem ArgMS.nil (w : World) : ArgMS w none 0 0 [] := ⟨ArgM.nil _, by omega, by simp⟩
theorem ArgMS.i64 {w : World} {A : Option Addr} {n c : Nat} {ts : List (List Int)} (h : ArgMS w A n c ts) : ∀ t ∈ ts, ∀ x ∈ t, I64 x := fun t ht => by
  obtain ⟨k, hk, rfl⟩ := List.mem_iff_getElem.1 ht
  obtain ⟨_, _, _, _, _, _, _, _, _, _, hi⟩ := h.m.tb k hk
  exact hi
theorem ArgMS.mk_ {H : Type} {tys : List TypeId} {ds : List (DataW H)} (hsz : (DataW.weightsEach Tryz.prog tys ds).all (· ≤ reachBytes) = true) {j : Nat} (ht : tys[j]? = some 23) {w : World} {a : Addr} {len cap : Nat} {A : Nat → Option Addr} {L C : Nat → Nat} {Z : Nat → List Int}
    (hd : ds[j]? = some (.slice ((List.range len).map fun r => Go.Deep.intRow .i64 (A r) (L r) (Z r)) ((List.range (cap - len)).map fun j => Go.Deep.intRow .i64 (A (len + j)) (L (len + j)) (Z (len + j))))) (hl : len ≤ cap) (hm : cap ≤ maxLen)
    (h : ∀ r, r < cap → w.cell? (a.add r) = some (.slice (A r) (L r) (C r)) ∧ L r ≤ C r ∧ C r ≤ maxLen ∧ (Z r).length = C r ∧ (∀ n ∈ Z r, (Lit.int .i64 n).wf = true) ∧ (A r = none → C r = 0) ∧
        ∀ a', A r = some a' → 0 ≤ a'.block ∧ ∀ c, c < C r → w.cell? (a'.add c) = some (.int .i64 ((Z r).getD c 0))) :
    ArgMS w (some a) len cap ((List.range len).map fun r => (Z r).take (L r)) := by
  refine ⟨ArgM.mk_ hl hm h, ?_, fun t hmem => ?_⟩
  · have h1 := sized_slice hsz (j := j) (t := 23) (e := 22) ht hd Tryz.underlying23
    rw [bytesR] at h1
    simp only [List.length_map, List.length_range, reachBytes] at h1
    omega
  · obtain ⟨r, hr, rfl⟩ := List.mem_map.1 hmem
    have hr' := List.mem_range.1 hr
    obtain ⟨_, h2, _, h4, _, h6, _⟩ := h r (by omega)
    rw [List.length_take]
    cases hA : A r with
    | none => have := h6 hA; omega
    | some a' =>
      have hin : DataW.slice (H := H) (lits .i64 ((Z r).take (L r))) (lits .i64 ((Z r).drop (L r))) ∈ (List.range len).map fun r => Go.Deep.intRow .i64 (A r) (L r) (Z r) :=
        List.mem_map.2 ⟨r, hr, by simp only [Go.Deep.intRow, hA]⟩
      have h1 := sized_row hsz (j := j) ht hd Tryz.underlying23 Tryz.underlying22 hin
      rw [bytesI] at h1
      simp only [lits, List.length_map, List.length_take, List.length_drop, reachBytes] at h1
      omega
end Go.Proofs.YtflkiddmakeabaaGreatDoor

/- Walks: same.Copied, Rows, Opened, Openings. -/
set_option linter.unusedVariables false
namespace Go.Proofs.YtflkiddmakeabaaGreatDoor
open Go.RowKit Zp
end Go.Proofs.YtflkiddmakeabaaGreatDoor

/- Maps whose keys are structs or the like, told by what each key holds: look-up, update, an entry that is laid and then stored into. Of no program. -/
set_option linter.unusedVariables false
namespace Go.Proofs.YtflkiddmakeabaaGreatDoor
open Go.MapKept Go.ChangeMaps

section
variable {P : Program} {k : TypeId}
/-- the entries tell f -/
def Tells (es : Array MapEntry) (f : Value → Option Value) : Prop := ∀ x v, f x = some v ↔ ∃ e ∈ es.toList, e.key = x ∧ e.val = v
/-- block b is a map that holds f -/
def MapIs (P : Program) (k : TypeId) (w : World) (b : Nat) (f : Value → Option Value) : Prop :=
  ∃ (es : Array MapEntry) (clock : Nat), w.heap[b]? = some (.map es clock) ∧ Stamped es clock ∧ (∀ x ∈ es.toList, ∃ l, keyOf P k x.key = some l) ∧ Tells es f
/-- .. but for one key, whose entry bears a stamp -/
def EntIs (P : Program) (k : TypeId) (w : World) (b : Nat) (key : Value) (st : Nat) (f : Value → Option Value) : Prop :=
  ∃ (es : Array MapEntry) (clock : Nat), w.heap[b]? = some (.map es clock) ∧ Stamped es clock ∧ (∀ x ∈ es.toList, ∃ l, keyOf P k x.key = some l) ∧ (∃ e ∈ es.toList, e.born = st ∧ e.key = key) ∧
    ∀ x, x ≠ key → ∀ v, f x = some v ↔ ∃ e ∈ es.toList, e.key = x ∧ e.val = v
theorem MapIs.made (P : Program) (k : TypeId) (w : World) : MapIs P k (w.alloc (.map #[] 0)) w.heap.size (fun _ => none) :=
  ⟨#[], 0, (MapKept.heap_alloc w _).1, stamped_empty 0, by simp, fun x v => by simp⟩
theorem MapIs.lt {w : World} {b : Nat} {f : Value → Option Value} (h : MapIs P k w b f) : b < w.heap.size := by
  obtain ⟨es, clock, hb, _⟩ := h
  exact (Array.getElem?_eq_some_iff.1 hb).1
theorem MapIs.kept {w w' : World} {b : Nat} {f : Value → Option Value} {row : Option Nat} (h : MapIs P k w b f) (hg : w.grownBy w' row) (hne : some b ≠ row) : MapIs P k w' b f := by
  have hlt := h.lt
  obtain ⟨es, clock, hb, r⟩ := h
  exact ⟨es, clock, (hg.block b hlt hne).trans hb, r⟩
theorem MapIs.same {w w' : World} {b : Nat} {f : Value → Option Value} (h : MapIs P k w b f) (hg : w'.heap[b]? = w.heap[b]?) : MapIs P k w' b f := by
  obtain ⟨es, clock, hb, r⟩ := h
  exact ⟨es, clock, hg.trans hb, r⟩
theorem key_unique {es : Array MapEntry} {clock : Nat} (h : Stamped es clock) {x y : MapEntry} (hx : x ∈ es.toList) (hy : y ∈ es.toList) (e : x.key = y.key) : x = y := by
  have hp := ((stamped_iff es clock).1 h).2.2
  obtain ⟨i, hi, rfl⟩ := List.mem_iff_getElem.1 hx
  obtain ⟨j, hj, rfl⟩ := List.mem_iff_getElem.1 hy
  rcases Nat.lt_trichotomy i j with h1 | h1 | h1
  · exact absurd e (List.pairwise_iff_getElem.1 hp i j hi hj h1)
  · subst h1; rfl
  · exact absurd e.symm (List.pairwise_iff_getElem.1 hp j i hj hi h1)
theorem tells_some {es : Array MapEntry} {clock : Nat} (h : Stamped es clock) : ∃ f, Tells es f := by
  refine ⟨fun x => open Classical in if hx : ∃ e ∈ es.toList, e.key = x then some (Classical.choose hx).val else none, fun x v => ?_⟩
  by_cases hx : ∃ e ∈ es.toList, e.key = x
  · simp only [dif_pos hx, Option.some.injEq]
    obtain ⟨h1, h2⟩ := Classical.choose_spec hx
    constructor
    · intro hv; exact ⟨_, h1, h2, hv⟩
    · rintro ⟨e, he, h3, h4⟩
      have := key_unique h h1 he (h2.trans h3.symm)
      rw [this]; exact h4
  · simp only [dif_neg hx, reduceCtorEq, false_iff]
    rintro ⟨e, he, h3, _⟩
    exact hx ⟨e, he, h3⟩
variable (K : Maps.Keyed P k)
include K
omit K in
theorem block_grown (w : World) (b : Nat) (o : Obj) : w.grownBy (setBlock w b o) (some b) := ⟨rfl, rfl, rfl, by simp [setBlock], fun i _ hi => by
  have hne : b ≠ i := fun e => hi (by rw [e])
  simp [setBlock, hne]⟩
omit K in
theorem mem_mod {es : Array MapEntry} {clock j : Nat} (hs : Stamped es clock) {e0 : MapEntry} (hj : es.toList[j]? = some e0) (v : Value) (x : MapEntry) :
    x ∈ (es.modify j fun e => { e with val := v }).toList ↔ (x ∈ es.toList ∧ x.key ≠ e0.key) ∨ x = { e0 with val := v } := by
  have hjl : j < es.toList.length := (List.getElem?_eq_some_iff.1 hj).1
  have hje : es.toList[j] = e0 := (List.getElem?_eq_some_iff.1 hj).2
  have hp := ((stamped_iff es clock).1 hs).2.2
  rw [Array.toList_modify, List.mem_iff_getElem?]
  constructor
  · rintro ⟨i, hi⟩
    rw [List.getElem?_modify] at hi
    by_cases e : j = i
    · subst e
      rw [hj] at hi
      simp at hi
      exact .inr hi.symm
    · simp only [if_neg e] at hi
      have hi' : es.toList[i]? = some x := by simpa using hi
      refine .inl ⟨List.mem_of_getElem? hi', fun hk => ?_⟩
      have hil : i < es.toList.length := (List.getElem?_eq_some_iff.1 hi').1
      have hie : es.toList[i] = x := (List.getElem?_eq_some_iff.1 hi').2
      rcases Nat.lt_or_ge i j with h1 | h1
      · exact List.pairwise_iff_getElem.1 hp i j hil hjl h1 (by rw [hie, hje]; exact hk)
      · exact List.pairwise_iff_getElem.1 hp j i hjl hil (by omega) (by rw [hie, hje]; exact hk.symm)
  · rintro (⟨hx, hk⟩ | rfl)
    · obtain ⟨i, hi⟩ := List.mem_iff_getElem?.1 hx
      refine ⟨i, ?_⟩
      have hne : j ≠ i := fun e => by subst e; rw [hj] at hi; injection hi with hi; exact hk (by rw [hi])
      simp [hne, hi]
    · exact ⟨j, by simp [hj]⟩
omit K in
theorem stamped_val {es : Array MapEntry} {clock : Nat} (hs : Stamped es clock) (j : Nat) (v : Value) : Stamped (es.modify j fun e => { e with val := v }) clock :=
  stamped_modify hs j _ (fun _ _ => rfl) (fun _ _ _ => rfl)
/-- what a map holds when one key was stored into -/
def Put (f f' : Value → Option Value) (key val : Value) : Prop := f' key = some val ∧ ∀ x, x ≠ key → f' x = f x
omit K in
theorem tells_put {es : Array MapEntry} {clock : Nat} (hs : Stamped es clock) {f : Value → Option Value} {key val : Value} (h1 : ∃ e ∈ es.toList, e.key = key ∧ e.val = val)
    (h2 : ∀ x, x ≠ key → ∀ v, f x = some v ↔ ∃ e ∈ es.toList, e.key = x ∧ e.val = v) : ∃ f', Tells es f' ∧ Put f f' key val := by
  obtain ⟨f', hf⟩ := tells_some hs
  refine ⟨f', hf, (hf key val).2 h1, fun x hx => ?_⟩
  apply Option.ext
  intro v
  rw [hf x v, h2 x hx v]
omit K in
/-- .. and stored into -/
theorem EntIs.store {w : World} {b st : Nat} {key : Value} {f : Value → Option Value} (h : EntIs P k w b key st f) (t : TypeId) (val : Value) :
    ∃ w' f', (Instr.entryStore t (.map (some b)) (goInt (st : Nat)) val).run P w = .ok () w' ∧ MapIs P k w' b f' ∧ Put f f' key val ∧ w.grownBy w' (some b) := by
  obtain ⟨es, clock, hb, hs, hk, ⟨e0, he0, rfl, rfl⟩, hf⟩ := h
  obtain ⟨j, hj⟩ := List.mem_iff_getElem?.1 he0
  have hs' := stamped_val hs j val
  have hmm := mem_mod hs hj val
  obtain ⟨f', hf', hp⟩ := tells_put (f := f) hs' (key := e0.key) (val := val) ⟨{ e0 with val := val }, (hmm _).2 (.inr rfl), rfl, rfl⟩ (fun x hx v => by
    rw [hf x hx v]
    constructor
    · rintro ⟨e, he, h3, h4⟩; exact ⟨e, (hmm e).2 (.inl ⟨he, by rw [h3]; exact hx⟩), h3, h4⟩
    · rintro ⟨e, he, h3, h4⟩
      rcases (hmm e).1 he with ⟨he, _⟩ | rfl
      · exact ⟨e, he, h3, h4⟩
      · exact absurd h3.symm hx)
  refine ⟨setBlock w b (.map (es.modify j fun e => { e with val := val }) clock), f', ?_, ⟨_, _, heap_setBlock_same hb _, hs', ?_, hf'⟩, hp, block_grown _ _ _⟩
  · have hidx : es.findIdx? (fun e => ((e.born : Nat) : Int) == ((e0.born : Nat) : Int)) = some j := by
      rw [Go.WideElems.findIdx_arr]
      exact Go.WideElems.findIdx_born hs.2.1 hj
    simp [Instr.entryStore, MapKept.run_getObj_map hb, asInt, asIntOf, goInt, hidx, MapKept.run_setObj_map _ hb, Result.andThen, setBlock]
  · intro x hx
    rcases (hmm x).1 hx with ⟨hx, _⟩ | rfl
    · exact hk x hx
    · exact hk e0 he0
end
end Go.Proofs.YtflkiddmakeabaaGreatDoor

/- Groups of rows as keys of maps. -/
set_option linter.unusedVariables false
namespace Go.Proofs.YtflkiddmakeabaaGreatDoor
open Go.RowKit Zp
theorem gp_inj {a c a' c' : Nat} (h : Gp a c = Gp a' c') : a = a' ∧ c = c' := by
  simp [Gp] at h
  omega
end Go.Proofs.YtflkiddmakeabaaGreatDoor

/- Walks: tree.Root; tree.hidden, with whatever function it is handed. -/
set_option linter.unusedVariables false
namespace Go.Proofs.YtflkiddmakeabaaGreatDoor
open Go.RowKit Zp
/-- the root of rows, and no error -/
def TRootIs (l : List Int) (w : World) (e : Ending) (w' : World) : Prop :=
  ∃ g : Nat, e = .returned (.tuple #[.slice (some ⟨g, 0, none⟩) 4 4, .nilIface]) ∧ (∃ cs, Blk w' g 153 cs) ∧ SL w' (some ⟨g, 0, none⟩) l ∧ l.length = 4 ∧ (∀ x ∈ l, I64 x) ∧ w.heap.size ≤ g ∧ Below w.heap.size w w'
set_option maxRecDepth 100000 in
set_option maxHeartbeats 2000000 in
theorem tRoot_yes (p S b s k z : Nat) [NeZero p] (oo : Nat → Nat → Fin p) (A : Option Addr) (N c : Nat) (rs : List (List Int)) (hN : rs.length = N) (h1 : 1 ≤ N) (hN2 : N ≤ 65536) (hR : ∀ l ∈ rs, l.length * 8 + 80 ≤ 140737488355328)
    (w : World) (F : Fld w S b p) (G : Spg w s b k z oo) (hT : TB w A rs) :
    Calls Tryz.prog 51 #[.pointer (some ⟨s, 0, none⟩), .slice A N c] w (TRootIs (rootD (digL p k) (rowF rs) 0 N) w) := by
  have HR := Lib.hid (fun w => right_any (N : Int) w)
  have HB := Lib.hid (show rightB (N : Int) = true from decide_eq_true (by constructor <;> omega))
  have h := troot_any p S b s k z oo A N c rs hN hN2 hR N 0 h1 (by omega) w F G hT
  rw [show (0 + N) = N by omega] at h
  have HT := Lib.hid h
  clear h hT F G hR hN
  go_enter Tryz.func51, Tryz.ntmps51
  go_wp2_with fail
  refine (HR.out _).mono ?_
  rintro e w' ⟨rfl, rfl⟩
  rw [HB.out]
  go_wp2_with fail
  refine (HT.out).mono ?_
  rintro _ w1 ⟨g, rfl, h1, h2, h3, h4, h5, h6⟩
  have HFIN : Hid (TRootIs (rootD (digL p k) (rowF rs) 0 N) w (.returned (.tuple #[.slice (some ⟨g, 0, none⟩) 4 4, .nilIface])) w1) := Lib.hid ⟨g, rfl, h1, h2, h3, h4, h5, h6⟩
  clear h1 h2 h3 h4 h5 h6 HT HR HB
  go_wp2
  go_ret2
  exact HFIN.out
end Go.Proofs.YtflkiddmakeabaaGreatDoor

/- What was worked out of an Opening, in memory: a struct of two maps keyed by groups. -/
set_option linter.unusedVariables false
namespace Go.Proofs.YtflkiddmakeabaaGreatDoor
open Go.RowKit Zp Go.MapKept Go.ChangeMaps
/-- nothing that was there is turned but two blocks -/
structure GrowM (w w' : World) (c m : Nat) : Prop where
  os : w'.os = w.os
  tape : w'.tape = w.tape
  output : w'.output = w.output
  size : w.heap.size ≤ w'.heap.size
  block : ∀ x, x < w.heap.size → x ≠ c → x ≠ m → w'.heap[x]? = w.heap[x]?
section
variable {a b d : World} {c m B : Nat}
theorem GrowM.refl (w : World) (c m : Nat) : GrowM w w c m := ⟨rfl, rfl, rfl, Nat.le_refl _, fun _ _ _ _ => rfl⟩
theorem GrowM.trans (h : GrowM a b c m) (g : GrowM b d c m) : GrowM a d c m :=
  ⟨g.os.trans h.os, g.tape.trans h.tape, g.output.trans h.output, Nat.le_trans h.size g.size, fun x h1 h2 h3 => (g.block x (Nat.lt_of_lt_of_le h1 h.size) h2 h3).trans (h.block x h1 h2 h3)⟩
theorem GrowM.one (h : a.grownBy b (some c)) : GrowM a b c m := ⟨h.os, h.tape, h.output, h.size, fun x h1 h2 _ => h.block x h1 (fun e => h2 (by injection e))⟩
theorem GrowM.two (h : a.grownBy b (some m)) : GrowM a b c m := ⟨h.os, h.tape, h.output, h.size, fun x h1 _ h3 => h.block x h1 (fun e => h3 (by injection e))⟩
theorem GrowM.of (h : Below a.heap.size a b) : GrowM a b c m := ⟨h.os, h.tape, h.output, h.size, fun x h1 _ _ => h.block x h1⟩
theorem GrowM.below (h : GrowM a b c m) (hB : B ≤ a.heap.size) (hc : B ≤ c) (hm : B ≤ m) : Below B a b := ⟨h.os, h.tape, h.output, h.size, fun x hx => h.block x (by omega) (by omega) (by omega)⟩
theorem GrowM.drewN (h : GrowM a b c m) (n : Nat) : GrowM a (b.drewN n) c m := ⟨h.os, h.tape, h.output, h.size, h.block⟩
end
/-- a block that is a map -/
def IsMap (w : World) (b : Nat) : Prop := ∃ es clock, w.heap[b]? = some (.map es clock)
theorem IsMap.lt {w : World} {b : Nat} (h : IsMap w b) : b < w.heap.size := by
  obtain ⟨es, clock, hb⟩ := h
  exact (Array.getElem?_eq_some_iff.1 hb).1
theorem IsMap.ne_blk {w : World} {b g : Nat} {t : TypeId} {cs : Array Value} (h : IsMap w b) (hg : Blk w g t cs) : g ≠ b := by
  rintro rfl
  obtain ⟨es, clock, hb⟩ := h
  unfold Blk at hg
  rw [hb] at hg
  injection hg with hg
  cases hg
theorem IsMap.ne_cell {w : World} {b : Nat} {p : Addr} {v : Value} (h : IsMap w b) (hg : w.cell? p = some v) : p.block ≠ b := by
  rintro rfl
  obtain ⟨es, clock, hb⟩ := h
  simp [World.cell?, hb] at hg
theorem MapIs.isMap {P : Program} {k : TypeId} {w : World} {b : Nat} {f : Value → Option Value} (h : MapIs P k w b f) : IsMap w b := by
  obtain ⟨es, clock, hb, _⟩ := h
  exact ⟨es, clock, hb⟩
theorem EntIs.isMap {P : Program} {k : TypeId} {w : World} {b st : Nat} {key : Value} {f : Value → Option Value} (h : EntIs P k w b key st f) : IsMap w b := by
  obtain ⟨es, clock, hb, _⟩ := h
  exact ⟨es, clock, hb⟩
theorem EntIs.kept {P : Program} {k : TypeId} {w w' : World} {b st : Nat} {key : Value} {f : Value → Option Value} {row : Option Nat} (h : EntIs P k w b key st f) (hg : w.grownBy w' row) (hne : some b ≠ row) : EntIs P k w' b key st f := by
  have hlt := h.isMap.lt
  obtain ⟨es, clock, hb, r⟩ := h
  exact ⟨es, clock, (hg.block b hlt hne).trans hb, r⟩
section
variable {w w' : World} {c m : Nat}
theorem GrowM.cell (h : GrowM w w' c m) (hc : IsMap w c) (hm : IsMap w m) {p : Addr} {v : Value} (hp : w.cell? p = some v) : w'.cell? p = some v := by
  rw [← hp]
  exact World.cell?_of_block (h.block p.block (block_lt_of_cell hp) (hc.ne_cell hp) (hm.ne_cell hp))
theorem GrowM.blk (h : GrowM w w' c m) (hc : IsMap w c) (hm : IsMap w m) {g : Nat} {t : TypeId} {cs : Array Value} (hg : Blk w g t cs) : Blk w' g t cs :=
  (h.block g hg.lt (hc.ne_blk hg) (hm.ne_blk hg)).trans hg
end
/-- a digest as a value -/
def dgV (d : List Int) : Value := .agg (d.map vi).toArray
/-- what a map of lists has of a group -/
def LIs (w : World) : Option Value → Option (List Int) → Prop
  | none, none => True
  | some v, some l => ∃ A n c, v = .slice A n c ∧ l.length = n ∧ 0 < n ∧ n ≤ 281474976710656 ∧ SL w A l ∧ ∀ x ∈ l, I64 x
  | _, _ => False
def DMap (w : World) (b : Nat) (f : GF) : Prop := ∃ F, MapIs Tryz.prog 142 w b F ∧ ∀ a m, 1 ≤ m → a + m ≤ 65536 → F (Gp a (a + m)) = (f a m).map dgV
def LMap (w : World) (b : Nat) (f : GF) : Prop := ∃ F, MapIs Tryz.prog 142 w b F ∧ ∀ a m, 1 ≤ m → a + m ≤ 65536 → LIs w (F (Gp a (a + m))) (f a m)
/-- what was worked out -/
structure Way (w : World) (y bD bL : Nat) (fD fL : GF) : Prop where
  obj : Blk w y 210 #[.map (some bD), .map (some bL)]
  dig : DMap w bD fD
  lis : LMap w bL fL
  ne : bD ≠ bL
theorem LIs.mono {w w' : World} {o : Option Value} {l : Option (List Int)} (h : LIs w o l) (hs : ∀ A xs, SL w A xs → SL w' A xs) : LIs w' o l := by
  cases o <;> cases l
  · trivial
  · exact h
  · exact h
  · obtain ⟨A, n, c, h1, h2, h3, h4, h5, h6⟩ := h
    exact ⟨A, n, c, h1, h2, h3, h4, hs _ _ h5, h6⟩
section
variable {w w' : World} {y bD bL : Nat} {fD fL : GF}
theorem DMap.isMap (h : DMap w bD fD) : IsMap w bD := h.choose_spec.1.isMap
theorem LMap.isMap (h : LMap w bL fL) : IsMap w bL := h.choose_spec.1.isMap
theorem Way.mapD (h : Way w y bD bL fD fL) : IsMap w bD := h.dig.isMap
theorem Way.mapL (h : Way w y bD bL fD fL) : IsMap w bL := h.lis.isMap
theorem DMap.same (h : DMap w bD fD) (hb : w'.heap[bD]? = w.heap[bD]?) : DMap w' bD fD := by
  obtain ⟨F, h1, h2⟩ := h
  exact ⟨F, h1.same hb, h2⟩
theorem LMap.same (h : LMap w bL fL) (hb : w'.heap[bL]? = w.heap[bL]?) (hs : ∀ A xs, SL w A xs → SL w' A xs) : LMap w' bL fL := by
  obtain ⟨F, h1, h2⟩ := h
  exact ⟨F, h1.same hb, fun a m h3 h4 => (h2 a m h3 h4).mono hs⟩
theorem Way.below (h : Way w y bD bL fD fL) (hb : Below w.heap.size w w') : Way w' y bD bL fD fL :=
  ⟨Blk.below h.obj hb h.obj.lt, h.dig.same (hb.block _ h.mapD.lt), h.lis.same (hb.block _ h.mapL.lt) (fun A xs hs => hs.below hb), h.ne⟩
end
end Go.Proofs.YtflkiddmakeabaaGreatDoor

/- A region that draws its order, walked by hand: what yields wherever S holds is taken first. Of no program. -/
set_option linter.unusedVariables false
namespace Go.Proofs.YtflkiddmakeabaaGreatDoor
open Go.RowKit
theorem wpAnyH_take_at {P : Program} {ops : Array Oper} {Q : Exit → Act → World → Prop} {md : Region.Mode} {S : World → Prop} {i d : Nat} {oi : Oper} {v : Value} {fuel : Nat} {listed : Array Bool} {a : Act} {w : World} (hi : ops[i]? = some oi) (hd : oi.dst = some d)
    (hs : Region.noSelect ops = true) (hf : Region.free md ops listed i = true) (hr : (Region.ready md ops listed).contains i = true)
    (hQ : ∀ c a w, Q (.panic c) (a.put (some d) v) w → Q (.panic c) a w) (hy : YieldsIf P ops S oi v a) (hS : S w)
    (h : wpAnyH P md ops Q S fuel (listed.setIfInBounds i true) (a.put (some d) v) w) : wpAnyH P md ops Q S (fuel + 1) listed a w := by
  rw [← hd] at h hQ
  exact wpAnyH_take hi hs hf hr hQ hy hS h
end Go.Proofs.YtflkiddmakeabaaGreatDoor

/- The walk of tree.way.work: what an Opening shows is worked out, group by group. -/
set_option linter.unusedVariables false
namespace Go.Proofs.YtflkiddmakeabaaGreatDoor
open Go.RowKit Zp Go.MapKept Go.ChangeMaps
theorem TB.tail {w : World} {ad : Addr} {l : List Int} {ls : List (List Int)} (h : TB w (some ad) (l :: ls)) : TB w (some (ad.add 1)) ls := fun k hk => by
  obtain ⟨ad', A, n, c, e, h2, h3, h4⟩ := h (k + 1) (by simpa using hk)
  injection e with e
  subst e
  refine ⟨ad.add 1, A, n, c, rfl, ?_, ?_, h4⟩
  · rw [add_of_add, Nat.add_comm 1 k]; exact h2
  · rw [add_of_add, Nat.add_comm 1 k]; exact h3
theorem TB.none_ (w : World) (A : Option Addr) : TB w A [] := fun k hk => absurd hk (by simp)
theorem DMap.put {w' : World} {bD a m : Nat} {fD : GF} {F F' : Value → Option Value} {d : List Int} (h : ∀ a m, 1 ≤ m → a + m ≤ 65536 → F (Gp a (a + m)) = (fD a m).map dgV)
    (hm : MapIs Tryz.prog 142 w' bD F') (hp : Put F F' (Gp a (a + m)) (dgV d)) : DMap w' bD (updF fD a m d) := by
  refine ⟨F', hm, fun a' m' h1 h2 => ?_⟩
  by_cases e : a' = a ∧ m' = m
  · obtain ⟨rfl, rfl⟩ := e
    rw [updF_same, hp.1]; rfl
  · rw [updF_other _ _ e, hp.2 _ (fun he => e ?_), h a' m' h1 h2]
    have := gp_inj he
    omega
end Go.Proofs.YtflkiddmakeabaaGreatDoor

/- tree.way.work at a group that is shown: what is laid into both maps; a group of one row. -/
set_option linter.unusedVariables false
namespace Go.Proofs.YtflkiddmakeabaaGreatDoor
open Go.RowKit Zp Go.MapKept Go.ChangeMaps
theorem LMap.put {w w' : World} {bL a m : Nat} {fL : GF} {F F' : Value → Option Value} {l : List Int} {v : Value} (h : ∀ a m, 1 ≤ m → a + m ≤ 65536 → LIs w (F (Gp a (a + m))) (fL a m)) (hs : ∀ A xs, SL w A xs → SL w' A xs)
    (hm : MapIs Tryz.prog 142 w' bL F') (hp : Put F F' (Gp a (a + m)) v) (hv : LIs w' (some v) (some l)) : LMap w' bL (updF fL a m l) := by
  refine ⟨F', hm, fun a' m' h1 h2 => ?_⟩
  by_cases e : a' = a ∧ m' = m
  · obtain ⟨rfl, rfl⟩ := e
    rw [updF_same, hp.1]; exact hv
  · rw [updF_other _ _ e, hp.2 _ (fun he => e ?_)]
    · exact (h a' m' h1 h2).mono hs
    · have := gp_inj he
      omega
end Go.Proofs.YtflkiddmakeabaaGreatDoor
