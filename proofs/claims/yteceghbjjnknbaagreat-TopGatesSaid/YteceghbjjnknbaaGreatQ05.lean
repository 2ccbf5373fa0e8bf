/- A bundle of texts: Lv1, Pl3, Ta0, Tb, Arg, Rowm, Sz, Oa, Go, Vals, Sm1, Gw1, Pu, Tg, Mp, Gk, Bs, Bl, Lt, Cc. -/
import Derived.Test.YteceghbjjnknbaaGreatQ02
import Derived.Test.YteceghbjjnknbaaGreatQ04
import Derived.ChangeSlices
import Derived.Test.YteceghbjjnknbaaGreatQ03
import Derived.SizedLaws
import Derived.Deep.Matrix
import Derived.Lib.SmallJoins
import Derived.ChangeOld
import Derived.Below
import Derived.OpenShut
import Derived.Deep.Slices
import Derived.Deep.Fields
import Derived.ChangeSame
import Derived.Test.YteceghbjjnknbaaGreatQ00
import Derived.IntWalk
import Derived.Maps.Own
import Derived.WideKeyEntry
import Derived.DeepKeys4
import Derived.BigQuiet
import Derived.WalkArith
import Derived.Lib.Walk
import Derived.Deep.LoopGhost
import Derived.Deep.Draws
import Derived.Lib.AppendZeros
set_option linter.unusedVariables false
set_option linter.unusedSimpArgs false
namespace Go.Proofs.YteceghbjjnknbaaGreat
open Go.RowKit Zp
inductive New_ (p : Int) (w : World) (e : Ending) (w' : World) : Prop
  | no (h : ¬ (3 ≤ p ∧ p ≤ 2147483647 ∧ IsPrime p.toNat)) (he : e = NoField) (hw : w = w')
  | yes (n : Nat) (h : p = n) (h3 : 3 ≤ n) (hm : n ≤ 2147483647) (hp : IsPrime n) (hF : ∀ h0 : NeZero n, MadeField n w e w')
theorem new_all (p : Int) (w : World) : Calls Tryz.prog 55 #[vi p] w fun e w' => New_ p w e w' := by
  by_cases h : p < 3 ∨ 2147483647 < p
  · exact (new_no p w h).mono fun e w' ⟨h1, h2⟩ => .no (by omega) h1 h2
  · obtain ⟨n, rfl⟩ := Int.eq_ofNat_of_zero_le (a := p) (by omega)
    by_cases hp : IsPrime n
    · haveI := hp.ne
      exact (new_prime n w (by omega) (by omega) hp).mono fun e w' hm => .yes n rfl (by omega) (by omega) hp (fun h0 => hm)
    · exact (new_composite n w (by omega) (by omega) hp).mono fun e w' ⟨h1, h2⟩ => .no (by rintro ⟨_, _, h⟩; exact hp (by simpa using h)) h1 h2
abbrev HasField (p : Int) : Prop := 3 ≤ p ∧ p ≤ 2147483647 ∧ IsPrime p.toNat
theorem new_none (p : Int) (w : World) (h : ¬ HasField p) : Calls Tryz.prog 55 #[vi p] w fun e w' => e = NoField ∧ w = w' :=
  (new_all p w).mono fun e w' h' => by
    cases h' with
    | no _ h1 h2 => exact ⟨h1, h2⟩
    | yes n h1 h3 hm hp _ => exact absurd ⟨by omega, by omega, by rw [h1]; simpa using hp⟩ h
end Go.Proofs.YteceghbjjnknbaaGreat

namespace Go.Proofs.YteceghbjjnknbaaGreat
open Go.RowKit Zp
set_option maxHeartbeats 2000000 in
theorem spnew_none (p S b : Nat) [NeZero p] (h23 : p < 23) (w : World) (F : Fld w S b p) :
    Calls Tryz.prog 17 #[.pointer (some ⟨b, 0, none⟩)] w fun e w' => e = .returned (.tuple #[.pointer none, .iface 71 (.int .i64 3)]) ∧ w = w' := by
  have hcb := F.c0
  have tq : ((p : Int) < 23) = True := by simp; omega
  go_enter Tryz.func17, Tryz.ntmps17
  go_wp2_with (go_at_call 18; refine (p_any p b _ (by exact hcb)).mono ?_; rintro _ _ ⟨rfl, rfl⟩)
  go_ret2
  exact ⟨rfl, rfl⟩
end Go.Proofs.YteceghbjjnknbaaGreat

namespace Go.Proofs.YteceghbjjnknbaaGreat
open Go.RowKit Zp
set_option maxHeartbeats 2000000 in
theorem tplain_some (n : Nat) [NeZero n] (h1 : 3 ≤ n) (h2 : n ≤ 2147483647) (hp : IsPrime n) (w : World) : Calls Tryz.prog 16 #[vi n] w fun e w' => ∃ b, e = .returned (.pointer (some ⟨b, 0, none⟩)) ∧ Fld w' w'.heap.size b n ∧ Below w.heap.size w w' := by
  have HN := Lib.hid (new_prime n w h1 h2 hp)
  go_enter Tryz.func16, Tryz.ntmps16
  go_wp2_with fail
  refine HN.out.mono ?_
  rintro _ w1 ⟨b, rfl, hF, hb1, hlb⟩
  have HF := Lib.hid (And.intro hF hb1)
  clear hF hb1
  go_wp2
  go_ret
  exact ⟨b, rfl, HF.out.1, HF.out.2⟩
theorem tplain_none (p : Int) (w : World) (h : ¬ HasField p) : Calls Tryz.prog 16 #[vi p] w fun e w' => e = .returned (.pointer none) ∧ Below w.heap.size w w' := by
  have HN := Lib.hid (new_none p w h)
  go_enter Tryz.func16, Tryz.ntmps16
  go_wp2_with fail
  refine HN.out.mono ?_
  rintro _ _ ⟨rfl, rfl⟩
  go_wp2
  go_ret
  exact ⟨rfl, Below.refl _ _⟩
inductive SpongedT (p : Int) (w : World) (e : Ending) (w' : World) : Prop
  | no (h : ¬ (HasField p ∧ 23 ≤ p)) (he : e = .returned (.pointer none)) (hw : Below w.heap.size w w')
  | yes (n : Nat) (h : p = n) (h23 : 23 ≤ n) (hm : n ≤ 2147483647) (hp : IsPrime n) (hw : Below w.heap.size w w')
      (hF : ∀ h0 : NeZero n, ∃ (S s b k z : Nat) (oo : Nat → Nat → Fin n), e = .returned (.pointer (some ⟨s, 0, none⟩)) ∧ Fld w' S b n ∧ Spg w' s b k z oo ∧ w.heap.size ≤ s ∧ s < w'.heap.size)
set_option maxHeartbeats 2000000 in
theorem sponged_any (p : Int) (w : World) : Calls Tryz.prog 5 #[vi p] w fun e w' => SpongedT p w e w' := by
  by_cases h : HasField p
  · obtain ⟨n, rfl⟩ := Int.eq_ofNat_of_zero_le (a := p) (by have := h.1; omega)
    have hp : IsPrime n := by simpa using h.2.2
    haveI := hp.ne
    have HN := Lib.hid (tplain_some n (by have := h.1; omega) (by have := h.2.1; omega) hp w)
    have HH := Lib.hid h
    clear h
    by_cases h23 : 23 ≤ n
    · have H2 := Lib.hid h23
      clear h23
      go_enter Tryz.func5, Tryz.ntmps5
      go_wp2_with fail
      refine HN.out.mono ?_
      rintro _ w1 ⟨b, rfl, hF, hb1⟩
      have HF := Lib.hid (And.intro hF hb1)
      have HS := Lib.hid (spnew_any n w1.heap.size b H2.out w1 hF)
      clear hF hb1
      go_wp2_with fail
      refine HS.out.mono ?_
      rintro _ w2 ⟨rfl, hS, hb2⟩
      have HS2 := Lib.hid (And.intro hS hb2)
      clear hS hb2
      go_wp2
      go_ret
      refine .yes n rfl H2.out (by have := HH.out.2.1; omega) hp (HF.out.2.trans (HS2.out.2.mono HF.out.2.size)) fun h0 => ?_
      obtain ⟨k, z, oo, hS⟩ := HS2.out.1
      exact ⟨w1.heap.size, w1.heap.size, b, k, z, oo, rfl, HF.out.1.below HS2.out.2 (Nat.le_refl _), hS, HF.out.2.size, block_lt_of_cell hS.c0⟩
    · have H2 := Lib.hid (show n < 23 by omega)
      clear h23
      go_enter Tryz.func5, Tryz.ntmps5
      go_wp2_with fail
      refine HN.out.mono ?_
      rintro _ w1 ⟨b, rfl, hF, hb1⟩
      have HF := Lib.hid (And.intro hF hb1)
      have HS := Lib.hid (spnew_none n w1.heap.size b H2.out w1 hF)
      clear hF hb1
      go_wp2_with fail
      refine HS.out.mono ?_
      rintro _ _ ⟨rfl, rfl⟩
      go_wp2
      go_ret
      exact .no (fun h => by have := H2.out; have := h.2; omega) rfl HF.out.2
  · have HN := Lib.hid (tplain_none p w h)
    have HH := Lib.hid h
    clear h
    go_enter Tryz.func5, Tryz.ntmps5
    go_wp2_with fail
    refine HN.out.mono ?_
    rintro _ w1 ⟨rfl, hb1⟩
    have HB := Lib.hid hb1
    clear hb1
    go_wp2
    go_ret
    exact .no (fun h => HH.out h.1) rfl HB.out
end Go.Proofs.YteceghbjjnknbaaGreat

namespace Go.Proofs.YteceghbjjnknbaaGreat
open Go.RowKit
def TB (w : World) (A0 : Option Addr) (ts : List (List Int)) : Prop :=
  ∀ k (hk : k < ts.length), ∃ ad A n c, A0 = some ad ∧ (ad.add k).block < w.heap.size ∧ w.cell? (ad.add k) = some (.slice A n c) ∧ ts[k].length = n ∧ n < 9223372036854775808 ∧ SL w A ts[k] ∧ ∀ x ∈ ts[k], I64 x
theorem TB.below {w w' : World} {A0 : Option Addr} {ts : List (List Int)} (h : TB w A0 ts) (hb : Below w.heap.size w w') : TB w' A0 ts := fun k hk => by
  obtain ⟨ad, A, n, c, h1, h2, h3, h4, h5, h6, h7⟩ := h k hk
  exact ⟨ad, A, n, c, h1, Nat.lt_of_lt_of_le h2 hb.size, (hb.cell h2).trans h3, h4, h5, h6.below hb, h7⟩
theorem TB.drewN {w : World} {A0 : Option Addr} {ts : List (List Int)} (h : TB w A0 ts) (m : Nat) : TB (w.drewN m) A0 ts := h
end Go.Proofs.YteceghbjjnknbaaGreat

namespace Go.Proofs.YteceghbjjnknbaaGreat
open Go.RowKit
structure ArgS (w : World) (A : Option Addr) (n c : Nat) (xs : List Int) : Prop where
  len : xs.length = n
  cap : n ≤ c
  i64 : ∀ x ∈ xs, I64 x
  reach : c * 8 ≤ 140737488351232
  sl : SL w A xs
theorem ArgS.nil (w : World) : ArgS w none 0 0 [] := ⟨rfl, Nat.le_refl _, by simp, by omega, SL.nil⟩
theorem i64_of_wf {n : Int} (h : (Lit.int .i64 n).wf = true) : I64 n := by
  simpa [Lit.wf, IntKind.min, IntKind.max, IntKind.signed, IntKind.bits] using h
theorem ArgS.mk_ {w : World} {a : Addr} {len cap : Nat} {zs : List Int} (hl : len ≤ cap) (hm : cap ≤ maxLen) (hz : zs.length = cap) (lt : ∀ q ∈ MemPlace.row a zs.length, q.block < w.heap.size)
    (hcell : ∀ i, i < zs.length → w.cell? (a.add i) = some (.int .i64 (zs.getD i 0))) (hwz : ∀ n ∈ zs, (Lit.int .i64 n).wf = true) (hb : cap * 8 ≤ 140737488351232) : ArgS w (some a) len cap (zs.take len) := by
  have hlen : (zs.take len).length = len := by rw [List.length_take, hz]; omega
  refine ⟨hlen, hl, fun x hx => i64_of_wf (hwz x (List.mem_of_mem_take hx)), hb, ?_⟩
  refine ⟨by simp, fun hn => ⟨a, rfl, ?_, fun j u hu => ?_⟩⟩
  · have h0 : 0 < zs.length := by rw [hlen] at hn; omega
    have hc0 := hcell 0 h0
    have : (a.add 0).block < w.heap.size := by
      false_or_by_contra
      rename_i hge
      rw [World.cell?, Array.getElem?_eq_none (by omega)] at hc0
      cases hc0
    rwa [block_of_add] at this
  · rw [List.getElem?_map] at hu
    cases hj : (zs.take len)[j]? with
    | none => rw [hj] at hu; cases hu
    | some x =>
      rw [hj] at hu
      injection hu with hu
      rw [List.getElem?_take] at hj
      split at hj
      · have hjl : j < zs.length := (List.getElem?_eq_some_iff.1 hj).1
        rw [hcell j hjl, ← hu]
        simp [List.getD_eq_getElem?_getD, hj]
      · cases hj
section
variable {w w' : World} {A : Option Addr} {n c : Nat} {xs : List Int}
theorem ArgS.below (h : ArgS w A n c xs) (hb : Below w.heap.size w w') : ArgS w' A n c xs := ⟨h.len, h.cap, h.i64, h.reach, h.sl.below hb⟩
theorem ArgS.r8 (h : ArgS w A n c xs) : xs.length * 8 ≤ 140737488351232 := by
  have := h.reach
  have := h.cap
  have := h.len
  omega
end
end Go.Proofs.YteceghbjjnknbaaGreat

namespace Go.Proofs.YteceghbjjnknbaaGreat
open Go.RowKit
theorem info_ints : (Tryz.prog.info? 25).map (fun i => (i.zero, i.size, i.bytes)) = some (some (.slice none 0 0), 1, 24) := by kernel_rfl
abbrev OwnR (w : World) (base : Nat) (v : Value) (us : List Value) : Prop := w.ownsRow base 25 1 v us.length us
def RowsOwn (w : World) (base : Nat) (us : List Value) (ls : List (List Int)) : Prop := us.length = ls.length ∧ ∀ k (h : k < us.length) (h' : k < ls.length), Own w base us[k] ls[k]
theorem own_ne {w : World} {base base' : Nat} {v u : Value} {xs : List Int} {us : List Value} (h : Own w base v xs) (k : OwnR w base' u us) : v.ownBlock = none ∨ v.ownBlock ≠ u.ownBlock := by
  rcases h.2 with ⟨rfl, _⟩ | ⟨g, cap, cur, rfl, _, hg, _⟩
  · exact .inl rfl
  · refine .inr ?_
    rcases k.2 with ⟨rfl, _⟩ | ⟨g', cap', cur', rfl, _, hg', _⟩
    · intro e; cases e
    · intro e
      injection e with e
      subst e
      rw [hg] at hg'
      injection hg' with hg'
      injection hg' with _ ht
      exact absurd ht (by decide)
structure GrewR (w w' : World) (base : Nat) (v v' : Value) (us : List Value) : Prop where
  own : OwnR w' base v' us
  grown : w.grownBy w' v.ownBlock
theorem GrewR.below {w0 w w' : World} {base : Nat} {v v' : Value} {us vs : List Value} (h : GrewR w w' base v v' us) {B : Nat} (hb : Below B w0 w) (ho : OwnR w base v vs) (hB : B ≤ base) (hs : B ≤ w.heap.size) : Below B w0 w' :=
  hb.grown h.grown hs (fun k hk => Nat.le_trans hB (World.ownsRow.lt ho k hk).1)
theorem GrewR.rows {w w' : World} {base base2 : Nat} {v v' : Value} {us vs ws : List Value} {ls : List (List Int)} (h : GrewR w w' base v v' us) (ho : OwnR w base v vs) (hr : RowsOwn w base2 ws ls) : RowsOwn w' base2 ws ls :=
  ⟨hr.1, fun k h1 h2 => (hr.2 k h1 h2).grown h.grown (own_ne (hr.2 k h1 h2) ho)⟩
theorem run_appR (w : World) (base : Nat) (v : Value) (us : List Value) (A : Option Addr) (n c : Nat) (hown : OwnR w base v us) (hlen : us.length < 5864062014805) (hbase : base ≤ w.heap.size) (ty : TypeId) :
    ∃ v' w', (Builtin.append_ #[36, 36] ty #[v, .slice (some ⟨w.heap.size, 0, none⟩) 1 1]).run Tryz.prog (w.alloc (.cells #[.slice A n c] 25)) = .ok v' w' ∧ GrewR w w' base v v' (us ++ [.slice A n c]) := by
  obtain ⟨i0, hi, hz0, hz1, hz2⟩ := info_parts info_ints
  obtain ⟨v', w', hrun, h2, h3, _, h5⟩ := run_append_own_at (P := Tryz.prog) (w.alloc (.cells #[.slice A n c] 25)) base 36 ty 25 i0 _ 1 24 Tryz.underlying36 hi hz0 hz1 hz2 rfl (by omega)
    v us.length us (hown.alloc _) ⟨w.heap.size, 0, none⟩ 1 1 [.slice A n c] rfl (by
      intro j u hj
      match j, hj with
      | 0, hj => simp at hj; subst hj; simp [Addr.add]) (by simp [Value.oneCell']) (by simp only [maxLen]; omega) (by omega) (by simp; omega)
  refine ⟨v', w', hrun, ?_, grownBy_trans (World.grownBy_alloc w _ _) h3⟩
  have e : (us ++ [Value.slice A n c]).length = us.length + 1 := by simp
  rw [OwnR, e]
  exact h2
theorem wpList_appR {ops : Array Oper} {rest : List Oper} {o : Oper} {a : Act} {Q : Exit → Act → World → Prop} (w : World) (A : Option Addr) (n c : Nat) (hgd : o.guard = none) (s x : Operand)
    (ho : o.op = .call { callee := .builtin .append, args := #[s, x], argTypes := #[36, 36] })
    (base : Nat) (v : Value) (us : List Value) (hs : a.eval s = v) (hx : a.eval x = .slice (some ⟨w.heap.size, 0, none⟩) 1 1) (hown : OwnR w base v us) (hlen : us.length < 5864062014805) (hbase : base ≤ w.heap.size)
    (h : ∀ v' w', GrewR w w' base v v' (us ++ [.slice A n c]) → wpList Tryz.prog ops Q rest (a.put o.dst v') w') : wpList Tryz.prog ops Q (o :: rest) a (w.alloc (.cells #[.slice A n c] 25)) :=
  wpList_plain hgd fun _ hK => by
    obtain ⟨v', w', hrun, hg⟩ := run_appR w base v us A n c hown hlen hbase o.type
    unfold Oper.wp execOp
    simp only [ho, resolve, invoke, builtin, Sem.run_bind, Sem.run_pure, Result.andThen_ok, List.map_toArray, List.map_cons, List.map_nil, hs, hx, hrun]
    exact hK _ _ (h v' w' hg)
theorem RowsOwn.nil (w : World) (base : Nat) : RowsOwn w base [] [] := ⟨rfl, fun k h => absurd h (by simp)⟩
theorem RowsOwn.snoc {w : World} {base : Nat} {us : List Value} {ls : List (List Int)} {u : Value} {l : List Int} (h : RowsOwn w base us ls) (hu : Own w base u l) : RowsOwn w base (us ++ [u]) (ls ++ [l]) := by
  have hl := h.1
  refine ⟨by simp [hl], fun k h1 h2 => ?_⟩
  by_cases hk : k < us.length
  · rw [List.getElem_append_left hk, List.getElem_append_left (by omega)]
    exact h.2 k hk (by omega)
  · have e : k = us.length := by simp at h1; omega
    subst e
    rw [List.getElem_append_right (Nat.le_refl _), List.getElem_append_right (by omega)]
    simpa [hl] using hu
theorem RowsOwn.below {w w' : World} {base : Nat} {us : List Value} {ls : List (List Int)} (h : RowsOwn w base us ls) (hb : Below w.heap.size w w') : RowsOwn w' base us ls := ⟨h.1, fun k h1 h2 => (h.2 k h1 h2).below hb⟩
theorem RowsOwn.more {w : World} {base base' : Nat} {us : List Value} {ls : List (List Int)} (h : RowsOwn w base us ls) (hb : base' ≤ base) : RowsOwn w base' us ls := ⟨h.1, fun k h1 h2 => (h.2 k h1 h2).more hb⟩
theorem tb_own {w : World} {base base2 : Nat} {A : Option Addr} {n c : Nat} {us : List Value} {ls : List (List Int)} (h : OwnR w base (.slice A n c) us) (hr : RowsOwn w base2 us ls) (hi : ∀ l ∈ ls, ∀ x ∈ l, I64 x) : TB w A ls := fun k hk => by
  have hku : k < us.length := by rw [hr.1]; exact hk
  have hn : us.length = n := by
    rcases h.2 with ⟨e, h0⟩ | ⟨g, cap, cur, e, _⟩
    · injection e with _ e2 _; omega
    · injection e with _ e2 _; exact e2.symm
  subst hn
  have hrd := Reads.of_own h
  obtain ⟨ad, u, e1, e2, e3, e4⟩ := Reads.at_ (k := k) hrd (by omega)
  have e5 : u = us[k] := by
    rw [List.getElem?_eq_getElem hku] at e3
    injection e3 with e3
    exact e3.symm
  obtain ⟨A1, n1, c1, e6, e7, e8, e9, e10⟩ := (hr.2 k hku hk).shapeN
  have hm : maxLen < 9223372036854775808 := by simp [maxLen]
  exact ⟨ad, A1, n1, c1, e1, by rw [block_of_add]; exact e2, by rw [e4, e5, e6], e7, by omega, e10, hi _ (List.getElem_mem hk)⟩
theorem ownR_shape {w : World} {base : Nat} {v : Value} {us : List Value} (h : OwnR w base v us) : ∃ A n c, v = .slice A n c ∧ us.length = n ∧ n ≤ c := by
  rcases h.2 with ⟨rfl, h0⟩ | ⟨g, cap, cur, rfl, _, _, h1, _⟩
  · exact ⟨none, 0, 0, rfl, h0, Nat.le_refl _⟩
  · exact ⟨_, _, _, rfl, rfl, h1⟩
structure ArgM (w : World) (A : Option Addr) (n c : Nat) (ts : List (List Int)) : Prop where
  len : ts.length = n
  cap : n ≤ c
  max : c ≤ 9223372036854775807
  tb : TB w A ts
theorem ArgM.nil (w : World) : ArgM w none 0 0 [] := ⟨rfl, Nat.le_refl _, by omega, fun k hk => absurd hk (by simp)⟩
theorem ArgM.mk_ {w : World} {a : Addr} {len cap : Nat} {A : Nat → Option Addr} {L C : Nat → Nat} {Z : Nat → List Int} (hl : len ≤ cap) (hm : cap ≤ maxLen)
    (h : ∀ r, r < cap → w.cell? (a.add r) = some (.slice (A r) (L r) (C r)) ∧ L r ≤ C r ∧ C r ≤ maxLen ∧ (Z r).length = C r ∧ (∀ n ∈ Z r, (Lit.int .i64 n).wf = true) ∧ (A r = none → C r = 0) ∧
        ∀ a', A r = some a' → 0 ≤ a'.block ∧ ∀ c, c < C r → w.cell? (a'.add c) = some (.int .i64 ((Z r).getD c 0))) :
    ArgM w (some a) len cap ((List.range len).map fun r => (Z r).take (L r)) := by
  have hmm : maxLen ≤ 9223372036854775807 := by simp [maxLen]
  refine ⟨by simp, hl, by omega, fun k hk => ?_⟩
  have hk' : k < len := by simpa using hk
  obtain ⟨h1, h2, h3, h4, h5, h6, h7⟩ := h k (by omega)
  have e : ((List.range len).map fun r => (Z r).take (L r))[k] = (Z k).take (L k) := by simp
  rw [e]
  have hlen : ((Z k).take (L k)).length = L k := by rw [List.length_take, h4]; omega
  refine ⟨a, A k, L k, C k, rfl, block_lt_of_cell h1, h1, hlen, by omega, ⟨by simp, fun hn => ?_⟩, fun x hx => i64_of_wf (h5 x (List.mem_of_mem_take hx))⟩
  rw [hlen] at hn
  cases hA : A k with
  | none => have := h6 hA; omega
  | some a' =>
    obtain ⟨_, h8⟩ := h7 a' hA
    have hc0 := h8 0 (by omega)
    refine ⟨a', rfl, ?_, fun j u hu => ?_⟩
    · have := block_lt_of_cell hc0
      rwa [block_of_add] at this
    · rw [List.getElem?_map] at hu
      cases hj : ((Z k).take (L k))[j]? with
      | none => rw [hj] at hu; cases hu
      | some x =>
        rw [hj] at hu
        injection hu with hu
        rw [List.getElem?_take] at hj
        split at hj
        · have hjl : j < (Z k).length := (List.getElem?_eq_some_iff.1 hj).1
          rw [h8 j (by omega), ← hu]
          simp [List.getD_eq_getElem?_getD, hj]
        · cases hj
end Go.Proofs.YteceghbjjnknbaaGreat

namespace Go.Proofs.YteceghbjjnknbaaGreat
open Go.RowKit Go.ChangeShapes
theorem weightsAll_mem {H : Type} {P : Program} {e : TypeId} {d : DataW H} {n : Nat} : ∀ {l : List (DataW H)}, d ∈ l → n ∈ d.weights P e → n ∈ DataW.weightsAll P e l
  | x :: l, hd, hn => by
    simp only [DataW.weightsAll, List.mem_append]
    rcases List.mem_cons.1 hd with rfl | h
    · exact .inl hn
    · exact .inr (weightsAll_mem h hn)
theorem sized_row {H : Type} {P : Program} {ts : List TypeId} {ds : List (DataW H)} (h : (DataW.weightsEach P ts ds).all (· ≤ reachBytes) = true) {j : Nat} {t e q : TypeId} {elems spare el sp : List (DataW H)} (ht : ts[j]? = some t) (hd : ds[j]? = some (.slice elems spare)) (hu : P.underlying t = some (.slice e)) (hv : P.underlying e = some (.slice q))
    (hm : .slice el sp ∈ elems) : (el.length + sp.length) * P.bytesOf q ≤ reachBytes := by
  have h1 : (el.length + sp.length) * P.bytesOf q ∈ DataW.weights P e (.slice el sp) := by simp [DataW.weights, hv]
  have h2 := weightsAll_mem hm h1
  have := List.all_eq_true.1 h _ (DataW.weights_mem_each ht hd _ (by simp only [DataW.weights, hu]; exact List.mem_cons_of_mem _ (List.mem_append_left _ h2)))
  simpa using this
theorem bytesI : Tryz.prog.bytesOf 3 = 8 := by kernel_rfl
theorem bytesR : Tryz.prog.bytesOf 25 = 24 := by kernel_rfl
structure ArgMS (w : World) (A : Option Addr) (n c : Nat) (ts : List (List Int)) : Prop where
  m : ArgM w A n c ts
  n24 : n ≤ 5864062014805
  r8 : ∀ t ∈ ts, t.length * 8 ≤ 140737488351232
theorem ArgMS.rows {w : World} {A : Option Addr} {n c : Nat} {ts : List (List Int)} (h : ArgMS w A n c ts) : ∀ t ∈ ts, t.length ≤ 17592186044416 := fun t ht => by have := h.r8 t ht; omega
theorem ArgMS.nil (w : World) : ArgMS w none 0 0 [] := ⟨ArgM.nil _, by omega, by simp⟩
theorem ArgMS.i64 {w : World} {A : Option Addr} {n c : Nat} {ts : List (List Int)} (h : ArgMS w A n c ts) : ∀ t ∈ ts, ∀ x ∈ t, I64 x := fun t ht => by
  obtain ⟨k, hk, rfl⟩ := List.mem_iff_getElem.1 ht
  obtain ⟨_, _, _, _, _, _, _, _, _, _, hi⟩ := h.m.tb k hk
  exact hi
theorem ArgMS.mk_ {H : Type} {tys : List TypeId} {ds : List (DataW H)} (hsz : (DataW.weightsEach Tryz.prog tys ds).all (· ≤ reachBytes) = true) {j : Nat} (ht : tys[j]? = some 36) {w : World} {a : Addr} {len cap : Nat} {A : Nat → Option Addr} {L C : Nat → Nat} {Z : Nat → List Int}
    (hd : ds[j]? = some (.slice ((List.range len).map fun r => Go.Deep.intRow .i64 (A r) (L r) (Z r)) ((List.range (cap - len)).map fun j => Go.Deep.intRow .i64 (A (len + j)) (L (len + j)) (Z (len + j))))) (hl : len ≤ cap) (hm : cap ≤ maxLen)
    (h : ∀ r, r < cap → w.cell? (a.add r) = some (.slice (A r) (L r) (C r)) ∧ L r ≤ C r ∧ C r ≤ maxLen ∧ (Z r).length = C r ∧ (∀ n ∈ Z r, (Lit.int .i64 n).wf = true) ∧ (A r = none → C r = 0) ∧
        ∀ a', A r = some a' → 0 ≤ a'.block ∧ ∀ c, c < C r → w.cell? (a'.add c) = some (.int .i64 ((Z r).getD c 0))) :
    ArgMS w (some a) len cap ((List.range len).map fun r => (Z r).take (L r)) := by
  refine ⟨ArgM.mk_ hl hm h, ?_, fun t hmem => ?_⟩
  · have h1 := sized_slice hsz (j := j) (t := 36) (e := 25) ht hd Tryz.underlying36
    rw [bytesR] at h1
    simp only [List.length_map, List.length_range, reachBytes] at h1
    omega
  · obtain ⟨r, hr, rfl⟩ := List.mem_map.1 hmem
    have hr' := List.mem_range.1 hr
    obtain ⟨_, h2, _, h4, _, h6, _⟩ := h r (by omega)
    rw [List.length_take]
    cases hA : A r with
    | none => have := h6 hA; omega
    | some a' =>
      have hin : DataW.slice (H := H) (lits .i64 ((Z r).take (L r))) (lits .i64 ((Z r).drop (L r))) ∈ (List.range len).map fun r => Go.Deep.intRow .i64 (A r) (L r) (Z r) :=
        List.mem_map.2 ⟨r, hr, by simp only [Go.Deep.intRow, hA]⟩
      have h1 := sized_row hsz (j := j) ht hd Tryz.underlying36 Tryz.underlying25 hin
      rw [bytesI] at h1
      simp only [lits, List.length_map, List.length_take, List.length_drop, reachBytes] at h1
      omega
end Go.Proofs.YteceghbjjnknbaaGreat

namespace Go.Proofs.YteceghbjjnknbaaGreat
open Go.RowKit Go.ChangeShapes Go.WideShapes Go.ChangeAt
theorem sized_agg {H : Type} {P : Program} {ts : List TypeId} {ds : List (DataW H)} (h : (DataW.weightsEach P ts ds).all (· ≤ reachBytes) = true) {j : Nat} {t : TypeId} {fs : Array Field} {parts : List (DataW H)} (ht : ts[j]? = some t) (hd : ds[j]? = some (.agg parts)) (hu : P.underlying t = some (.struct fs)) :
    (DataW.weightsEach P (fs.toList.map (·.type)) parts).all (· ≤ reachBytes) = true := by
  rw [List.all_eq_true]
  intro n hn
  refine List.all_eq_true.1 h n (DataW.weights_mem_each ht hd n ?_)
  simp only [DataW.weights, hu]; exact hn
end Go.Proofs.YteceghbjjnknbaaGreat

namespace Go.Proofs.YteceghbjjnknbaaGreat
open Go.RowKit Go.ChangeShapes Go.WideShapes Go.ChangeAt Go.Deep
structure GateR where
  k : Int
  a : Int
  b : Int
def GTE (w : World) (ad : Addr) (i : Nat) (g : GateR) : Prop := ad.block < w.heap.size ∧ w.cell? (ad.add (i * 3)) = some (vi g.k) ∧ w.cell? (ad.add (i * 3 + 1)) = some (vi g.a) ∧ w.cell? (ad.add (i * 3 + 2)) = some (vi g.b) ∧ I64 g.k ∧ I64 g.a ∧ I64 g.b
def GT (w : World) (A : Option Addr) (gs : List GateR) : Prop := ∀ i (h : i < gs.length), ∃ ad, A = some ad ∧ GTE w ad i gs[i]
def LT (w : World) (A : Option Addr) (Ls : List (List GateR)) : Prop := ∀ i (h : i < Ls.length), ∃ (ad : Addr) (A1 : Option Addr) (n1 c1 : Nat), A = some ad ∧ ad.block < w.heap.size ∧ w.cell? (ad.add i) = some (.slice A1 n1 c1) ∧ Ls[i].length = n1 ∧ n1 ≤ 5864062014805 ∧ GT w A1 Ls[i]
theorem GTE.below {w w' : World} {ad : Addr} {i : Nat} {g : GateR} (h : GTE w ad i g) (hb : Below w.heap.size w w') : GTE w' ad i g := by
  obtain ⟨h0, h1, h2, h3, h4⟩ := h
  exact ⟨Nat.lt_of_lt_of_le h0 hb.size, (hb.cell (block_lt_of_cell h1)).trans h1, (hb.cell (block_lt_of_cell h2)).trans h2, (hb.cell (block_lt_of_cell h3)).trans h3, h4⟩
theorem GT.below {w w' : World} {A : Option Addr} {gs : List GateR} (h : GT w A gs) (hb : Below w.heap.size w w') : GT w' A gs := fun i hi => by
  obtain ⟨ad, h1, h2⟩ := h i hi
  exact ⟨ad, h1, h2.below hb⟩
theorem LT.below {w w' : World} {A : Option Addr} {Ls : List (List GateR)} (h : LT w A Ls) (hb : Below w.heap.size w w') : LT w' A Ls := fun i hi => by
  obtain ⟨ad, A1, n1, c1, h1, h2, h3, h4, h5, h6⟩ := h i hi
  exact ⟨ad, A1, n1, c1, h1, Nat.lt_of_lt_of_le h2 hb.size, (hb.cell (block_lt_of_cell h3)).trans h3, h4, h5, h6.below hb⟩
theorem GT.nil (w : World) (A : Option Addr) : GT w A [] := fun i hi => by simp at hi
theorem LT.nil (w : World) (A : Option Addr) : LT w A [] := fun i hi => by simp at hi
theorem GTE.cells {w : World} {ad : Addr} {i : Nat} {g : GateR} (h : GTE w ad i g) : w.cell? (ad.add (i * 3)) = some (vi g.k) ∧ w.cell? ⟨(ad.add (i * 3)).block, (ad.add (i * 3)).off + 1, none⟩ = some (vi g.a) ∧ w.cell? ⟨(ad.add (i * 3)).block, (ad.add (i * 3)).off + 2, none⟩ = some (vi g.b) := by
  obtain ⟨_, h1, h2, h3, _⟩ := h
  have e1 : ad.add (i * 3 + 1) = ⟨(ad.add (i * 3)).block, (ad.add (i * 3)).off + 1, none⟩ := by rw [← add_of_add]; simp [Addr.add]
  have e2 : ad.add (i * 3 + 2) = ⟨(ad.add (i * 3)).block, (ad.add (i * 3)).off + 2, none⟩ := by rw [← add_of_add]; simp [Addr.add]
  exact ⟨h1, by rw [← e1]; exact h2, by rw [← e2]; exact h3⟩
theorem bytesG : Tryz.prog.bytesOf 61 = 24 := by kernel_rfl
theorem cellsG : Tryz.prog.cellsOf 61 = 3 := by kernel_rfl
theorem bytesL : Tryz.prog.bytesOf 62 = 24 := by kernel_rfl
theorem cellsL : Tryz.prog.cellsOf 62 = 1 := by kernel_rfl
theorem sized_elemG {H : Type} {P : Program} {ts : List TypeId} {ds : List (DataW H)} (h : (DataW.weightsEach P ts ds).all (· ≤ reachBytes) = true) {j : Nat} {t e : TypeId} {elems spare : List (DataW H)} (ht : ts[j]? = some t) (hd : ds[j]? = some (.slice elems spare)) (hu : P.underlying t = some (.slice e)) {x : DataW H} (hm : x ∈ elems) :
    (DataW.weightsEach P [e] [x]).all (· ≤ reachBytes) = true := by
  rw [List.all_eq_true]
  intro n hn
  have h1 : n ∈ DataW.weights P e x := by simpa [DataW.weightsEach] using hn
  have h2 := weightsAll_mem hm h1
  exact List.all_eq_true.1 h n (DataW.weights_mem_each ht hd n (by simp only [DataW.weights, hu]; exact List.mem_cons_of_mem _ (List.mem_append_left _ h2)))
theorem list_of {α : Type} {P : Nat → α → Prop} : ∀ (n : Nat), (∀ k, k < n → ∃ x, P k x) → ∃ l : List α, l.length = n ∧ ∀ k (h : k < l.length), P k l[k]
  | 0, _ => ⟨[], rfl, fun k hk => by simp at hk⟩
  | n + 1, h => by
    obtain ⟨l, h1, h2⟩ := list_of n fun k hk => h k (by omega)
    obtain ⟨x, hx⟩ := h n (by omega)
    refine ⟨l ++ [x], by simp [h1], fun k hk => ?_⟩
    by_cases e : k < l.length
    · rw [List.getElem_append_left e]
      exact h2 k e
    · have ek : k = n := by simp at hk; omega
      subst ek
      rw [List.getElem_append_right (by omega)]
      simp only [h1, Nat.sub_self, List.getElem_singleton]
      exact hx
set_option maxRecDepth 100000 in
set_option maxHeartbeats 1000000 in
theorem arg_gates {H : Type} {enc : TypeId × Value → H} {tys : List TypeId} {ds : List (DataW H)} (hsz : (DataW.weightsEach Tryz.prog tys ds).all (· ≤ reachBytes) = true) {j : Nat} (ht : tys[j]? = some 62) {W : World} {n : Nat} {u : Value} {y : DataW H × List MemPlace} (hd : ds[j]? = some y.1)
    (hf : DataW.trod enc Tryz.prog W 0 (fun _ => true) true n 62 [u] = some y) : ∃ A len cap gs, u = .slice A len cap ∧ gs.length = len ∧ len ≤ cap ∧ len ≤ 5864062014805 ∧ GT W A gs := by
  rcases open_slice Tryz.underlying62 hf with ⟨hcs, hx⟩ | ⟨a, len, cap, m, n', D, Pl, hcs, _, hl, hm, hmm, hx, hi⟩
  · simp at hcs
    subst hcs
    exact ⟨none, 0, 0, [], rfl, rfl, by omega, by omega, GT.nil _ _⟩
  · simp at hcs
    subst hcs
    rw [hx] at hd
    simp only [if_true] at hmm
    subst hmm
    rw [cellsG] at hi
    have hmx : len ≤ 5864062014805 := by
      have h := sized_slice hsz (j := j) (t := 62) (e := 61) ht hd Tryz.underlying62
      rw [bytesG] at h
      simp only [List.length_map, List.length_range, reachBytes] at h
      omega
    have hel : ∀ k, k < len → ∃ g : GateR, GTE W a k g := fun k hk => by
      obtain ⟨cs', hc, ht'⟩ := hi k (by omega)
      obtain ⟨ys, n2, _, hy, hlen, hyl, hg⟩ := DataW.trod_struct Tryz.underlying61 ht'
      obtain ⟨_, hcl, hat⟩ := World.cells?_some hc
      have hcl3 : cs'.length = 3 := hcl
      have hys3 : ys.length = 3 := hyl
      obtain ⟨c0, c1, c2, rfl⟩ : ∃ a b c, cs' = [a, b, c] := by
        match cs', hcl3 with
        | [a, b, c], _ => exact ⟨a, b, c, rfl⟩
      obtain ⟨y0, y1, y2, rfl⟩ : ∃ a b c, ys = [a, b, c] := by
        match ys, hys3 with
        | [a, b, c], _ => exact ⟨a, b, c, rfl⟩
      have k1 : Tryz.prog.cellsOf 3 = 1 := by kernel_rfl
      have g0 := hg 0 _ rfl
      have g1 := hg 1 _ rfl
      have g2 := hg 2 _ rfl
      change DataW.trod enc Tryz.prog W 0 (fun _ => true) true n2 3 ((([c0, c1, c2] : List Value).drop 0).take (Tryz.prog.cellsOf 3)) = some y0 at g0
      change DataW.trod enc Tryz.prog W 0 (fun _ => true) true n2 3 ((([c0, c1, c2] : List Value).drop 1).take (Tryz.prog.cellsOf 3)) = some y1 at g1
      change DataW.trod enc Tryz.prog W 0 (fun _ => true) true n2 3 ((([c0, c1, c2] : List Value).drop 2).take (Tryz.prog.cellsOf 3)) = some y2 at g2
      rw [k1] at g0 g1 g2
      obtain ⟨i0, e0, _, w0⟩ := DataW.trod_int Tryz.underlying3 g0
      obtain ⟨i1, e1, _, w1⟩ := DataW.trod_int Tryz.underlying3 g1
      obtain ⟨i2, e2, _, w2⟩ := DataW.trod_int Tryz.underlying3 g2
      simp at e0 e1 e2
      subst e0 e1 e2
      have h0 := hat 0 (by omega)
      have h1 := hat 1 (by omega)
      have h2 := hat 2 (by omega)
      rw [add_of_add] at h0 h1 h2
      have hb := block_lt_of_cell h0
      rw [block_of_add] at hb
      exact ⟨⟨i0, i1, i2⟩, hb, h0, h1, h2, i64_of_wf w0, i64_of_wf w1, i64_of_wf w2⟩
    obtain ⟨gs, h1, h2⟩ := list_of len hel
    exact ⟨some a, len, m, gs, rfl, h1, by omega, hmx, fun k hk => ⟨a, rfl, h2 k hk⟩⟩
set_option maxRecDepth 100000 in
set_option maxHeartbeats 1000000 in
theorem arg_layers {H : Type} {enc : TypeId × Value → H} {tys : List TypeId} {ds : List (DataW H)} (hsz : (DataW.weightsEach Tryz.prog tys ds).all (· ≤ reachBytes) = true) {j : Nat} (ht : tys[j]? = some 22) {W : World} {n : Nat} {u : Value} {y : DataW H × List MemPlace} (hd : ds[j]? = some y.1)
    (hf : DataW.trod enc Tryz.prog W 0 (fun _ => true) true n 22 [u] = some y) : ∃ A len cap Ls, u = .slice A len cap ∧ Ls.length = len ∧ len ≤ cap ∧ len ≤ 5864062014805 ∧ LT W A Ls := by
  rcases open_slice Tryz.underlying22 hf with ⟨hcs, hx⟩ | ⟨a, len, cap, m, n', D, Pl, hcs, _, hl, hm, hmm, hx, hi⟩
  · simp at hcs
    subst hcs
    exact ⟨none, 0, 0, [], rfl, rfl, by omega, by omega, LT.nil _ _⟩
  · simp at hcs
    subst hcs
    rw [hx] at hd
    simp only [if_true] at hmm
    subst hmm
    rw [cellsL] at hi
    have hmx : len ≤ 5864062014805 := by
      have h := sized_slice hsz (j := j) (t := 22) (e := 62) ht hd Tryz.underlying22
      rw [bytesL] at h
      simp only [List.length_map, List.length_range, reachBytes] at h
      omega
    have hel : ∀ k, k < len → ∃ gs : List GateR, ∃ (A1 : Option Addr) (n1 c1 : Nat), a.block < W.heap.size ∧ W.cell? (a.add k) = some (.slice A1 n1 c1) ∧ gs.length = n1 ∧ n1 ≤ 5864062014805 ∧ GT W A1 gs := fun k hk => by
      obtain ⟨cs', hc, ht'⟩ := hi k (by omega)
      obtain ⟨_, hcl, hat⟩ := World.cells?_some hc
      have hcl1 : cs'.length = 1 := hcl
      obtain ⟨c0, rfl⟩ : ∃ a, cs' = [a] := by
        match cs', hcl1 with
        | [a], _ => exact ⟨a, rfl⟩
      have h0 := hat 0 (by omega)
      rw [add_of_add, Nat.mul_one, Nat.add_zero] at h0
      have hsz2 := sized_elemG hsz ht hd Tryz.underlying22 (x := D k) (List.mem_map.2 ⟨k, List.mem_range.2 hk, rfl⟩)
      obtain ⟨A1, l1, c1, gs, e0, g1, g2, g3, g4⟩ := arg_gates hsz2 (j := 0) rfl (y := (D k, Pl k)) rfl ht'
      subst e0
      have hb := block_lt_of_cell h0
      rw [block_of_add] at hb
      exact ⟨gs, A1, l1, c1, hb, h0, g1, g3, g4⟩
    obtain ⟨Ls, h1, h2⟩ := list_of len hel
    refine ⟨some a, len, m, Ls, rfl, h1, by omega, hmx, fun k hk => ?_⟩
    obtain ⟨A1, n1, c1, g1, g2, g3, g4, g5⟩ := h2 k hk
    exact ⟨a, A1, n1, c1, rfl, g1, g2, g3, g4, g5⟩
end Go.Proofs.YteceghbjjnknbaaGreat

namespace Go.Proofs.YteceghbjjnknbaaGreat
open Go.RowKit Zp
theorem root_cond {p : Nat} [NeZero p] (hp : IsPrime p) {n : Nat} (h : SizeOk p n) {r : Fin p} (hr : Ord r n) : n = 1 ∨ ∃ m, n = 2 * m ∧ pw r m = -1 := by
  obtain ⟨⟨k, _, e⟩, _⟩ := h
  cases k with
  | zero => exact .inl e
  | succ k =>
    have e2 : n = 2 * 2 ^ k := by rw [e, Nat.pow_succ, Nat.mul_comm]
    rw [e2] at hr
    exact .inr ⟨2 ^ k, e2, ord_half hp (Nat.pow_pos (by omega)) hr⟩
def ValRel {p : Nat} [NeZero p] (s : Fin p) (n : Nat) (xs : List Int) (w : World) (g : Nat) (sh i : Value) (wr : World) : Prop := ∃ (k : Nat) (L : List (Fin p)), k ≤ xs.length ∧ i = vi k ∧ sh = vi (fv (pw s k)) ∧ OwnE wr w.heap.size g n L ∧ Wrapped s n (els p xs) k L ∧ Below w.heap.size w wr
def GivesB (xs : List Int) (w : World) (e : Ending) (w' : World) : Prop := ∃ A c, e = .returned (.slice A xs.length c) ∧ xs.length ≤ c ∧ c ≤ maxLen ∧ SL w' A xs ∧ Below w.heap.size w w' ∧ ∀ ad, A = some ad → ∃ cs, Blk w' ad.block 3 cs
theorem GivesB.g {xs : List Int} {w w' : World} {e : Ending} (h : GivesB xs w e w') : Gives xs w e w' := by
  obtain ⟨A, c, h1, h2, h3, h4, h5, _⟩ := h
  exact ⟨A, c, h1, h2, h3, h4, h5⟩
def GivesW (xs : List Int) (w : World) (e : Ending) (w' : World) : Prop := ∃ A c, e = .returned (.slice A xs.length c) ∧ xs.length ≤ c ∧ c ≤ maxLen ∧ SL w' A xs ∧ Below w.heap.size w w' ∧ ∀ ad, A = some ad → w.heap.size ≤ ad.block ∧ ∃ cs, Blk w' ad.block 3 cs
theorem GivesW.b {xs : List Int} {w w' : World} {e : Ending} (h : GivesW xs w e w') : GivesB xs w e w' := by
  obtain ⟨A, c, h1, h2, h3, h4, h5, h6⟩ := h
  exact ⟨A, c, h1, h2, h3, h4, h5, fun ad had => (h6 ad had).2⟩
theorem own_in {w : World} {base n c : Nat} {A : Option Addr} {xs : List Int} (h : Own w base (.slice A n c) xs) : ∀ ad, A = some ad → ∃ cs, Blk w ad.block 3 cs := fun ad e => by
  rcases h.2 with ⟨e1, _⟩ | ⟨g', cap, cur, e1, _, hh, _⟩
  · injection e1 with e1 _ _
    rw [e] at e1
    cases e1
  · injection e1 with e1 _ _
    rw [e] at e1
    injection e1 with e1
    subst e1
    exact ⟨cur, hh⟩
set_option maxRecDepth 100000 in
set_option maxHeartbeats 2000000 in
theorem values_new (p S D b : Nat) [NeZero p] (n : Nat) (s : Fin p) (A : Option Addr) (cap : Nat) (xs : List Int) (hxs : ∀ x ∈ xs, I64 x) (hreach : xs.length * 8 ≤ 281474976710656) (w : World) (hD : Dom w S D b p n s) (hs : SL w A xs) :
    Calls Tryz.prog 82 #[.pointer (some ⟨D, 0, none⟩), .slice A xs.length cap] w fun e w' => GivesW (fvs (valL s (rootI p n) n (els p xs))) w e w' := by
  have hp := hD.fld.prime
  have hp1 := hD.fld.two
  have hp2 := hD.fld.max
  have hn0 := hD.size.pos
  have hn1 := hD.size.le
  have hDle := hD.le
  have hc1 := hD.c1
  obtain ⟨len, hlen⟩ : ∃ len, len = xs.length := ⟨_, rfl⟩
  rw [← hlen]
  rw [← hlen] at hreach
  have HL := Lib.hid hlen
  clear hlen
  obtain ⟨R, hR⟩ : ∃ R, R = fvs (valL s (rootI p n) n (els p xs)) := ⟨_, rfl⟩
  rw [← hR]
  have HR := Lib.hid hR
  clear hR
  have hmk := make_ints n n (Nat.le_refl _) (by omega)
  have hOE := OwnE.made (p := p) w w.heap.size n (Nat.le_refl _) (by omega)
  go_enter Tryz.func82, Tryz.ntmps82
  go_wp2
  go_loopw [6, 16] (fun sh i wr => ValRel s n xs w w.heap.size sh i wr) (fun _ i _ => len - (intOf i).toNat)
  case atStart => exact ⟨0, _, Nat.zero_le _, rfl, by rw [pw_zero, fv_one hp1], hOE, Wrapped.start s n _, (Below.refl _ _).alloc (Nat.le_refl _) _⟩
  case round =>
    obtain ⟨k, L, hk, rfl, rfl, hoe, hwr, hb⟩ := hrel
    rw [← HL.out] at hk
    have HWR := Lib.hid hwr
    clear hwr
    have hDr := hD.below hb hDle
    have hd0 := hDr.c0
    have hd1 := hDr.c1
    have hd2 := hDr.c2
    have hd3 := hDr.c3
    have hcb := hDr.fld.c0
    by_cases hlt : k < len
    · have hkx : k < xs.length := by rw [← HL.out]; exact hlt
      obtain ⟨ad, rfl, _, hcell⟩ := (hs.below hb).at_ hkx
      have hI := hxs _ (List.getElem_mem hkx)
      have hxe : co (els p xs) k = el p xs[k] := by rw [co_of_lt (by simpa using hkx)]; simp
      obtain ⟨x, hx⟩ : ∃ x, x = xs[k] := ⟨_, rfl⟩
      rw [← hx] at hI hcell hxe
      obtain ⟨j, hj⟩ : ∃ j, j = k % n := ⟨_, rfl⟩
      have hjn : j < n := by rw [hj]; exact Nat.mod_lt _ hn0
      have hst := HWR.out.step hn0 (by simpa using hkx)
      rw [← hj, hxe] at hst
      obtain ⟨X, hX⟩ : ∃ X, X = pw s k := ⟨_, rfl⟩
      rw [← hX] at hst ⊢
      obtain ⟨Y, hY⟩ : ∃ Y, Y = X * el p x := ⟨_, rfl⟩
      obtain ⟨o, ho⟩ : ∃ o, o = co L j := ⟨_, rfl⟩
      obtain ⟨U, hU⟩ : ∃ U, U = o + Y := ⟨_, rfl⟩
      rw [← hY, ← ho, ← hU] at hst
      have hol := hoe.at_ j hjn
      rw [← ho] at hol
      have hof := hoe.frozen j
      have iX : I64 (fv X) := i64_fv X hp2
      have iY : I64 (fv Y) := i64_fv Y hp2
      have io : I64 (fv o) := i64_fv o hp2
      have iS : I64 (fv s) := i64_fv s hp2
      have hmul : ∀ W : World, W.cell? ⟨b, 0, none⟩ = some (vi p) → Calls Tryz.prog 75 #[.pointer (some ⟨b, 0, none⟩), vi (fv X), vi x] W fun e w' => e = .returned (vi (fv Y)) ∧ ∃ k, w' = W.drewN k := fun W h => by
        have := mul_any p hp2 b (fv X) x iX hI W h
        rw [el_fv, ← hY] at this; exact this
      have hadd : ∀ W : World, W.cell? ⟨b, 0, none⟩ = some (vi p) → Calls Tryz.prog 73 #[.pointer (some ⟨b, 0, none⟩), vi (fv o), vi (fv Y)] W fun e w' => e = .returned (vi (fv U)) ∧ ∃ k, w' = W.drewN k := fun W h => by
        have := add_any p hp2 b (fv o) (fv Y) io iY W h
        rw [el_fv, el_fv, ← hU] at this; exact this
      have hX1 : X * s = pw s (k + 1) := by rw [hX, pw_succ]
      have hnx : ∀ W : World, W.cell? ⟨b, 0, none⟩ = some (vi p) → Calls Tryz.prog 75 #[.pointer (some ⟨b, 0, none⟩), vi (fv X), vi (fv s)] W fun e w' => e = .returned (vi (fv (pw s (k + 1)))) ∧ ∃ k, w' = W.drewN k := fun W h => by
        have := mul_any p hp2 b (fv X) (fv s) iX iS W h
        rw [el_fv, el_fv, hX1] at this; exact this
      have HMUL := Lib.hid hmul
      have HADD := Lib.hid hadd
      have HNX := Lib.hid hnx
      have HST := Lib.hid hst
      have et : (k : Int).tmod n = (j : Int) := by rw [Int.tmod_eq_emod_of_nonneg (by omega), hj, Int.natCast_emod]
      have hn0' : ¬ n = 0 := by omega
      have i1 : (0 : Int) ≤ j := by omega
      have i2 : (j : Int) < n := by omega
      have hne1 : ¬ D = w.heap.size := by have := hD.lt; omega
      have hne2 : ¬ b = w.heap.size := by have := hD.fld.lt; omega
      clear hmul hadd hnx hst hX1 hU ho hY hX hj hx hxe
      have hmx : Tryz.prog.follows .mixedOrders = true := by kernel_rfl
      go_wp2
      refine wp_region_quiet_tail 29 hmx (by kernel_rfl) ?_
      simp only [List.take_succ_cons, List.take_zero, List.drop_succ_cons, List.drop_zero]
      repeat (quiet_step (first | (go_at_call 75; exact Calls.quiet_of (HMUL.out _ (by exact hcb))) | (go_at_call 73; exact Calls.quiet_of (HADD.out _ (by exact hcb)))))
      refine wpQuiet_nil ?_
      intro _ hw'
      obtain ⟨nq1, hw''⟩ := hw'
      subst hw''
      clear et i1 i2
      go_wp2
      go_quiet ((go_at_call 75; exact Calls.quiet_of (HNX.out _ (by exact setCell_keep hcb hne2))))
      go_wp2
      go_roundw
      case rel =>
        have h1 : OwnE (wr.drewN nq1) w.heap.size w.heap.size n L := hoe
        exact ⟨k + 1, L.set j U, by rw [← HL.out]; omega, by go_num, rfl, h1.store j U, HST.out, below_drewN ((below_drewN hb nq1).setCell (p := ⟨w.heap.size, j, none⟩) (Nat.le_refl _) _) _⟩
      case measure => simp [intOf]; omega
    · obtain rfl : k = len := by omega
      have hord := rootI_ord hp hn0 hD.size.2
      have hcond := root_cond hp hD.size hord
      have hdone := (show Wrapped s n (els p xs) (els p xs).length L by rw [List.length_map, ← HL.out]; exact HWR.out).done hord.one
      obtain ⟨⟨kk, hkk, hnk⟩, _⟩ := hD.size
      have hsp := spread_any p S D b n s kk hkk
      rw [← hnk] at hsp
      have hrun := hsp wr w.heap.size (.slice (some ⟨w.heap.size, 0, none⟩) n n) (fvs L) (fv (rootI p n)) (by simp [hoe.1]) (i64_fvs L hp2) (i64_fv _ hp2) (by rw [el_fv]; exact hcond) hDr hoe.2 hb.size
      have HRUN := Lib.hid hrun
      have HDONE := Lib.hid hdone
      clear hsp hrun hdone hcond hord hnk hd0 hd1 hd2 hcb
      go_wp2_with fail
      refine (HRUN.out).mono ?_
      rintro e w1 ⟨v1, ys, rfl, hown, _, hyd, hy1, hy2, hb1⟩
      rw [el_fv, els_fvs, HDONE.out] at hyd hy2
      have hys : ys = R := by
        rw [HR.out]
        by_cases h1 : n = 1
        · rw [hy1 h1, ← hyd, hy1 h1, els_fvs]
        · exact hy2 h1
      obtain ⟨A1, c1, rfl, hl1, hm1, hnw, hsl⟩ := hown.shape
      clear hyd hy1 hy2
      subst hys
      have hm2 : c1 ≤ 9223372036854775807 := by unfold maxLen at hm1; exact hm1
      go_wp2_with fail
      refine (clip_any A1 ys.length c1 hl1 hm2 _).mono ?_
      rintro e w2 ⟨rfl, rfl⟩
      go_wp2
      go_ret
      exact ⟨A1, ys.length, rfl, Nat.le_refl _, Nat.le_trans hl1 hm1, hsl, hb.trans (hb1.mono hb.size), fun ad had => ⟨(by obtain ⟨g, rfl, hg, _⟩ := hnw ad had; exact hg), own_in hown ad had⟩⟩
def GivesN (n : Nat) (xs : List Int) (w : World) (e : Ending) (w' : World) : Prop := ∃ A c, xs.length = n ∧ e = .returned (.slice A n c) ∧ n ≤ c ∧ c ≤ maxLen ∧ SL w' A xs ∧ Below w.heap.size w w'
theorem Gives.n {xs : List Int} {w w' : World} {e : Ending} (h : Gives xs w e w') {n : Nat} (hn : xs.length = n) : GivesN n xs w e w' := by
  obtain ⟨A, c, h1, h2, h3, h4, h5⟩ := h
  subst hn
  exact ⟨A, c, rfl, h1, h2, h3, h4, h5⟩
def GivesNW (n : Nat) (xs : List Int) (w : World) (e : Ending) (w' : World) : Prop := ∃ A c, xs.length = n ∧ e = .returned (.slice A n c) ∧ n ≤ c ∧ c ≤ maxLen ∧ SL w' A xs ∧ Below w.heap.size w w' ∧ ∀ ad, A = some ad → w.heap.size ≤ ad.block
theorem values_nW (p S D b : Nat) [NeZero p] (n : Nat) (s : Fin p) (A : Option Addr) (m cap : Nat) (xs : List Int) (hml : xs.length = m) (hxs : ∀ x ∈ xs, I64 x) (hreach : m * 8 ≤ 281474976710656) (w : World) (hD : Dom w S D b p n s) (hs : SL w A xs) :
    Calls Tryz.prog 82 #[.pointer (some ⟨D, 0, none⟩), .slice A m cap] w fun e w' => GivesNW n (fvs (valL s (rootI p n) n (els p xs))) w e w' := by
  subst hml
  refine (values_new p S D b n s A cap xs hxs hreach w hD hs).mono fun _ _ h => ?_
  have hn : (fvs (valL s (rootI p n) n (els p xs))).length = n := by simp [valL_length]
  obtain ⟨A1, c1, h1, h2, h3, h4, h5, h6⟩ := h
  rw [hn] at h1 h2
  exact ⟨A1, c1, hn, h1, h2, h3, h4, h5, fun ad had => (h6 ad had).1⟩
theorem SL.co {p : Nat} [NeZero p] {w : World} {A : Option Addr} {l : List (Fin p)} (h : SL w A (fvs l)) {k : Nat} (hk : k < l.length) : ∃ ad, A = some ad ∧ w.cell? (ad.add k) = some (vi (fv (co l k))) := by
  obtain ⟨ad, h1, _, h2⟩ := h.at_ (k := k) (by simpa using hk)
  exact ⟨ad, h1, by rw [h2, co_of_lt hk, List.getElem_map]⟩
end Go.Proofs.YteceghbjjnknbaaGreat

namespace Go.Proofs.YteceghbjjnknbaaGreat
open Go.RowKit Zp
set_option maxRecDepth 1000000 in
set_option maxHeartbeats 1000000 in
theorem len64_0 (w : World) :
    Calls Tryz.prog 108 #[.int .u64 1] w fun e w' => e = .returned (vi 1) ∧ w = w' := by
  go_enter Tryz.func108, Tryz.ntmps108
  go_wp2
  go_ret
  exact ⟨ret_int (by kernel_rfl), rfl⟩
set_option maxRecDepth 1000000 in
set_option maxHeartbeats 1000000 in
theorem len64_1 (w : World) :
    Calls Tryz.prog 108 #[.int .u64 2] w fun e w' => e = .returned (vi 2) ∧ w = w' := by
  go_enter Tryz.func108, Tryz.ntmps108
  go_wp2
  go_ret
  exact ⟨ret_int (by kernel_rfl), rfl⟩
set_option maxRecDepth 1000000 in
set_option maxHeartbeats 1000000 in
theorem len64_2 (w : World) :
    Calls Tryz.prog 108 #[.int .u64 4] w fun e w' => e = .returned (vi 3) ∧ w = w' := by
  go_enter Tryz.func108, Tryz.ntmps108
  go_wp2
  go_ret
  exact ⟨ret_int (by kernel_rfl), rfl⟩
set_option maxRecDepth 1000000 in
set_option maxHeartbeats 1000000 in
theorem len64_3 (w : World) :
    Calls Tryz.prog 108 #[.int .u64 8] w fun e w' => e = .returned (vi 4) ∧ w = w' := by
  go_enter Tryz.func108, Tryz.ntmps108
  go_wp2
  go_ret
  exact ⟨ret_int (by kernel_rfl), rfl⟩
set_option maxRecDepth 1000000 in
set_option maxHeartbeats 1000000 in
theorem len64_4 (w : World) :
    Calls Tryz.prog 108 #[.int .u64 16] w fun e w' => e = .returned (vi 5) ∧ w = w' := by
  go_enter Tryz.func108, Tryz.ntmps108
  go_wp2
  go_ret
  exact ⟨ret_int (by kernel_rfl), rfl⟩
set_option maxRecDepth 1000000 in
set_option maxHeartbeats 1000000 in
theorem len64_5 (w : World) :
    Calls Tryz.prog 108 #[.int .u64 32] w fun e w' => e = .returned (vi 6) ∧ w = w' := by
  go_enter Tryz.func108, Tryz.ntmps108
  go_wp2
  go_ret
  exact ⟨ret_int (by kernel_rfl), rfl⟩
set_option maxRecDepth 1000000 in
set_option maxHeartbeats 1000000 in
theorem len64_6 (w : World) :
    Calls Tryz.prog 108 #[.int .u64 64] w fun e w' => e = .returned (vi 7) ∧ w = w' := by
  go_enter Tryz.func108, Tryz.ntmps108
  go_wp2
  go_ret
  exact ⟨ret_int (by kernel_rfl), rfl⟩
set_option maxRecDepth 1000000 in
set_option maxHeartbeats 1000000 in
theorem len64_7 (w : World) :
    Calls Tryz.prog 108 #[.int .u64 128] w fun e w' => e = .returned (vi 8) ∧ w = w' := by
  go_enter Tryz.func108, Tryz.ntmps108
  go_wp2
  go_ret
  exact ⟨ret_int (by kernel_rfl), rfl⟩
set_option maxRecDepth 1000000 in
set_option maxHeartbeats 1000000 in
theorem len64_8 (w : World) :
    Calls Tryz.prog 108 #[.int .u64 256] w fun e w' => e = .returned (vi 9) ∧ w = w' := by
  go_enter Tryz.func108, Tryz.ntmps108
  go_wp2
  go_ret
  exact ⟨ret_int (by kernel_rfl), rfl⟩
set_option maxRecDepth 1000000 in
set_option maxHeartbeats 1000000 in
theorem len64_9 (w : World) :
    Calls Tryz.prog 108 #[.int .u64 512] w fun e w' => e = .returned (vi 10) ∧ w = w' := by
  go_enter Tryz.func108, Tryz.ntmps108
  go_wp2
  go_ret
  exact ⟨ret_int (by kernel_rfl), rfl⟩
set_option maxRecDepth 1000000 in
set_option maxHeartbeats 1000000 in
theorem len64_10 (w : World) :
    Calls Tryz.prog 108 #[.int .u64 1024] w fun e w' => e = .returned (vi 11) ∧ w = w' := by
  go_enter Tryz.func108, Tryz.ntmps108
  go_wp2
  go_ret
  exact ⟨ret_int (by kernel_rfl), rfl⟩
set_option maxRecDepth 1000000 in
set_option maxHeartbeats 1000000 in
theorem len64_11 (w : World) :
    Calls Tryz.prog 108 #[.int .u64 2048] w fun e w' => e = .returned (vi 12) ∧ w = w' := by
  go_enter Tryz.func108, Tryz.ntmps108
  go_wp2
  go_ret
  exact ⟨ret_int (by kernel_rfl), rfl⟩
set_option maxRecDepth 1000000 in
set_option maxHeartbeats 1000000 in
theorem len64_12 (w : World) :
    Calls Tryz.prog 108 #[.int .u64 4096] w fun e w' => e = .returned (vi 13) ∧ w = w' := by
  go_enter Tryz.func108, Tryz.ntmps108
  go_wp2
  go_ret
  exact ⟨ret_int (by kernel_rfl), rfl⟩
theorem len_pow (n v : Nat) (h : Cube n v) (w : World) :
    Calls Tryz.prog 79 #[.int .u64 n] w fun e w' => e = .returned (vi ((v : Int) + 1)) ∧ w = w' := by
  obtain ⟨hv, rfl⟩ := h
  have H : ∀ W, Calls Tryz.prog 108 #[.int .u64 ((2 ^ v : Nat) : Int)] W fun e w' => e = .returned (vi ((v : Int) + 1)) ∧ W = w' := by
    intro W
    rcases v with _ | _ | _ | _ | _ | _ | _ | _ | _ | _ | _ | _ | _ | v
    · exact len64_0 W
    · exact len64_1 W
    · exact len64_2 W
    · exact len64_3 W
    · exact len64_4 W
    · exact len64_5 W
    · exact len64_6 W
    · exact len64_7 W
    · exact len64_8 W
    · exact len64_9 W
    · exact len64_10 W
    · exact len64_11 W
    · exact len64_12 W
    · omega
  obtain ⟨n, hn⟩ : ∃ n, n = 2 ^ v := ⟨_, rfl⟩
  rw [← hn] at H ⊢
  have h1 : 1 ≤ n := by rw [hn]; exact Nat.pow_pos (by omega)
  have h2 : n ≤ 4096 := by rw [hn]; exact Nat.pow_le_pow_right (n := 2) (by omega) hv
  have h3 := Lib.hid H
  clear H hn
  go_enter Tryz.func79, Tryz.ntmps79
  go_wp2_with fail
  refine (h3.out _).mono ?_
  rintro e w' ⟨rfl, rfl⟩
  go_wp2
  go_ret
  exact ⟨rfl, rfl⟩
theorem variables_yes (A : Option Addr) (n cap v : Nat) (h : Cube n v) (w : World) :
    Calls Tryz.prog 70 #[.slice A n cap] w fun e w' => e = .returned (vi (v : Int)) ∧ w = w' := by
  have h1 := h.pos
  have h2 := h.le
  have hv := h.1
  have t0 : ((n : Int) == 0) = false := by rw [beq_eq_false_iff_ne]; omega
  have t1 : (bits .and .i64 (n : Int) ((n : Int) - 1) != 0) = false := by rw [and_pred n h1 (by omega), h.and]; rfl
  have hl := Lib.hid (len_pow n v h)
  clear h
  go_enter Tryz.func70, Tryz.ntmps70
  go_wp2_with fail
  refine (hl.out _).mono ?_
  rintro e w' ⟨rfl, rfl⟩
  go_wp2
  go_ret
  exact ⟨ret_int (by omega), rfl⟩
end Go.Proofs.YteceghbjjnknbaaGreat

namespace Go.Proofs.YteceghbjjnknbaaGreat
open Go.RowKit Zp
def LayN (n : Nat) : Prop := ∃ v, v ≤ 6 ∧ n = 2 ^ v
theorem layN_iff (n : Nat) : LayN n ↔ 1 ≤ n ∧ (n &&& (n - 1)) = 0 ∧ n ≤ 64 := by
  constructor
  · rintro ⟨v, hv, rfl⟩
    have h := (isCube_iff (2 ^ v)).1 ⟨v, by omega, rfl⟩
    exact ⟨h.1, h.2.1, Nat.pow_le_pow_right (n := 2) (by omega) hv⟩
  · rintro ⟨h1, h2, h3⟩
    obtain ⟨v, hv, e⟩ := (isCube_iff n).2 ⟨h1, h2, by omega⟩
    refine ⟨v, ?_, e⟩
    by_cases h : v ≤ 6
    · exact h
    · exfalso
      have := Nat.pow_le_pow_right (n := 2) (by omega) (show 7 ≤ v by omega)
      omega
instance (n : Nat) : Decidable (LayN n) := decidable_of_iff _ (layN_iff n).symm
def layV (n : Nat) : Nat := Nat.log2 n
theorem layV_pow (v : Nat) : layV (2 ^ v) = v := by rw [layV, Nat.log2_two_pow]
theorem LayN.pow {n : Nat} (h : LayN n) : n = 2 ^ layV n := by obtain ⟨v, _, rfl⟩ := h; rw [layV_pow]
theorem LayN.le6 {n : Nat} (h : LayN n) : layV n ≤ 6 := by obtain ⟨v, hv, rfl⟩ := h; rw [layV_pow]; exact hv
theorem size_lay (n : Nat) (h : LayN n) (w : World) :
    Calls Tryz.prog 69 #[vi n] w fun e w' => e = .returned (vi (layV n)) ∧ w = w' := by
  have hcu : Cube n (layV n) := ⟨by have := h.le6; omega, h.pow⟩
  have h1 := hcu.pos
  have h2 : n ≤ 64 := ((layN_iff n).1 h).2.2
  have hv := h.le6
  have t1 : (bits .and .i64 (n : Int) ((n : Int) - 1) != 0) = false := by rw [and_pred n h1 (by omega), hcu.and]; rfl
  have hl := Lib.hid (len_pow n (layV n) hcu)
  have k1 : ¬ (n : Int) < 1 := by omega
  have k2 : ¬ (64 : Int) < (n : Int) := by omega
  clear h hcu
  go_enter Tryz.func69, Tryz.ntmps69
  go_wp2_with fail
  refine (hl.out _).mono ?_
  rintro e w' ⟨rfl, rfl⟩
  go_wp2
  go_ret
  exact ⟨ret_int (by omega), rfl⟩
theorem size_no (n : Nat) (hn : n < 9223372036854775808) (h : ¬ LayN n) (w : World) :
    Calls Tryz.prog 69 #[vi n] w fun e w' => e = .returned (vi (-1)) ∧ w = w' := by
  rw [layN_iff] at h
  by_cases h1 : n = 0
  · have t0 : (n : Int) < 1 := by omega
    clear h
    go_enter Tryz.func69, Tryz.ntmps69
    go_wp2
    go_ret
    exact ⟨rfl, rfl⟩
  · have t0 : ¬ (n : Int) < 1 := by omega
    have hw : IntKind.i64.wrap ((n : Int) - 1) = (n : Int) - 1 := IntWalk.i64_in _ (by constructor <;> omega)
    by_cases h2 : n ≤ 64
    · have ha := and_pred n (by omega) (by omega)
      have t1 : (bits .and .i64 (n : Int) ((n : Int) - 1) != 0) = true := by
        rw [ha, bne_iff_ne]
        intro e
        exact h ⟨by omega, by omega, h2⟩
      clear h h1 ha
      go_enter Tryz.func69, Tryz.ntmps69
      go_wp2
      go_ret
      exact ⟨rfl, rfl⟩
    · have h3 : 64 < n := by omega
      have k2 : (64 : Int) < (n : Int) := by omega
      clear h h1 h2
      cases t1 : (bits .and .i64 (n : Int) ((n : Int) - 1) != 0)
      · go_enter Tryz.func69, Tryz.ntmps69
        go_wp2
        go_ret
        exact ⟨rfl, rfl⟩
      · go_enter Tryz.func69, Tryz.ntmps69
        go_wp2
        go_ret
        exact ⟨rfl, rfl⟩
end Go.Proofs.YteceghbjjnknbaaGreat

namespace Go.Proofs.YteceghbjjnknbaaGreat
open Go.RowKit Zp
section
variable {p : Nat} [NeZero p]
def unK (xs : List (Fin p)) (i : Nat) : Nat → Fin p
  | 0 => 1
  | k + 1 => unK xs i k * wtE (co xs k) (xs.length - 1 - k) i
theorem unK_drop (xs : List (Fin p)) (i : Nat) : ∀ k, k ≤ xs.length → unK xs i k * wtL (xs.drop k) i = wtL xs i := by
  intro k
  induction k with
  | zero => intro _; rw [unK, List.drop_zero]; grind
  | succ k ih =>
    intro hk
    rw [← ih (by omega), unK, List.drop_eq_getElem_cons (show k < xs.length by omega), wtL, List.length_drop]
    have e : co xs k = xs[k] := by unfold co; rw [List.getElem?_eq_getElem (by omega)]; rfl
    rw [e, show xs.length - (k + 1) = xs.length - 1 - k by omega]
    grind
theorem unK_done (xs : List (Fin p)) (i : Nat) : unK xs i xs.length = wtL xs i := by
  have h := unK_drop xs i xs.length (Nat.le_refl _)
  rw [List.drop_length, wtL] at h
  rw [← h]; grind
end
set_option maxRecDepth 100000 in
set_option maxHeartbeats 2000000 in
theorem unit_any (p : Nat) [NeZero p] (hp2 : p ≤ 2147483647) (hp1 : 2 ≤ p) (b : Nat) (i : Nat) (hi : i ≤ 9223372036854775807) (A : Option Addr) (n c : Nat) (xs : List Int) (hl : xs.length = n) (hn : n ≤ 64) (hI : ∀ x ∈ xs, I64 x) (w : World) (hc : w.cell? ⟨b, 0, none⟩ = some (vi p)) (hs : SL w A xs) :
    Calls Tryz.prog 42 #[.pointer (some ⟨b, 0, none⟩), vi i, .slice A n c] w fun e w' => e = .returned (vi (fv (wtL (els p xs) i))) ∧ ∃ k, w' = w.drewN k := by
  have HC := Lib.hid hc
  have HS := Lib.hid hs
  have HI := Lib.hid hI
  have HL := Lib.hid hl
  have HD : Hid (fv (unK (els p xs) i n) = fv (wtL (els p xs) i)) := Lib.hid (by
    have := unK_done (els p xs) i
    rw [els, List.length_map, hl] at this
    rw [els, this])
  have h1 : fv (1 : Fin p) = 1 := fv_one hp1
  have H1 := Lib.hid h1
  clear hc hs hI hl h1
  go_enter Tryz.func42, Tryz.ntmps42
  go_wp2
  go_loopw [7, 12] (fun o k wr => ∃ t q : Nat, t ≤ n ∧ o = vi (fv (unK (els p xs) i t)) ∧ k = vi t ∧ wr = w.drewN q) (fun _ k _ => n - (intOf k).toNat)
  case atStart => exact ⟨0, 0, Nat.zero_le _, by rw [show unK (els p xs) i 0 = 1 from rfl, H1.out], rfl, rfl⟩
  case round =>
    obtain ⟨t, q, ht, rfl, rfl, rfl⟩ := hrel
    by_cases htn : t < n
    · have htx : t < xs.length := by rw [HL.out]; exact htn
      obtain ⟨ad, rfl, _, cx⟩ := (HS.out.drewN q).at_ htx
      have hIx := HI.out _ (List.getElem_mem htx)
      have k1 : (0 : Int) ≤ (t : Int) := by omega
      have k2 : (t : Int) < (n : Int) := by omega
      obtain ⟨m, hm⟩ : ∃ m, m = n - 1 - t := ⟨_, rfl⟩
      have hw1 : IntKind.i64.wrap ((n : Int) - 1) = (n : Int) - 1 := IntWalk.i64_in _ (by omega)
      have hw2 : IntKind.i64.wrap ((n : Int) - 1 - (t : Int)) = (m : Int) := by rw [IntWalk.i64_in _ (by omega)]; omega
      have hm0 : (0 : Int) ≤ (m : Int) := by omega
      have hmin : min m 64 = m := by omega
      have hmt : ((m : Int)).toNat = m := rfl
      have hwt : IntKind.i64.wrap ((t : Int) + 1) = (t : Int) + 1 := IntWalk.i64_in _ (by constructor <;> omega)
      obtain ⟨d, hd⟩ : ∃ d, d = i / 2 ^ m := ⟨_, rfl⟩
      have hdi : d ≤ i := by rw [hd]; exact Nat.div_le_self _ _
      have e1 : (i : Int) / 2 ^ m = (d : Int) := by rw [hd, Int.natCast_ediv, Int.natCast_pow]; rfl
      obtain ⟨bt, hbt⟩ : ∃ bt, bt = d % 2 := ⟨_, rfl⟩
      have e2 : bits .and .i64 (d : Int) 1 = (bt : Int) := by
        have h := i64_and_nat d 1 (by omega) (by omega)
        rw [show ((1 : Nat) : Int) = 1 from rfl] at h
        rw [h, Nat.and_one_is_mod, hbt]
      have hst : unK (els p xs) i (t + 1) = unK (els p xs) i t * (if bt = 0 then 1 - el p xs[t] else el p xs[t]) := by
        rw [unK]
        congr 1
        unfold wtE co
        rw [els, List.getElem?_map, List.getElem?_eq_getElem htx, List.length_map, HL.out, ← hm, ← hd, ← hbt]
        rfl
      have HI1 : I64 (fv (unK (els p xs) i t)) := i64_fv _ hp2
      generalize unK (els p xs) i t = X at hst HI1
      generalize xs[t] = x at cx hIx hst
      by_cases hb0 : bt = 0
      · rw [if_pos hb0] at hst
        have t1 : ((bt : Int) == 1) = false := by rw [hb0]; rfl
        have hsub := fun W hc => sub_any p hp2 b 1 x (by constructor <;> decide) hIx W hc
        have hmul := fun W hc => mul_any p hp2 b (fv X) (fv (1 - el p x)) HI1 (i64_fv _ hp2) W hc
        simp only [el_fv, el_one] at hsub hmul
        rw [← hst] at hmul
        have HSUB := Lib.hid hsub
        have HMUL := Lib.hid hmul
        clear hsub hmul hst hb0 hd hbt hm
        go_wp2_with fail
        refine (HSUB.out _ (by exact HC.out)).mono ?_
        rintro e w' ⟨rfl, rfl⟩
        go_wp2_with fail
        refine (HMUL.out _ (by exact HC.out)).mono ?_
        rintro e w' ⟨rfl, k3, rfl⟩
        go_wp2
        go_round
        case rel => exact ⟨t + 1, _, by omega, rfl, by go_num, rfl⟩
        case measure => simp only [intOf, Int.toNat_natCast]; omega
      · rw [if_neg hb0] at hst
        have hb1 : bt = 1 := by omega
        have t1 : ((bt : Int) == 1) = true := by rw [hb1]; rfl
        have hmul := fun W hc => mul_any p hp2 b (fv X) x HI1 hIx W hc
        simp only [el_fv] at hmul
        rw [← hst] at hmul
        have HMUL := Lib.hid hmul
        clear hmul hst hb0 hb1 hd hbt hm
        go_wp2_with fail
        refine (HMUL.out _ (by exact HC.out)).mono ?_
        rintro e w' ⟨rfl, k3, rfl⟩
        go_wp2
        go_round
        case rel => exact ⟨t + 1, _, by omega, rfl, by go_num, rfl⟩
        case measure => simp only [intOf, Int.toNat_natCast]; omega
    · obtain rfl : t = n := by omega
      go_wp2
      go_ret
      exact ⟨by rw [HD.out]; rfl, _, rfl⟩
end Go.Proofs.YteceghbjjnknbaaGreat

namespace Go.Proofs.YteceghbjjnknbaaGreat
open Go.RowKit Zp
abbrev Gp (a c : Nat) : Value := .agg #[vi a, vi c]
def IsPw (M : Nat) : Prop := ∃ j : Nat, M = 2 ^ j
theorem IsPw.dbl {M : Nat} (h : IsPw M) : IsPw (2 * M) := by
  obtain ⟨j, rfl⟩ := h
  exact ⟨j + 1, by rw [Nat.pow_succ]; omega⟩
theorem IsPw.pos {M : Nat} (h : IsPw M) : 0 < M := by
  obtain ⟨j, rfl⟩ := h
  exact Nat.pow_pos (by omega)
theorem IsPw.left {M n : Nat} (h : IsPw M) (h1 : M < n) (h2 : n ≤ 2 * M) : M = leftN n := by
  obtain ⟨j, rfl⟩ := h
  exact leftN_of h1 h2
def LeftRel (n : Nat) (v : Value) : Prop := ∃ M : Nat, v = vi ((M : Nat) : Int) ∧ M < n ∧ IsPw M
set_option maxRecDepth 100000 in
set_option maxHeartbeats 2000000 in
theorem halves_any (a n : Nat) (hn1 : 2 ≤ n) (hn : a + n ≤ 65536) (w : World) :
    Calls Tryz.prog 110 #[Gp a (a + n)] w fun e w' => e = .returned (.tuple #[Gp a (a + leftN n), Gp (a + leftN n) (a + n)]) ∧ Below w.heap.size w w' := by
  have hbA : Below w.heap.size w (w.alloc (.cells #[vi a, vi ((a + n : Nat) : Int)] 139)) := (Below.refl _ _).alloc (Nat.le_refl _) _
  have hB := Blk.new w 139 #[vi a, vi ((a + n : Nat) : Int)]
  have e0 := (hB.cell 0).trans (show _ = some (vi a) from rfl)
  have e1 := (hB.cell 1).trans (show _ = some (vi ((a + n : Nat) : Int)) from rfl)
  go_enter Tryz.func110, Tryz.ntmps110
  go_wp2
  go_loop [4] (fun v => LeftRel n v) (fun v => n - (intOf v).toNat)
  case atStart => exact ⟨1, rfl, by omega, 0, rfl⟩
  case round =>
    obtain ⟨M, rfl, hM, hpw⟩ := hrel
    have hp := hpw.pos
    have HPW := Lib.hid hpw
    clear hpw
    by_cases h : 2 * M < n
    · go_wp2
      go_round
      case rel => exact ⟨2 * M, by go_num, h, HPW.out.dbl⟩
      case measure => simp [intOf]; omega
    · have hl : M = leftN n := HPW.out.left hM (by omega)
      have HLE := Lib.hid hl
      clear hl
      go_wp2
      go_region
      go_wp2
      refine bodyPost_ret (v := .tuple #[.agg #[vi a, vi ((a : Int) + M)], .agg #[vi ((a : Int) + M), vi ((a : Int) + n)]]) (by simp [results, Tryz.results110, go_sem]) rfl ⟨?_, ?_⟩
      · have he := HLE.out
        subst he
        simp [Gp]
      · exact below_drewN ((((Below.refl _ _).alloc (Nat.le_refl _) _).alloc (by simp) _).alloc (by simp; omega) _) 1
end Go.Proofs.YteceghbjjnknbaaGreat

namespace Go.Proofs.YteceghbjjnknbaaGreat
open Go.MapKept Go.ChangeMaps
section
variable {P : Program} {k : TypeId}
def Tells (es : Array MapEntry) (f : Value → Option Value) : Prop := ∀ x v, f x = some v ↔ ∃ e ∈ es.toList, e.key = x ∧ e.val = v
def MapIs (P : Program) (k : TypeId) (w : World) (b : Nat) (f : Value → Option Value) : Prop :=
  ∃ (es : Array MapEntry) (clock : Nat), w.heap[b]? = some (.map es clock) ∧ Stamped es clock ∧ (∀ x ∈ es.toList, ∃ l, keyOf P k x.key = some l) ∧ Tells es f
def EntIs (P : Program) (k : TypeId) (w : World) (b : Nat) (key : Value) (st : Nat) (f : Value → Option Value) : Prop :=
  ∃ (es : Array MapEntry) (clock : Nat), w.heap[b]? = some (.map es clock) ∧ Stamped es clock ∧ (∀ x ∈ es.toList, ∃ l, keyOf P k x.key = some l) ∧ (∃ e ∈ es.toList, e.born = st ∧ e.key = key) ∧
    ∀ x, x ≠ key → ∀ v, f x = some v ↔ ∃ e ∈ es.toList, e.key = x ∧ e.val = v
theorem MapIs.made (P : Program) (k : TypeId) (w : World) : MapIs P k (w.alloc (.map #[] 0)) w.heap.size (fun _ => none) :=
  ⟨#[], 0, (MapKept.heap_alloc w _).1, stamped_empty 0, by simp, fun x v => by simp⟩
theorem MapIs.lt {w : World} {b : Nat} {f : Value → Option Value} (h : MapIs P k w b f) : b < w.heap.size := by
  obtain ⟨es, clock, hb, _⟩ := h
  exact (Array.getElem?_eq_some_iff.1 hb).1
theorem MapIs.kept {w w' : World} {b : Nat} {f : Value → Option Value} {row : Option Nat} (h : MapIs P k w b f) (hg : w.grownBy w' row) (hne : some b ≠ row) : MapIs P k w' b f := by
  have hlt := h.lt
  obtain ⟨es, clock, hb, r⟩ := h
  exact ⟨es, clock, (hg.block b hlt hne).trans hb, r⟩
theorem MapIs.same {w w' : World} {b : Nat} {f : Value → Option Value} (h : MapIs P k w b f) (hg : w'.heap[b]? = w.heap[b]?) : MapIs P k w' b f := by
  obtain ⟨es, clock, hb, r⟩ := h
  exact ⟨es, clock, hg.trans hb, r⟩
theorem key_unique {es : Array MapEntry} {clock : Nat} (h : Stamped es clock) {x y : MapEntry} (hx : x ∈ es.toList) (hy : y ∈ es.toList) (e : x.key = y.key) : x = y := by
  have hp := ((stamped_iff es clock).1 h).2.2
  obtain ⟨i, hi, rfl⟩ := List.mem_iff_getElem.1 hx
  obtain ⟨j, hj, rfl⟩ := List.mem_iff_getElem.1 hy
  rcases Nat.lt_trichotomy i j with h1 | h1 | h1
  · exact absurd e (List.pairwise_iff_getElem.1 hp i j hi hj h1)
  · subst h1; rfl
  · exact absurd e.symm (List.pairwise_iff_getElem.1 hp j i hj hi h1)
theorem tells_some {es : Array MapEntry} {clock : Nat} (h : Stamped es clock) : ∃ f, Tells es f := by
  refine ⟨fun x => open Classical in if hx : ∃ e ∈ es.toList, e.key = x then some (Classical.choose hx).val else none, fun x v => ?_⟩
  by_cases hx : ∃ e ∈ es.toList, e.key = x
  · simp only [dif_pos hx, Option.some.injEq]
    obtain ⟨h1, h2⟩ := Classical.choose_spec hx
    constructor
    · intro hv; exact ⟨_, h1, h2, hv⟩
    · rintro ⟨e, he, h3, h4⟩
      have := key_unique h h1 he (h2.trans h3.symm)
      rw [this]; exact h4
  · simp only [dif_neg hx, reduceCtorEq, false_iff]
    rintro ⟨e, he, h3, _⟩
    exact hx ⟨e, he, h3⟩
variable (K : Maps.Keyed P k)
include K
theorem MapIs.look {w : World} {b : Nat} {f : Value → Option Value} (h : MapIs P k w b f) {t e : TypeId} (ht : P.underlying t = some (.map k e)) {z : Value} (hz : (zeroValue e).run P w = .ok z w) {key : Value} {kl : Lit} (hkey : keyOf P k key = some kl) :
    (Instr.lookup t (.map (some b)) key false).run P w = .ok ((f key).getD z) w := by
  obtain ⟨es, clock, hb, hs, hk, hf⟩ := h
  rcases K.find w hkey es.toList hk with ⟨h1, h2⟩ | ⟨j, e0, h1, h2, h3⟩
  · have hn : f key = none := by
      cases hfk : f key with
      | none => rfl
      | some v =>
        obtain ⟨x, hx, h3, _⟩ := (hf key v).1 hfk
        exact absurd h3 (h2 x hx)
    simp [Instr.lookup, run_underlying ht, MapKept.run_getObj_map hb, K.check w _ hkey, h1, hz, hn, Result.andThen]
  · have hn : f key = some e0.val := (hf key _).2 ⟨e0, List.mem_of_getElem? h2, h3, rfl⟩
    simp [Instr.lookup, run_underlying ht, MapKept.run_getObj_map hb, K.check w _ hkey, h1, hn, Result.andThen]
omit K in
theorem block_grown (w : World) (b : Nat) (o : Obj) : w.grownBy (setBlock w b o) (some b) := ⟨rfl, rfl, rfl, by simp [setBlock], fun i _ hi => by
  have hne : b ≠ i := fun e => hi (by rw [e])
  simp [setBlock, hne]⟩
omit K in
theorem mem_push {es : Array MapEntry} {e x : MapEntry} : x ∈ (es.push e).toList ↔ x ∈ es.toList ∨ x = e := by simp
omit K in
theorem mem_mod {es : Array MapEntry} {clock j : Nat} (hs : Stamped es clock) {e0 : MapEntry} (hj : es.toList[j]? = some e0) (v : Value) (x : MapEntry) :
    x ∈ (es.modify j fun e => { e with val := v }).toList ↔ (x ∈ es.toList ∧ x.key ≠ e0.key) ∨ x = { e0 with val := v } := by
  have hjl : j < es.toList.length := (List.getElem?_eq_some_iff.1 hj).1
  have hje : es.toList[j] = e0 := (List.getElem?_eq_some_iff.1 hj).2
  have hp := ((stamped_iff es clock).1 hs).2.2
  rw [Array.toList_modify, List.mem_iff_getElem?]
  constructor
  · rintro ⟨i, hi⟩
    rw [List.getElem?_modify] at hi
    by_cases e : j = i
    · subst e
      rw [hj] at hi
      simp at hi
      exact .inr hi.symm
    · simp only [if_neg e] at hi
      have hi' : es.toList[i]? = some x := by simpa using hi
      refine .inl ⟨List.mem_of_getElem? hi', fun hk => ?_⟩
      have hil : i < es.toList.length := (List.getElem?_eq_some_iff.1 hi').1
      have hie : es.toList[i] = x := (List.getElem?_eq_some_iff.1 hi').2
      rcases Nat.lt_or_ge i j with h1 | h1
      · exact List.pairwise_iff_getElem.1 hp i j hil hjl h1 (by rw [hie, hje]; exact hk)
      · exact List.pairwise_iff_getElem.1 hp j i hjl hil (by omega) (by rw [hie, hje]; exact hk.symm)
  · rintro (⟨hx, hk⟩ | rfl)
    · obtain ⟨i, hi⟩ := List.mem_iff_getElem?.1 hx
      refine ⟨i, ?_⟩
      have hne : j ≠ i := fun e => by subst e; rw [hj] at hi; injection hi with hi; exact hk (by rw [hi])
      simp [hne, hi]
    · exact ⟨j, by simp [hj]⟩
omit K in
theorem stamped_val {es : Array MapEntry} {clock : Nat} (hs : Stamped es clock) (j : Nat) (v : Value) : Stamped (es.modify j fun e => { e with val := v }) clock :=
  stamped_modify hs j _ (fun _ _ => rfl) (fun _ _ _ => rfl)
def Put (f f' : Value → Option Value) (key val : Value) : Prop := f' key = some val ∧ ∀ x, x ≠ key → f' x = f x
omit K in
theorem tells_put {es : Array MapEntry} {clock : Nat} (hs : Stamped es clock) {f : Value → Option Value} {key val : Value} (h1 : ∃ e ∈ es.toList, e.key = key ∧ e.val = val)
    (h2 : ∀ x, x ≠ key → ∀ v, f x = some v ↔ ∃ e ∈ es.toList, e.key = x ∧ e.val = v) : ∃ f', Tells es f' ∧ Put f f' key val := by
  obtain ⟨f', hf⟩ := tells_some hs
  refine ⟨f', hf, (hf key val).2 h1, fun x hx => ?_⟩
  apply Option.ext
  intro v
  rw [hf x v, h2 x hx v]
theorem MapIs.entry {w : World} {b : Nat} {f : Value → Option Value} (h : MapIs P k w b f) {t e : TypeId} (ht : P.underlying t = some (.map k e)) {z : Value} (hz : (zeroValue e).run P w = .ok z w) {key : Value} {kl : Lit} (hkey : keyOf P k key = some kl) :
    ∃ v0 st w', (Instr.mapEntry t (.map (some b)) key).run P w = .ok (.tuple #[v0, goInt (st : Nat)]) w' ∧ EntIs P k w' b key st f ∧ w.grownBy w' (some b) := by
  obtain ⟨es, clock, hb, hs, hk, hf⟩ := h
  rcases K.find w hkey es.toList hk with ⟨h1, h2⟩ | ⟨j, e0, h1, h2, h3⟩
  · refine ⟨z, clock, setBlock w b (.map (es.push ⟨key, z, clock⟩) (clock + 1)), ?_, ⟨_, _, heap_setBlock_same hb _, stamped_push hs h2, ?_, ⟨⟨key, z, clock⟩, by simp, rfl, rfl⟩, ?_⟩, block_grown _ _ _⟩
    · simp [Instr.mapEntry, run_underlying ht, MapKept.run_getObj_map hb, K.check w false hkey, h1, hz, MapKept.run_setObj_map _ hb, Result.andThen, setBlock]
    · intro x hx
      rcases mem_push.1 hx with hx | rfl
      · exact hk x hx
      · exact ⟨kl, hkey⟩
    · intro x hx v
      rw [hf x v]
      constructor
      · rintro ⟨e, he, h3⟩; exact ⟨e, mem_push.2 (.inl he), h3⟩
      · rintro ⟨e, he, h3, h4⟩
        rcases mem_push.1 he with he | rfl
        · exact ⟨e, he, h3, h4⟩
        · exact absurd h3.symm hx
  · have hj : es[j]? = some e0 := by simpa using h2
    have hsame : es.modify j (fun e => { e with key := key }) = es := by
      apply Array.ext'
      rw [Array.toList_modify, modify_eq_set _ _ _ _ h2]
      have : ({ e0 with key := key } : MapEntry) = e0 := by rw [← h3]
      rw [this]
      exact Go.WideElems.set_self _ _ _ h2
    refine ⟨e0.val, e0.born, setBlock w b (.map es clock), ?_, ⟨es, clock, heap_setBlock_same hb _, hs, hk, ⟨e0, List.mem_of_getElem? h2, rfl, h3⟩, fun x _ v => hf x v⟩, block_grown _ _ _⟩
    simp [Instr.mapEntry, run_underlying ht, MapKept.run_getObj_map hb, K.check w false hkey, h1, hj, h3, K.stays w hkey, hsame, MapKept.run_setObj_map _ hb, Result.andThen, setBlock]
omit K in
theorem EntIs.store {w : World} {b st : Nat} {key : Value} {f : Value → Option Value} (h : EntIs P k w b key st f) (t : TypeId) (val : Value) :
    ∃ w' f', (Instr.entryStore t (.map (some b)) (goInt (st : Nat)) val).run P w = .ok () w' ∧ MapIs P k w' b f' ∧ Put f f' key val ∧ w.grownBy w' (some b) := by
  obtain ⟨es, clock, hb, hs, hk, ⟨e0, he0, rfl, rfl⟩, hf⟩ := h
  obtain ⟨j, hj⟩ := List.mem_iff_getElem?.1 he0
  have hs' := stamped_val hs j val
  have hmm := mem_mod hs hj val
  obtain ⟨f', hf', hp⟩ := tells_put (f := f) hs' (key := e0.key) (val := val) ⟨{ e0 with val := val }, (hmm _).2 (.inr rfl), rfl, rfl⟩ (fun x hx v => by
    rw [hf x hx v]
    constructor
    · rintro ⟨e, he, h3, h4⟩; exact ⟨e, (hmm e).2 (.inl ⟨he, by rw [h3]; exact hx⟩), h3, h4⟩
    · rintro ⟨e, he, h3, h4⟩
      rcases (hmm e).1 he with ⟨he, _⟩ | rfl
      · exact ⟨e, he, h3, h4⟩
      · exact absurd h3.symm hx)
  refine ⟨setBlock w b (.map (es.modify j fun e => { e with val := val }) clock), f', ?_, ⟨_, _, heap_setBlock_same hb _, hs', ?_, hf'⟩, hp, block_grown _ _ _⟩
  · have hidx : es.findIdx? (fun e => ((e.born : Nat) : Int) == ((e0.born : Nat) : Int)) = some j := by
      rw [Go.WideElems.findIdx_arr]
      exact Go.WideElems.findIdx_born hs.2.1 hj
    simp [Instr.entryStore, MapKept.run_getObj_map hb, asInt, asIntOf, goInt, hidx, MapKept.run_setObj_map _ hb, Result.andThen, setBlock]
  · intro x hx
    rcases (hmm x).1 hx with ⟨hx, _⟩ | rfl
    · exact hk x hx
    · exact hk e0 he0
theorem MapIs.update {w : World} {b : Nat} {f : Value → Option Value} (h : MapIs P k w b f) {t e : TypeId} (ht : P.underlying t = some (.map k e)) {key val : Value} {kl : Lit} (hkey : keyOf P k key = some kl) :
    ∃ w' f', (Instr.mapUpdate t (.map (some b)) key val).run P w = .ok () w' ∧ MapIs P k w' b f' ∧ Put f f' key val ∧ w.grownBy w' (some b) := by
  obtain ⟨es, clock, hb, hs, hk, hf⟩ := h
  rcases K.find w hkey es.toList hk with ⟨h1, h2⟩ | ⟨j, e0, h1, h2, h3⟩
  · have hs' := stamped_push hs (val := val) h2
    obtain ⟨f', hf', hp⟩ := tells_put (f := f) hs' (key := key) (val := val) ⟨⟨key, val, clock⟩, by simp, rfl, rfl⟩ (fun x hx v => by
      rw [hf x v]
      constructor
      · rintro ⟨e, he, h3⟩; exact ⟨e, mem_push.2 (.inl he), h3⟩
      · rintro ⟨e, he, h3, h4⟩
        rcases mem_push.1 he with he | rfl
        · exact ⟨e, he, h3, h4⟩
        · exact absurd h3.symm hx)
    refine ⟨setBlock w b (.map (es.push ⟨key, val, clock⟩) (clock + 1)), f', ?_, ⟨_, _, heap_setBlock_same hb _, hs', ?_, hf'⟩, hp, block_grown _ _ _⟩
    · simp [Instr.mapUpdate, run_underlying ht, MapKept.run_getObj_map hb, K.check w false hkey, h1, MapKept.run_setObj_map _ hb, Result.andThen, setBlock]
    · intro x hx
      rcases mem_push.1 hx with hx | rfl
      · exact hk x hx
      · exact ⟨kl, hkey⟩
  · subst h3
    have hj : es[j]? = some e0 := by simpa using h2
    have hsame : es.modify j (fun e => { e with key := e0.key, val := val }) = es.modify j (fun e => { e with val := val }) := by
      apply Array.ext'
      rw [Array.toList_modify, Array.toList_modify, modify_eq_set _ _ _ _ h2, modify_eq_set _ _ _ _ h2]
    have hs' := stamped_val hs j val
    have hmm := mem_mod hs h2 val
    obtain ⟨f', hf', hp⟩ := tells_put (f := f) hs' (key := e0.key) (val := val) ⟨{ e0 with val := val }, (hmm _).2 (.inr rfl), rfl, rfl⟩ (fun x hx v => by
      rw [hf x v]
      constructor
      · rintro ⟨e, he, h3, h4⟩; exact ⟨e, (hmm e).2 (.inl ⟨he, by rw [h3]; exact hx⟩), h3, h4⟩
      · rintro ⟨e, he, h3, h4⟩
        rcases (hmm e).1 he with ⟨he, _⟩ | rfl
        · exact ⟨e, he, h3, h4⟩
        · exact absurd h3.symm hx)
    refine ⟨setBlock w b (.map (es.modify j fun e => { e with val := val }) clock), f', ?_, ⟨_, _, heap_setBlock_same hb _, hs', ?_, hf'⟩, hp, block_grown _ _ _⟩
    · simp [Instr.mapUpdate, run_underlying ht, MapKept.run_getObj_map hb, K.check w false hkey, h1, hj, K.stays w hkey, hsame, MapKept.run_setObj_map _ hb, Result.andThen, setBlock]
    · intro x hx
      rcases (hmm x).1 hx with ⟨hx, _⟩ | rfl
      · exact hk x hx
      · exact hk e0 (List.mem_of_getElem? h2)
end
end Go.Proofs.YteceghbjjnknbaaGreat

namespace Go.Proofs.YteceghbjjnknbaaGreat
open Go.RowKit Zp
theorem gk_at : Tryz.prog.keyTypeAt 3 139 = true := by kernel_rfl
theorem gk_row : 139 < Tryz.prog.types.size := of_decide_eq_true (by kernel_rfl)
theorem gk_laid : laidOutB Tryz.prog = true := by kernel_rfl
theorem keyed_group : Maps.Keyed Tryz.prog 139 :=
  Maps.Keyed.of_law (deep_law_laid (P := Tryz.prog) gk_laid (m := 3) (by omega) gk_row gk_at (by rw [Tryz.underlying139]))
theorem gk_type : Tryz.prog.keyType 139 = true := by kernel_rfl
theorem gk_cells : Tryz.prog.cellsOf 139 = 2 := by kernel_rfl
theorem gk_int : Tryz.prog.cellsOf 3 = 1 := by kernel_rfl
theorem gk_size : ∃ m, Tryz.prog.types.size = m + 1 := ⟨Tryz.prog.types.size - 1, by have := gk_row; omega⟩
theorem key_group {x y : Int} (hx : I64 x) (hy : I64 y) : ∃ l, keyOf Tryz.prog 139 (.agg #[vi x, vi y]) = some l := by
  have wx : (Lit.int .i64 x).wf = true := by simp [Lit.wf, IntKind.min, IntKind.max, IntKind.signed, IntKind.bits]; omega
  have wy : (Lit.int .i64 y).wf = true := by simp [Lit.wf, IntKind.min, IntKind.max, IntKind.signed, IntKind.bits]; omega
  have h0 := gk_type
  have h1 := gk_cells
  have h2 := gk_int
  obtain ⟨m, hm⟩ := gk_size
  refine ⟨.string (keyBytes [.int .i64 x, .int .i64 y]), ?_⟩
  unfold keyOf
  simp only [Tryz.underlying139]
  rw [if_pos (by simp [h0, Value.formed, Tryz.underlying139, h1]), hm]
  unfold Program.keyLits
  simp only [Tryz.underlying139, Value.cells]
  rw [if_pos (by refine ⟨by rw [h1]; rfl, by kernel_rfl⟩)]
  simp [h2, Program.keyLits, Tryz.underlying3, wx, wy, List.mapM_cons, List.mapM_nil]
theorem key_gp {a c : Nat} (hc : a ≤ 65536 ∧ c ≤ 65536) : ∃ l, keyOf Tryz.prog 139 (Gp a c) = some l := key_group ⟨by omega, by omega⟩ ⟨by omega, by omega⟩
theorem gp_inj {a c a' c' : Nat} (h : Gp a c = Gp a' c') : a = a' ∧ c = c' := by
  simp [Gp] at h
  omega
end Go.Proofs.YteceghbjjnknbaaGreat

namespace Go.Proofs.YteceghbjjnknbaaGreat
open Go.RowKit Zp
set_option maxRecDepth 100000 in
theorem nan1_any (x : Int) (w : World) : Calls Tryz.prog 143 #[vi x] w fun e w' => e = .returned (.bool false) ∧ w = w' := by
  have t1 : (x != x) = false := by simp
  go_enter Tryz.func143, Tryz.ntmps143
  go_wp2
  go_ret
  exact ⟨rfl, rfl⟩
theorem nan2_any (x : Int) (w : World) : Calls Tryz.prog 144 #[vi x] w fun e w' => e = .returned (.bool false) ∧ w = w' := by
  have t1 : (x != x) = false := by simp
  go_enter Tryz.func144, Tryz.ntmps144
  go_wp2
  go_ret
  exact ⟨rfl, rfl⟩
theorem less_any (x y : Int) (w : World) : Calls Tryz.prog 132 #[vi x, vi y] w fun e w' => e = .returned (.bool (decide (x < y))) ∧ w = w' := by
  have H1 := Lib.hid (fun z w => nan1_any z w)
  go_enter Tryz.func132, Tryz.ntmps132
  go_wp2_with fail
  refine (H1.out _ _).mono ?_
  rintro e w' ⟨rfl, rfl⟩
  go_wp2
  go_ret
  exact ⟨rfl, rfl⟩
end Go.Proofs.YteceghbjjnknbaaGreat

namespace Go.Proofs.YteceghbjjnknbaaGreat
open Go.RowKit Zp
theorem ret_low {i k : Nat} (h : k = i) (b : Bool) : Ending.returned (.tuple #[.int .i64 (i : Int), .bool b]) = .returned (.tuple #[vi (k : Int), .bool b]) := by rw [h]
set_option maxRecDepth 100000 in
set_option maxHeartbeats 4000000 in
theorem bsearch_any (A : Option Addr) (n c : Nat) (l : List Int) (hml : l.length = n) (hn : n ≤ 4611686018427387903) (hup : Asc l) (t : Int) (w : World) (hs : SL w A l) :
    Calls Tryz.prog 135 #[.slice A n c, vi t] w fun e w' => (∃ b, e = .returned (.tuple #[vi (lowB l t), .bool b])) ∧ w = w' := by
  have H1 := Lib.hid (fun x y w => less_any x y w)
  have H2 := Lib.hid (fun z w => nan2_any z w)
  have HU := Lib.hid hup
  have HM := Lib.hid hml
  have HS := Lib.hid hs
  clear hup hml hs
  go_enter Tryz.func135, Tryz.ntmps135
  go_wp2
  go_loopg [7, 8] n (fun g s7 s8 wr => ∃ lo hi : Nat, s7 = .int .i64 lo ∧ s8 = .int .i64 hi ∧ lo ≤ hi ∧ hi ≤ n ∧ hi - lo ≤ g ∧ w = wr ∧ (∀ j, j < lo → ∀ x, l[j]? = some x → x < t) ∧ (∀ j, hi ≤ j → ∀ x, l[j]? = some x → t ≤ x))
  case atStart => exact ⟨0, n, rfl, rfl, Nat.zero_le _, Nat.le_refl _, by omega, rfl, fun j hj => absurd hj (Nat.not_lt_zero _), fun j hj x hx => by rw [List.getElem?_eq_none (by rw [HM.out]; exact hj)] at hx; cases hx⟩
  case round =>
    obtain ⟨lo, hi, rfl, rfl, hlh, hin, hg, rfl, h1, h2⟩ := hrel
    have I1 := Lib.hid h1
    have I2 := Lib.hid h2
    clear h1 h2
    by_cases hlt : lo < hi
    · obtain ⟨ad, rfl, hadl, hcx⟩ := HS.out.at_ (k := (lo + hi) / 2) (by rw [HM.out]; omega)
      obtain ⟨y, hy⟩ : ∃ y, y = l[(lo + hi) / 2]'(by rw [HM.out]; omega) := ⟨_, rfl⟩
      rw [← hy] at hcx
      have hyg : l[(lo + hi) / 2]? = some y := by rw [hy, List.getElem?_eq_getElem]
      have HY := Lib.hid hyg
      clear hy hyg
      by_cases hyx : y < t
      · go_wp2_with fail
        refine (H1.out _ _ _).mono ?_
        rintro e w' ⟨rfl, rfl⟩
        go_wp2
        go_roundg (hi - ((lo + hi) / 2 + 1))
        case measure => omega
        case rel =>
          refine ⟨(lo + hi) / 2 + 1, hi, by rw [show ((lo : Int) + (hi : Int)) / 2 + 1 = (((lo + hi) / 2 + 1 : Nat) : Int) by omega], rfl, by omega, hin, Nat.le_refl _, rfl, fun j hj x hx => ?_, I2.out⟩
          have hjl : j < l.length := (List.getElem?_eq_some_iff.1 hx).1
          have hml : (lo + hi) / 2 < l.length := (List.getElem?_eq_some_iff.1 HY.out).1
          have := HU.out.at_le (i := j) (j := (lo + hi) / 2) (by omega) hml
          have e1 : l[j] = x := (List.getElem?_eq_some_iff.1 hx).2
          have e2 : l[(lo + hi) / 2] = y := (List.getElem?_eq_some_iff.1 HY.out).2
          omega
      · go_wp2_with fail
        refine (H1.out _ _ _).mono ?_
        rintro e w' ⟨rfl, rfl⟩
        go_wp2
        go_roundg ((lo + hi) / 2 - lo)
        case measure => omega
        case rel =>
          refine ⟨lo, (lo + hi) / 2, rfl, by rw [show ((lo : Int) + (hi : Int)) / 2 = (((lo + hi) / 2 : Nat) : Int) by omega], by omega, by omega, Nat.le_refl _, rfl, I1.out, fun j hj x hx => ?_⟩
          have hjl : j < l.length := (List.getElem?_eq_some_iff.1 hx).1
          have := HU.out.at_le (i := (lo + hi) / 2) (j := j) hj hjl
          have e1 : l[j] = x := (List.getElem?_eq_some_iff.1 hx).2
          have e2 : l[(lo + hi) / 2]'(by omega) = y := (List.getElem?_eq_some_iff.1 HY.out).2
          omega
    · have he : hi = lo := by omega
      subst he
      have HB := Lib.hid (lowB_of (l := l) (t := t) (i := hi) (by rw [HM.out]; exact hin) I1.out (fun x hx => I2.out hi (Nat.le_refl _) x hx))
      by_cases hn2 : hi < n
      · obtain ⟨ad, rfl, hadl, hcx⟩ := HS.out.at_ (k := hi) (by rw [HM.out]; exact hn2)
        generalize l[hi]'(by rw [HM.out]; exact hn2) = y at hcx
        by_cases hyx : y = t
        · go_wp2
          go_ret2
          exact ⟨⟨_, ret_low HB.out _⟩, rfl⟩
        · go_wp2_with (first | (refine (H2.out _ _).mono ?_; rintro e w' ⟨rfl, rfl⟩))
          go_ret2
          exact ⟨⟨_, ret_low HB.out _⟩, rfl⟩
      · go_wp2
        go_ret2
        exact ⟨⟨_, ret_low HB.out _⟩, rfl⟩
end Go.Proofs.YteceghbjjnknbaaGreat

namespace Go.Proofs.YteceghbjjnknbaaGreat
open Go.RowKit Zp
theorem i64_digL {p k : Nat} [NeZero p] (hm : p ≤ 2147483647) (l : List Int) : ∀ x ∈ digL p k l, I64 x := by
  intro x hx
  obtain ⟨j, _, rfl⟩ := List.mem_map.1 hx
  exact i64_fv _ hm
theorem tb_lit1 {w : World} {A : Option Addr} {n c : Nat} {xs : List Int} (h : SL w A xs) (hl : xs.length = n) (hn : n < 9223372036854775808) (hI : ∀ x ∈ xs, I64 x) :
    TB (w.alloc (.cells #[.slice A n c] 25)) (some ⟨w.heap.size, 0, none⟩) [xs] := fun k hk => by
  have e : k = 0 := by simp at hk; omega
  subst e
  exact ⟨_, A, n, c, rfl, by simp [Addr.add], by rw [Addr.add_mid]; exact ((Blk.new w 25 #[.slice A n c]).cell 0).trans rfl, hl, hn, h.below ((Below.refl _ _).alloc (Nat.le_refl _) _), hI⟩
theorem tb_lit2 {w : World} {A B : Option Addr} {n c m d : Nat} {xs ys : List Int} (h : SL w A xs) (hl : xs.length = n) (hn : n < 9223372036854775808) (hI : ∀ x ∈ xs, I64 x) (h' : SL w B ys) (hl' : ys.length = m) (hn' : m < 9223372036854775808) (hI' : ∀ x ∈ ys, I64 x) :
    TB (w.alloc (.cells #[.slice A n c, .slice B m d] 25)) (some ⟨w.heap.size, 0, none⟩) [xs, ys] := fun k hk => by
  have hb : Below w.heap.size w (w.alloc (.cells #[.slice A n c, .slice B m d] 25)) := (Below.refl _ _).alloc (Nat.le_refl _) _
  match k, hk with
  | 0, _ => exact ⟨_, A, n, c, rfl, by simp [Addr.add], by rw [Addr.add_mid]; exact ((Blk.new w 25 #[.slice A n c, .slice B m d]).cell 0).trans rfl, hl, hn, h.below hb, hI⟩
  | 1, _ => exact ⟨_, B, m, d, rfl, by simp [Addr.add], by rw [Addr.add_mid]; exact ((Blk.new w 25 #[.slice A n c, .slice B m d]).cell 1).trans rfl, hl', hn', h'.below hb, hI'⟩
end Go.Proofs.YteceghbjjnknbaaGreat

namespace Go.Proofs.YteceghbjjnknbaaGreat
open Go.RowKit
set_option maxRecDepth 100000 in
set_option maxHeartbeats 2000000 in
theorem grow_nil (n : Nat) (hn : n * 8 ≤ 140737488355328) (w : World) :
    Calls Tryz.prog 106 #[.slice none 0 0, vi n] w fun e w' => Made [] w e w' := by
  rcases Nat.eq_zero_or_pos n with h0 | h0
  · subst h0
    go_enter Tryz.func106, Tryz.ntmps106
    go_wp2
    go_ret
    exact ⟨_, rfl, World.ownsRow_nil _ _ _ _, Below.refl _ _⟩
  · obtain ⟨i0, hi, hz0, hz1, hz2⟩ := info_parts info_int
    have hr := Lib.run_append_nil_zeros (P := Tryz.prog) w 25 3 25 3 i0 (.int .i64 0) .i64 .i64 Tryz.underlying25 Tryz.underlying3 hi hz0 n h0 (by omega) (by omega) (by rw [hz2]; omega)
    obtain ⟨c, hc⟩ : ∃ c, c = grownCap w n 0 3 := ⟨_, rfl⟩
    have hcm : c ≤ maxLen := by
      have := grownCap_le_maxLen w n 0 3 (by unfold maxLen; omega)
      omega
    have hge : n ≤ c := by
      have := grownCap_ge w n 0 3
      omega
    rw [← hc] at hr
    obtain ⟨cs, hcs⟩ : ∃ cs, cs = Builtin.zeroCells (Value.int .i64 0).cells n ++ Builtin.zeroCells (Value.int .i64 0).cells (c - n) := ⟨_, rfl⟩
    rw [← hcs] at hr
    have hsz : cs.size = c := by
      rw [hcs, Array.size_append, size_zeroCells, size_zeroCells]
      simp [Value.cells]
      omega
    have ho : Own (w.drew.alloc (.cells cs 3)) w.heap.size (.slice (some ⟨w.heap.size, 0, none⟩) 0 c) [] := World.ownsRow_made w.drew cs c (Nat.le_refl _) hcm (by rw [hsz, Nat.mul_one])
    have hb : Below w.heap.size w (w.drew.alloc (.cells cs 3)) := (below_drewN (Below.refl w.heap.size w) 1).alloc (Nat.le_refl _) _
    have HO := Lib.hid ho
    have HB := Lib.hid hb
    have n1 : (0 : Int) < (n : Int) := by omega
    have n2 : (n : Int) ≤ 17592186044416 := by omega
    have n3 : 0 < n := h0
    have c1 : (c : Int) ≤ 9223372036854775807 := by unfold maxLen at hcm; omega
    clear hc hcs hsz hi hz0 hz1 hz2 ho hb hcm
    go_enter Tryz.func106, Tryz.ntmps106
    go_wp2_with (at_builtin; refine Lib.wpList_append_run _ rfl _ _ _ _ rfl _ _ rfl rfl _ _ hr ?_)
    go_ret
    exact ⟨_, rfl, HO.out, HB.out⟩
theorem flat_take {ts : List (List Int)} {k : Nat} (hk : k < ts.length) : (ts.take (k + 1)).flatten = (ts.take k).flatten ++ ts[k] := by
  rw [List.take_succ_eq_append_getElem hk, List.flatten_append]; simp
theorem flat_le (ts : List (List Int)) (k : Nat) : (ts.take k).flatten.length ≤ ts.flatten.length := by
  have h := congrArg (fun l => (List.flatten l).length) (List.take_append_drop k ts)
  simp only [List.flatten_append, List.length_append] at h
  omega
set_option maxRecDepth 100000 in
set_option maxHeartbeats 2000000 in
theorem concat_any (A : Option Addr) (m c : Nat) (ts : List (List Int)) (hm : ts.length = m) (hmm : m ≤ 1000000) (htot : ts.flatten.length * 8 ≤ 140737488355328) (w : World) (hT : TB w A ts) :
    Calls Tryz.prog 78 #[.slice A m c] w fun e w' => Made ts.flatten w e w' := by
  have HT := Lib.hid hT
  have HM := Lib.hid hm
  obtain ⟨N, hN⟩ : ∃ N, N = ts.flatten.length := ⟨_, rfl⟩
  have HN := Lib.hid hN
  rw [← hN] at htot
  have HG := Lib.hid (fun w => grow_nil N htot w)
  clear hT hm hN
  go_enter Tryz.func78, Tryz.ntmps78
  go_wp2
  go_loop [3, 11, 5] (fun s t _ => ∃ k : Nat, k ≤ m ∧ t = vi k ∧ s = vi ((ts.take k).flatten.length : Nat)) (fun _ t _ => m - (intOf t).toNat)
  case atStart => exact ⟨0, by omega, rfl, by simp⟩
  case round =>
    obtain ⟨k, hk, rfl, rfl⟩ := hrel
    have hle := flat_le ts k
    rw [← HN.out] at hle
    by_cases hkm : k < m
    · obtain ⟨ad, A1, n1, c1, rfl, hb1, hc1, hl1, hn1, _, _⟩ := HT.out k (by rw [HM.out]; exact hkm)
      have hft := flat_take (ts := ts) (k := k) (by rw [HM.out]; exact hkm)
      have hft2 := congrArg List.length hft
      rw [List.length_append, hl1] at hft2
      have hle2 := flat_le ts (k + 1)
      rw [← HN.out] at hle2
      obtain ⟨S, hS⟩ : ∃ S, S = (ts.take k).flatten.length := ⟨_, rfl⟩
      rw [← hS] at hft2 hle ⊢
      have k1 : (0 : Int) ≤ (k : Int) := by omega
      have k2 : (k : Int) < (m : Int) := by omega
      have s1 : (0 : Int) ≤ (S : Int) := by omega
      have s2 : (0 : Int) ≤ (S : Int) + (n1 : Int) := by omega
      have s3 : (S : Int) + (n1 : Int) ≤ 17592186044416 := by omega
      have HF := Lib.hid hft2
      clear hft hft2 hS hl1 hle2 hb1
      go_wp2
      go_round
      case rel => exact ⟨k + 1, by omega, by go_num, by rw [HF.out]; go_num⟩
      case measure => simp [intOf]; omega
    · have ek : k = m := by omega
      have hall : (ts.take k).flatten.length = N := by rw [ek, ← HM.out, List.take_length]; exact HN.out.symm
      rw [hall]
      have t1 : ¬ (k : Int) < (m : Int) := by omega
      clear ek hall hle
      go_wp2_with fail
      refine (HG.out w).mono ?_
      rintro _ w1 ⟨v, rfl, ho, hb⟩
      go_wp2
      go_loopw [6, 27, 8] (fun v t _ wr => ∃ k : Nat, k ≤ m ∧ t = vi k ∧ Own wr w.heap.size v (ts.take k).flatten ∧ Below w.heap.size w wr) (fun _ t _ _ => m - (intOf t).toNat)
      case atStart => exact ⟨0, by omega, rfl, ho, hb⟩
      case round =>
        clear ho hb
        obtain ⟨k, hk, rfl, ho, hb⟩ := hrel
        by_cases hkm : k < m
        · obtain ⟨ad, A1, n1, c1, rfl, hb1, hc1, hl1, hn1, hs1, _⟩ := HT.out k (by rw [HM.out]; exact hkm)
          have hc1r := (hb.cell (p := ad.add k) hb1).trans hc1
          have hft := flat_take (ts := ts) (k := k) (by rw [HM.out]; exact hkm)
          have hle2 := flat_le ts (k + 1)
          have hft2 := congrArg List.length hft
          rw [List.length_append, hl1] at hft2
          rw [← HN.out] at hle2
          have hlim : (ts.take k).flatten.length + n1 ≤ 17592186044416 := by omega
          have HF := Lib.hid hft
          have HL1 := Lib.hid hl1
          have HLIM := Lib.hid hlim
          have hs1r := hs1.below hb
          have k1 : (0 : Int) ≤ (k : Int) := by omega
          have k2 : (k : Int) < (m : Int) := by omega
          clear hft hft2 hle2 hlim hl1 hb1 hc1 hs1
          go_wp2_with (at_builtin; refine wpList_appA wr rfl _ _ rfl w.heap.size _ _ A1 n1 c1 _ rfl rfl HL1.out ho hs1r HLIM.out hb.size ?_; intro v' w2 hg)
          have ho2 := hg.own
          have hb2 := hg.below hb ho (Nat.le_refl _) hb.size
          rw [← HF.out] at ho2
          exact ⟨⟨k + 1, by omega, by go_num, ho2, hb2⟩, by simp [intOf]; omega⟩
        · have ek : k = m := by omega
          have hall : (ts.take k).flatten = ts.flatten := by rw [ek, ← HM.out, List.take_length]
          rw [hall] at ho
          have t1 : ¬ (k : Int) < (m : Int) := by omega
          clear ek hall
          go_wp2
          go_ret
          exact ⟨_, rfl, ho, hb⟩
end Go.Proofs.YteceghbjjnknbaaGreat
