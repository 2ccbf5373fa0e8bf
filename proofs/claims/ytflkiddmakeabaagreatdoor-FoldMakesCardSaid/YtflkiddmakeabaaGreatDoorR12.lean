/- A bundle of texts: Eq, Sw5, Ni, Cg, As, Ck5, Ck6, Ck7. -/
import Derived.Test.YtflkiddmakeabaaGreatDoorR03
import Derived.Test.YtflkiddmakeabaaGreatDoorR09
import Derived.Test.YtflkiddmakeabaaGreatDoorR11
import Derived.Test.YtflkiddmakeabaaGreatDoorR05
import Derived.Test.YtflkiddmakeabaaGreatDoorR01
/- slices.Equal, of two lists of ints, wherever they lie. -/
set_option linter.unusedVariables false
namespace Go.Proofs.YtflkiddmakeabaaGreatDoor
open Go.RowKit
end Go.Proofs.YtflkiddmakeabaaGreatDoor

/- The walk of round.shown. -/
set_option linter.unusedVariables false
namespace Go.Proofs.YtflkiddmakeabaaGreatDoor
open Go.RowKit Zp
end Go.Proofs.YtflkiddmakeabaaGreatDoor

/- Walks: slices.Clip; IndexFunc and ContainsFunc at ints, with a function that has captured cells; the closures of tree.Open. -/
set_option linter.unusedVariables false
namespace Go.Proofs.YtflkiddmakeabaaGreatDoor
open Go.RowKit Zp
theorem clipI_any (A : Option Addr) (n c : Nat) (hn : n ≤ c) (w : World) (hc : A = none → c = 0) :
    Calls Tryz.prog 103 #[.slice A n c] w fun e w' => e = .returned (.slice A n n) ∧ w = w' := by
  cases A with
  | none =>
    obtain rfl := hc rfl
    obtain rfl : n = 0 := by omega
    go_enter Tryz.func103, Tryz.ntmps103
    go_wp2
    go_ret
    exact ⟨rfl, rfl⟩
  | some ad =>
    have t1 : (n : Int) ≤ (c : Int) := by omega
    clear hc
    go_enter Tryz.func103, Tryz.ntmps103
    go_wp2
    go_ret
    exact ⟨rfl, rfl⟩
theorem clipR_any (A : Option Addr) (n c : Nat) (hn : n ≤ c) (w : World) (hc : A = none → c = 0) :
    Calls Tryz.prog 56 #[.slice A n c] w fun e w' => e = .returned (.slice A n n) ∧ w = w' := by
  cases A with
  | none =>
    obtain rfl := hc rfl
    obtain rfl : n = 0 := by omega
    go_enter Tryz.func56, Tryz.ntmps56
    go_wp2
    go_ret
    exact ⟨rfl, rfl⟩
  | some ad =>
    have t1 : (n : Int) ≤ (c : Int) := by omega
    clear hc
    go_enter Tryz.func56, Tryz.ntmps56
    go_wp2
    go_ret
    exact ⟨rfl, rfl⟩
theorem own_none {w : World} {base n c : Nat} {A : Option Addr} {l : List Int} (h : Own w base (.slice A n c) l) : A = none → c = 0 := fun e => by
  subst e
  rcases h.2 with ⟨e, _⟩ | ⟨g, cap, cur, e, _⟩
  · injection e
  · injection e with e1; cases e1
theorem ownR_none {w : World} {base n c : Nat} {A : Option Addr} {us : List Value} (h : OwnR w base (.slice A n c) us) : A = none → c = 0 := fun e => by
  subst e
  rcases h.2 with ⟨e, _⟩ | ⟨g, cap, cur, e, _⟩
  · injection e
  · injection e with e1; cases e1
/-- the first of which P says yes, or -1 -/
def idxI (P : Int → Bool) (l : List Int) : Int := if l.any P then ((l.findIdx P : Nat) : Int) else -1
theorem idxI_no {P : Int → Bool} {l : List Int} (h : l.any P = false) : idxI P l = -1 := by unfold idxI; rw [h]; rfl
theorem idxI_yes {P : Int → Bool} {l : List Int} {k : Nat} (h : l.any P = true) (hk : l.findIdx P = k) : idxI P l = k := by unfold idxI; rw [h, hk]; rfl
set_option maxRecDepth 100000 in
set_option maxHeartbeats 1000000 in
theorem indexI_any (K : Nat) (hK : ∀ (args : Array Value) (w : World), (callFunc K args).run Tryz.prog w = .ok (.enter K args) w) (caps : Array Value) (P : Int → Bool) (A : Option Addr) (N c : Nat) (l : List Int) (hN : l.length = N) (hN2 : N ≤ 9223372036854775806)
    (w : World) (hY : ∀ x ∈ l, Calls Tryz.prog K (#[vi x] ++ caps) w fun e w' => e = .returned (.bool (P x)) ∧ w = w') (hT : SL w A l) :
    Calls Tryz.prog 82 #[.slice A N c, .func (.func K) #[] caps] w fun e w' => e = .returned (vi (idxI P l)) ∧ w = w' := by
  have HN := Lib.hid hN
  have HT := Lib.hid hT
  have HY := Lib.hid hY
  clear hN hT hY
  go_enter Tryz.func82, Tryz.ntmps82
  go_wp2
  go_loop [8] (fun i => ∃ k : Nat, k ≤ N ∧ i = vi k ∧ ∀ j (h : j < l.length), j < k → P l[j] = false) (fun i => N - (intOf i).toNat)
  case atStart => exact ⟨0, Nat.zero_le _, rfl, fun j _ hj => absurd hj (Nat.not_lt_zero _)⟩
  case round =>
    obtain ⟨k, hk, rfl, hb⟩ := hrel
    have HB := Lib.hid hb
    clear hb
    by_cases hlt : k < N
    · have hkt : k < l.length := by rw [HN.out]; exact hlt
      obtain ⟨ad, rfl, hb1, hc1⟩ := HT.out.at_ hkt
      have i1 : (0 : Int) ≤ k := by omega
      have i2 : (k : Int) < N := by omega
      have i3 : (k : Int) + 1 ≤ 9223372036854775807 := by omega
      have hyk := HY.out _ (List.getElem_mem hkt)
      obtain ⟨x, hx⟩ : ∃ x, x = l[k] := ⟨_, rfl⟩
      rw [← hx] at hyk hc1
      have HYK := Lib.hid hyk
      have HX := Lib.hid hx
      clear hx hyk
      by_cases hp : P x = true
      · have HR : Hid (idxI P l = k) := Lib.hid (by
          have hpk : P l[k] = true := by rw [← HX.out]; exact hp
          exact idxI_yes (List.any_eq_true.2 ⟨_, List.getElem_mem hkt, hpk⟩) (by
            rw [List.findIdx_eq hkt]
            exact ⟨hpk, fun j hj => by simpa using HB.out j (by omega) hj⟩))
        have HP := Lib.hid hp
        clear hp
        go_wp2_with fail
        refine HYK.out.mono ?_
        rintro _ _ ⟨rfl, rfl⟩
        rw [HP.out]
        go_wp2
        go_ret
        exact ⟨ret_int HR.out.symm, rfl⟩
      · have HP := Lib.hid (show P x = false by simpa using hp)
        have HBB : Hid (∀ j (h : j < l.length), j < k + 1 → P l[j] = false) := Lib.hid (fun j h hj => by
          by_cases e : j < k
          · exact HB.out j h e
          · obtain rfl : j = k := by omega
            rw [← HX.out]; exact HP.out)
        clear hp
        go_wp2_with fail
        refine HYK.out.mono ?_
        rintro _ _ ⟨rfl, rfl⟩
        rw [HP.out]
        go_wp2
        go_round
        case rel => exact ⟨k + 1, by omega, by go_num, HBB.out⟩
        case measure => simp [intOf]; omega
    · obtain rfl : k = N := by omega
      have HR : Hid (idxI P l = -1) := Lib.hid (idxI_no (by
        rw [Bool.eq_false_iff]
        intro h
        obtain ⟨x, hx, hp⟩ := List.any_eq_true.1 h
        obtain ⟨j, hj, rfl⟩ := List.mem_iff_getElem.1 hx
        rw [HB.out j hj (by rw [← HN.out]; exact hj)] at hp
        cases hp))
      go_wp2
      go_ret
      exact ⟨ret_int HR.out.symm, rfl⟩
theorem containsI_any (K : Nat) (hK : ∀ (args : Array Value) (w : World), (callFunc K args).run Tryz.prog w = .ok (.enter K args) w) (caps : Array Value) (P : Int → Bool) (A : Option Addr) (N c : Nat) (l : List Int) (hN : l.length = N) (hN2 : N ≤ 9223372036854775806)
    (w : World) (hY : ∀ x ∈ l, Calls Tryz.prog K (#[vi x] ++ caps) w fun e w' => e = .returned (.bool (P x)) ∧ w = w') (hT : SL w A l) :
    Calls Tryz.prog 36 #[.slice A N c, .func (.func K) #[] caps] w fun e w' => e = .returned (.bool (l.any P)) ∧ w = w' := by
  have HI := Lib.hid (indexI_any K hK caps P A N c l hN hN2 w hY hT)
  clear hY hT hN
  cases hb : l.any P
  · rw [idxI_no hb] at HI
    clear hb
    go_enter Tryz.func36, Tryz.ntmps36
    go_wp2_with fail
    refine HI.out.mono ?_
    rintro _ _ ⟨rfl, rfl⟩
    go_wp2
    go_ret
    exact ⟨by simp, rfl⟩
  · obtain ⟨t, ht⟩ : ∃ t, l.findIdx P = t := ⟨_, rfl⟩
    rw [idxI_yes hb ht] at HI
    have h0 : (0 : Int) ≤ (t : Int) := by omega
    clear hb ht
    go_enter Tryz.func36, Tryz.ntmps36
    go_wp2_with fail
    refine HI.out.mono ?_
    rintro _ _ ⟨rfl, rfl⟩
    go_wp2
    go_ret
    exact ⟨by simp, rfl⟩
/-- a place that is none of N rows -/
def outB (N : Nat) (x : Int) : Bool := decide (¬ (0 ≤ x ∧ x < N))
theorem open1_any (x : Int) (b : Nat) (A : Option Addr) (N c : Nat) (w : World) (hc : w.cell? ⟨b, 0, none⟩ = some (.slice A N c)) :
    Calls Tryz.prog 102 #[vi x, .pointer (some ⟨b, 0, none⟩)] w fun e w' => e = .returned (.bool (outB N x)) ∧ w = w' := by
  by_cases h1 : x < 0
  · have HR := Lib.hid (show outB N x = true from decide_eq_true (by omega))
    have t1 : decide (x < 0) = true := decide_eq_true h1
    go_enter Tryz.func102, Tryz.ntmps102
    go_wp2
    go_ret
    exact ⟨ret_bool HR.out.symm, rfl⟩
  · have t1 : decide (x < 0) = false := decide_eq_false h1
    by_cases h2 : (N : Int) ≤ x
    · have HR := Lib.hid (show outB N x = true from decide_eq_true (by omega))
      have t2 : decide ((N : Int) ≤ x) = true := decide_eq_true h2
      go_enter Tryz.func102, Tryz.ntmps102
      go_wp2
      go_ret
      exact ⟨ret_bool HR.out.symm, rfl⟩
    · have HR := Lib.hid (show outB N x = false from decide_eq_false (by omega))
      have t2 : decide ((N : Int) ≤ x) = false := decide_eq_false h2
      go_enter Tryz.func102, Tryz.ntmps102
      go_wp2
      go_ret
      exact ⟨ret_bool HR.out.symm, rfl⟩
end Go.Proofs.YtflkiddmakeabaaGreatDoor

/- slices.ContainsFunc at ints, of a function that makes memory. -/
set_option linter.unusedVariables false
namespace Go.Proofs.YtflkiddmakeabaaGreatDoor
open Go.RowKit Zp
end Go.Proofs.YtflkiddmakeabaaGreatDoor

/- append of one struct to a row of one's own. -/
set_option linter.unusedVariables false
namespace Go.Proofs.YtflkiddmakeabaaGreatDoor
open Go.RowKit
theorem run_appS (t e : TypeId) (z : Value) (sz by_ : Nat) (ht : Tryz.prog.underlying t = some (.slice e)) (hinf : (Tryz.prog.info? e).map (fun i => (i.zero, i.size, i.bytes)) = some (some z, sz, by_)) (hzs : z.cells.size = sz) (hsz : 0 < sz)
    (w : World) (news : List Value) (hnl : news.length = sz) (hone : ∀ u ∈ news, u.oneCell' = true) (base : Nat) (v : Value) (n : Nat) (xs : List Value) (hown : w.ownsRow base e sz v n xs) (h63 : n + 1 ≤ maxLen) (hby : (n + 1) * by_ ≤ 140737488355328) (hbase : base ≤ w.heap.size) (ty : TypeId) :
    ∃ v' w', (Builtin.append_ #[t, t] ty #[v, .slice (some ⟨w.heap.size, 0, none⟩) 1 1]).run Tryz.prog (w.alloc (.cells news.toArray e)) = .ok v' w' ∧ w'.ownsRow base e sz v' (n + 1) (xs ++ news) ∧ w.grownBy w' v.ownBlock ∧ (v'.ownBlock = v.ownBlock ∨ ∃ k, v'.ownBlock = some k ∧ w.heap.size ≤ k) := by
  obtain ⟨i0, hi, hz0, hz1, hz2⟩ := info_parts hinf
  obtain ⟨v', w', hrun, h2, h3, _, h5⟩ := run_append_own_at (P := Tryz.prog) (w.alloc (.cells news.toArray e)) base t ty e i0 _ sz by_ ht hi hz0 hz1 hz2 hzs hsz
    v n xs (World.ownsRow.kept hown (World.grownBy_alloc w _ none) (by
      rcases hv : Value.ownBlock v with _ | g
      · exact .inl rfl
      · exact .inr (by simp))) ⟨w.heap.size, 0, none⟩ 1 1 news (by rw [hnl, Nat.one_mul]) (by
      intro j u hj
      have e : (⟨w.heap.size, 0, none⟩ : Addr).add j = ⟨w.heap.size, j, none⟩ := by
        unfold Addr.add
        split
        · rename_i h0; subst h0; rfl
        · simp
      rw [e, (Blk.new w _ _).cell, List.getElem?_toArray]
      exact hj) hone h63 hby (by simp; omega)
  refine ⟨v', w', hrun, h2, grownBy_trans (World.grownBy_alloc w _ _) h3, ?_⟩
  rcases h5 with h | h
  · exact .inl h
  · exact .inr ⟨_, h, by simp⟩
theorem wpList_appS {ops : Array Oper} {rest : List Oper} {o : Oper} {a : Act} {Q : Exit → Act → World → Prop} (t e : TypeId) (z : Value) (sz by_ : Nat) (ht : Tryz.prog.underlying t = some (.slice e)) (hinf : (Tryz.prog.info? e).map (fun i => (i.zero, i.size, i.bytes)) = some (some z, sz, by_)) (hzs : z.cells.size = sz) (hsz : 0 < sz)
    (w W : World) (news : List Value) (hW : W = w.alloc (.cells news.toArray e)) (hnl : news.length = sz) (hone : ∀ u ∈ news, u.oneCell' = true) (hgd : o.guard = none) (s x : Operand) (ho : o.op = .call { callee := .builtin .append, args := #[s, x], argTypes := #[t, t] })
    (base : Nat) (v : Value) (n : Nat) (xs : List Value) (hs : a.eval s = v) (hx : a.eval x = .slice (some ⟨w.heap.size, 0, none⟩) 1 1) (hown : w.ownsRow base e sz v n xs) (h63 : n + 1 ≤ maxLen) (hby : (n + 1) * by_ ≤ 140737488355328) (hbase : base ≤ w.heap.size)
    (h : ∀ v' w', w'.ownsRow base e sz v' (n + 1) (xs ++ news) → w.grownBy w' v.ownBlock → (v'.ownBlock = v.ownBlock ∨ ∃ k, v'.ownBlock = some k ∧ w.heap.size ≤ k) → wpList Tryz.prog ops Q rest (a.put o.dst v') w') : wpList Tryz.prog ops Q (o :: rest) a W := by
  subst hW
  exact wpList_plain hgd fun _ hK => by
    obtain ⟨v', w', hrun, h1, h2, h3⟩ := run_appS t e z sz by_ ht hinf hzs hsz w news hnl hone base v n xs hown h63 hby hbase o.type
    unfold Oper.wp execOp
    simp only [ho, resolve, invoke, builtin, Sem.run_bind, Sem.run_pure, Result.andThen_ok, List.map_toArray, List.map_cons, List.map_nil, hs, hx, hrun]
    exact hK _ _ (h v' w' h1 h2 h3)
end Go.Proofs.YtflkiddmakeabaaGreatDoor

/- The walk of fold.Check: what may not be. -/
set_option linter.unusedVariables false
namespace Go.Proofs.YtflkiddmakeabaaGreatDoor
open Go.RowKit Zp
end Go.Proofs.YtflkiddmakeabaaGreatDoor

/- The walk of fold.Check: the rounds are laid. -/
set_option linter.unusedVariables false
namespace Go.Proofs.YtflkiddmakeabaaGreatDoor
open Go.RowKit Zp
theorem Dom.to {w w' : World} {S S' D b p n : Nat} [NeZero p] {s : Fin p} (h : Dom w S D b p n s) (hF : Fld w' S' b p) (hD : D < S') (hc : ∀ j v, w.cell? ⟨D, j, none⟩ = some v → w'.cell? ⟨D, j, none⟩ = some v) : Dom w' S' D b p n s :=
  ⟨hF, hD, hc _ _ h.c0, hc _ _ h.c1, hc _ _ h.c2, hc _ _ h.c3, h.s0, h.size⟩
/-- a round that is not looked at yet -/
def newR (D : Nat) : List Value := [.pointer (some ⟨D, 0, none⟩), vi 0, .slice none 0 0, .slice none 0 0, .slice none 0 0]
def newRs (Ds : Nat → Nat) (t : Nat) : List Value := (List.range t).flatMap fun i => newR (Ds i)
theorem newRs_succ (Ds : Nat → Nat) (t : Nat) : newRs Ds (t + 1) = newRs Ds t ++ newR (Ds t) := by simp [newRs, List.range_succ]
/-- what stands when t rounds were laid -/
structure Laid5 (w wr : World) (p b2 e : Nat) [NeZero p] (s : Fin p) (Dd : Nat) (o : Array Value) (t : Nat) (Ds : Nat → Nat) (v : Value) : Prop where
  d0 : Ds 0 = Dd
  bo : Blk wr w.heap.size 26 o
  bv : Blk wr (w.heap.size + 1) 73 #[v]
  ba : Blk wr (w.heap.size + 2) 27 #[.pointer (some ⟨Ds t, 0, none⟩)]
  own : wr.ownsRow (w.heap.size + 3) 75 5 v t (newRs Ds t)
  bel : Below w.heap.size w wr
  dom : ∀ i, i ≤ t → Dom wr wr.heap.size (Ds i) b2 p (nI e i) (sqI s i) ∧ (Ds i < w.heap.size ∨ w.heap.size + 3 ≤ Ds i) ∧ v.ownBlock ≠ some (Ds i)
/-- a row more, and the half -/
theorem Laid5.step {w wr : World} {p b2 e S2 : Nat} [NeZero p] {s : Fin p} {Dd : Nat} {o : Array Value} {t : Nat} {Ds : Nat → Nat} {v : Value} (hL : Laid5 w wr p b2 e s Dd o t Ds v) (hF0 : Fld w S2 b2 p) {v' : Value} {w2 : World}
    (h1 : w2.ownsRow (w.heap.size + 3) 75 5 v' (t + 1) (newRs Ds t ++ newR (Ds t))) (h2 : wr.grownBy w2 v.ownBlock) (h3 : v'.ownBlock = v.ownBlock ∨ ∃ k, v'.ownBlock = some k ∧ wr.heap.size ≤ k) :
    let w3 := w2.setCell ⟨w.heap.size + 1, 0, none⟩ v'
    Blk w3 w.heap.size 26 o ∧ Blk w3 (w.heap.size + 1) 73 #[v'] ∧ Blk w3 (w.heap.size + 2) 27 #[.pointer (some ⟨Ds t, 0, none⟩)] ∧ w3.ownsRow (w.heap.size + 3) 75 5 v' (t + 1) (newRs Ds t ++ newR (Ds t)) ∧ Below w.heap.size w w3 ∧
      (∀ i, i ≤ t → Dom w3 w3.heap.size (Ds i) b2 p (nI e i) (sqI s i) ∧ (Ds i < w.heap.size ∨ w.heap.size + 3 ≤ Ds i) ∧ v'.ownBlock ≠ some (Ds i)) := by
  have hown : ∀ g, v.ownBlock = some g → w.heap.size + 3 ≤ g := fun g hg => (World.ownsRow.lt hL.own g hg).1
  have hne : ∀ x, x < w.heap.size + 3 → some x ≠ v.ownBlock := fun x hx hg => by have := hown x hg.symm; omega
  have b1 := Blk.grown hL.bo h2 (hne _ (by omega))
  have b2' := Blk.grown hL.bv h2 (hne _ (by omega))
  have b3 := Blk.grown hL.ba h2 (hne _ (by omega))
  have hb2 : Below w.heap.size w w2 := hL.bel.grown h2 hL.bel.size (fun x hx => by have := hown x hx; omega)
  have hg3 : w2.grownBy (w2.setCell ⟨w.heap.size + 1, 0, none⟩ v') (some (w.heap.size + 1)) := blk_grown
  have hb3 : Below w.heap.size w (w2.setCell ⟨w.heap.size + 1, 0, none⟩ v') := hb2.grown hg3 hb2.size (fun x hx => by injection hx with hx; omega)
  have hF3 : Fld (w2.setCell ⟨w.heap.size + 1, 0, none⟩ v') (w2.setCell ⟨w.heap.size + 1, 0, none⟩ v').heap.size b2 p := (hF0.below hb3 hF0.le).moreS (Nat.le_trans hF0.le hb3.size) (Nat.le_refl _)
  refine ⟨Blk.far b1 (p := ⟨w.heap.size + 1, 0, none⟩) (by show w.heap.size ≠ w.heap.size + 1; omega) _, Blk.set_ b2' 0 v', Blk.far b3 (p := ⟨w.heap.size + 1, 0, none⟩) (by show w.heap.size + 2 ≠ w.heap.size + 1; omega) _, ownsRow_setCell_below h1 (a := ⟨w.heap.size + 1, 0, none⟩) (by show w.heap.size + 1 < w.heap.size + 3; omega) _, hb3, fun i hi => ?_⟩
  obtain ⟨hd, hr, ho⟩ := hL.dom i hi
  refine ⟨hd.to hF3 (Nat.lt_of_lt_of_le hd.lt (Nat.le_trans h2.size hg3.size)) (fun j u hu => ?_), hr, ?_⟩
  · have hlt := block_lt_of_cell hu
    have e1 : w2.cell? ⟨Ds i, j, none⟩ = some u := by rw [← hu]; exact World.cell?_of_block (h2.block _ hlt (fun e => ho e.symm))
    rw [← e1]
    exact World.cell?_setCell_far w2 ⟨w.heap.size + 1, 0, none⟩ ⟨Ds i, j, none⟩ v' (by show w.heap.size + 1 ≠ Ds i; omega)
  · rcases h3 with h | ⟨k, h, hk⟩
    · rw [h]; exact ho
    · rw [h]; intro e'; injection e' with e'; have := hd.lt; omega
/-- the half is laid down -/
theorem Laid5.next {w w3 w4 : World} {p b2 e S2 : Nat} [NeZero p] {s : Fin p} {Dd : Nat} {o : Array Value} {t : Nat} {Ds : Nat → Nat} {v' : Value} (hF0 : Fld w S2 b2 p) (hd0 : Ds 0 = Dd)
    (h : Blk w3 w.heap.size 26 o ∧ Blk w3 (w.heap.size + 1) 73 #[v'] ∧ Blk w3 (w.heap.size + 2) 27 #[.pointer (some ⟨Ds t, 0, none⟩)] ∧ w3.ownsRow (w.heap.size + 3) 75 5 v' (t + 1) (newRs Ds t ++ newR (Ds t)) ∧ Below w.heap.size w w3 ∧
      (∀ i, i ≤ t → Dom w3 w3.heap.size (Ds i) b2 p (nI e i) (sqI s i) ∧ (Ds i < w.heap.size ∨ w.heap.size + 3 ≤ Ds i) ∧ v'.ownBlock ≠ some (Ds i)))
    {D' : Nat} (hD : Dom w4 w4.heap.size D' b2 p (nI e (t + 1)) (sqI s (t + 1))) (hb : Below w3.heap.size w3 w4) (hD' : w3.heap.size ≤ D') :
    Laid5 w (w4.setCell ⟨w.heap.size + 2, 0, none⟩ (.pointer (some ⟨D', 0, none⟩))) p b2 e s Dd o (t + 1) (fun i => if i ≤ t then Ds i else D') v' := by
  obtain ⟨b1, b2', b3, ho, hbel, hdom⟩ := h
  have c1 := Blk.below b1 hb b1.lt
  have c2 := Blk.below b2' hb b2'.lt
  have c3 := Blk.below b3 hb b3.lt
  have hg : w4.grownBy (w4.setCell ⟨w.heap.size + 2, 0, none⟩ (.pointer (some ⟨D', 0, none⟩))) (some (w.heap.size + 2)) := blk_grown
  have hb4 : Below w.heap.size w w4 := hbel.trans (hb.mono hbel.size)
  have hb5 : Below w.heap.size w (w4.setCell ⟨w.heap.size + 2, 0, none⟩ (.pointer (some ⟨D', 0, none⟩))) := hb4.grown hg hb4.size (fun x hx => by injection hx with hx; omega)
  have hF5 : Fld (w4.setCell ⟨w.heap.size + 2, 0, none⟩ (.pointer (some ⟨D', 0, none⟩))) (w4.setCell ⟨w.heap.size + 2, 0, none⟩ (.pointer (some ⟨D', 0, none⟩))).heap.size b2 p := (hF0.below hb5 hF0.le).moreS (Nat.le_trans hF0.le hb5.size) (Nat.le_refl _)
  have hb2lt := b2'.lt
  have hb3lt := b3.lt
  have ho4 : w4.ownsRow (w.heap.size + 3) 75 5 v' (t + 1) (newRs Ds t ++ newR (Ds t)) := World.ownsRow.kept ho (grown_of_below hb none) (by
    rcases hv : Value.ownBlock v' with _ | g
    · exact .inl rfl
    · exact .inr (by simp))
  have ers : newRs Ds t ++ newR (Ds t) = newRs (fun i => if i ≤ t then Ds i else D') (t + 1) := by
    rw [newRs_succ]
    congr 1
    · unfold newRs
      simp only [List.flatMap_def]
      congr 1
      apply List.map_congr_left
      intro i hi
      have := List.mem_range.1 hi
      (try simp only)
      rw [if_pos (by omega)]
    · (try simp only); rw [if_pos (Nat.le_refl _)]
  rw [ers] at ho4
  refine ⟨by (try simp only); rw [if_pos (Nat.zero_le _)]; exact hd0, Blk.far c1 (p := ⟨w.heap.size + 2, 0, none⟩) (by show w.heap.size ≠ w.heap.size + 2; omega) _, Blk.far c2 (p := ⟨w.heap.size + 2, 0, none⟩) (by show w.heap.size + 1 ≠ w.heap.size + 2; omega) _, ?_, ownsRow_setCell_below ho4 (a := ⟨w.heap.size + 2, 0, none⟩) (by show w.heap.size + 2 < w.heap.size + 3; omega) _, hb5, fun i hi => ?_⟩
  · have := Blk.set_ c3 0 (.pointer (some ⟨D', 0, none⟩))
    (try simp only)
    rw [if_neg (by omega)]
    exact this
  · (try simp only)
    by_cases hit : i ≤ t
    · rw [if_pos hit]
      obtain ⟨hd, hr, hov⟩ := hdom i hit
      refine ⟨hd.to hF5 (Nat.lt_of_lt_of_le hd.lt (Nat.le_trans hb.size hg.size)) (fun j u hu => ?_), hr, hov⟩
      have e1 : w4.cell? ⟨Ds i, j, none⟩ = some u := by rw [← hu]; exact hb.cell (p := ⟨Ds i, j, none⟩) hd.lt
      rw [← e1]
      exact World.cell?_setCell_far w4 ⟨w.heap.size + 2, 0, none⟩ ⟨Ds i, j, none⟩ _ (by show w.heap.size + 2 ≠ Ds i; omega)
    · rw [if_neg hit]
      obtain rfl : i = t + 1 := by omega
      refine ⟨hD.to hF5 (Nat.lt_of_lt_of_le hD.lt hg.size) (fun j u hu => ?_), .inr (by omega), fun e' => by have := (World.ownsRow.lt ho _ e').2; omega⟩
      rw [← hu]
      exact World.cell?_setCell_far w4 ⟨w.heap.size + 2, 0, none⟩ ⟨D', j, none⟩ _ (by show w.heap.size + 2 ≠ D'; omega)
end Go.Proofs.YtflkiddmakeabaaGreatDoor

/- The walk of fold.Check. -/
set_option linter.unusedVariables false
namespace Go.Proofs.YtflkiddmakeabaaGreatDoor
open Go.RowKit Zp
end Go.Proofs.YtflkiddmakeabaaGreatDoor
