/- A bundle of texts: Co, Ou, As, Ot, Rb, Hr, Hp, Rs, Hh, Rch, Fm, Nf, Ng, Fz, Pn, Tc, Rt1, Ru, Rw, Rx, Ry, Told, Lv1, Same, Pl3, Ss, Oa, LawN1, Nd, Ne, Nh, Row5, Sh5, Fk, Fe, Ro, Qd, Rf, Be, Rnd. -/
import Derived.Test.YtonalbdehcmjmaaGreatQ05
import Derived.Test.YtonalbdehcmjmaaGreatQ06
import Derived.Deep.DeepCutAuto
import Derived.Test.YtonalbdehcmjmaaGreatQ01
import Derived.Test.YtonalbdehcmjmaaGreatQ04
import Derived.Test.YtonalbdehcmjmaaGreatQ03
import Derived.BigQuiet
import Derived.IntWalk
import Derived.Test.YtonalbdehcmjmaaGreatQ00
import Derived.Deep.LoopGhost
import Derived.Deep.QuietTactic
import Derived.LaidEql
import Derived.Stop.Asserts
import Derived.RowKitTokens
import Derived.Lib.SmallJoins
import Derived.ChangeOld
import Derived.Below
import Derived.OpenShut
/- Walks: same.Rows, Openings, Opened; tree.Check. -/
set_option linter.unusedVariables false
namespace Go.Proofs.YtonalbdehcmjmaaGreat
open Go.RowKit Zp
/-- an Opening in memory, as a value -/
structure OpnAt (w : World) (A0 : Option Addr) (n0 c0 : Nat) (l : List Int) (AR : Option Addr) (nR cR : Nat) (rs : List (List Int)) (AN : Option Addr) (nN cN : Nat) (ns : List (List Int)) : Prop where
  l0 : l.length = n0
  lR : rs.length = nR
  lN : ns.length = nN
  b0 : n0 * 8 ≤ 140737488351232
  bR : nR ≤ 5864062014805
  bN : nN ≤ 5864062014805
  hN : nN ≤ cN
  i0 : ∀ x ∈ l, I64 x
  rR : ∀ t ∈ rs, t.length * 8 ≤ 140737488351232
  rN : ∀ t ∈ ns, t.length * 8 ≤ 140737488351232
  s0 : SL w A0 l
  tR : TB w AR rs
  tN : TB w AN ns
theorem OpnAt.below {w w' : World} {A0 : Option Addr} {n0 c0 : Nat} {l : List Int} {AR : Option Addr} {nR cR : Nat} {rs : List (List Int)} {AN : Option Addr} {nN cN : Nat} {ns : List (List Int)} (h : OpnAt w A0 n0 c0 l AR nR cR rs AN nN cN ns) (hb : Below w.heap.size w w') : OpnAt w' A0 n0 c0 l AR nR cR rs AN nN cN ns :=
  ⟨h.l0, h.lR, h.lN, h.b0, h.bR, h.bN, h.hN, h.i0, h.rR, h.rN, h.s0.below hb, h.tR.below hb, h.tN.below hb⟩
theorem OpnAt.drewN {w : World} {A0 : Option Addr} {n0 c0 : Nat} {l : List Int} {AR : Option Addr} {nR cR : Nat} {rs : List (List Int)} {AN : Option Addr} {nN cN : Nat} {ns : List (List Int)} (h : OpnAt w A0 n0 c0 l AR nR cR rs AN nN cN ns) (k : Nat) : OpnAt (w.drewN k) A0 n0 c0 l AR nR cR rs AN nN cN ns := h.below (below_drewN (Below.refl _ _) k)
theorem MadeRows.tb {ls : List (List Int)} {w : World} {e : Ending} {w' : World} (h : MadeRows ls w e w') (hi : ∀ l ∈ ls, ∀ x ∈ l, I64 x) : ∃ A n c, e = .returned (.slice A n c) ∧ ls.length = n ∧ n ≤ c ∧ TB w' A ls ∧ Below w.heap.size w w' := by
  obtain ⟨v, us, rfl, ho, hr, hb⟩ := h
  obtain ⟨A, n, c, rfl, h1, h2⟩ := ownR_shape ho
  exact ⟨A, n, c, rfl, by rw [← hr.1]; exact h1, h2, tb_own ho hr hi, hb⟩
theorem own_past {w w' : World} {base r : Nat} {v : Value} {xs : List Int} (h : Own w base v xs) (hg : w.grownBy w' (some r)) (hr : r < base) : Own w' base v xs :=
  h.keep fun g hgv => hg.block g (h.lt g hgv).2 (fun e => by injection e with e; have := (h.lt g hgv).1; omega)
theorem ownR_past {w w' : World} {base r : Nat} {v : Value} {us : List Value} (h : OwnR w base v us) (hg : w.grownBy w' (some r)) (hr : r < base) : OwnR w' base v us :=
  World.ownsRow.kept h hg (by
    rcases hv : v.ownBlock with _ | g
    · exact .inl rfl
    · refine .inr fun e => ?_
      injection e with e
      have := (World.ownsRow.lt h g hv).1
      omega)
theorem rowsOwn_past {w w' : World} {base r : Nat} {us : List Value} {ls : List (List Int)} (h : RowsOwn w base us ls) (hg : w.grownBy w' (some r)) (hr : r < base) : RowsOwn w' base us ls := ⟨h.1, fun k h1 h2 => own_past (h.2 k h1 h2) hg hr⟩
/-- three cells of a block are stored into -/
theorem blk_set3 {w : World} {r : Nat} {t : TypeId} {a b c : Value} (h : Blk w r t #[a, b, c]) (x y z : Value) : Blk (((w.setCell ⟨r, 0, none⟩ x).setCell ⟨r, 1, none⟩ y).setCell ⟨r, 2, none⟩ z) r t #[x, y, z] ∧ w.grownBy (((w.setCell ⟨r, 0, none⟩ x).setCell ⟨r, 1, none⟩ y).setCell ⟨r, 2, none⟩ z) (some r) :=
  ⟨((h.set_ 0 x).set_ 1 y).set_ 2 z, grownBy_trans (grownBy_trans blk_grown blk_grown) blk_grown⟩
end Go.Proofs.YtonalbdehcmjmaaGreat

/- same.Opened again: the copy stays whole whatever is done elsewhere. -/
set_option linter.unusedVariables false
namespace Go.Proofs.YtonalbdehcmjmaaGreat
open Go.RowKit Zp
/-- the blocks from B up are as they were -/
def KeepUp (B : Nat) (w' w'' : World) : Prop := w'.heap.size ≤ w''.heap.size ∧ ∀ x, B ≤ x → x < w'.heap.size → w''.heap[x]? = w'.heap[x]?
theorem ownsRow_keep {w w' : World} {base sz n : Nat} {e : TypeId} {v : Value} {xs : List Value} (h : w.ownsRow base e sz v n xs) (hk : ∀ g, v.ownBlock = some g → w'.heap[g]? = w.heap[g]?) : w'.ownsRow base e sz v n xs := by
  refine ⟨h.1, ?_⟩
  rcases h.2 with h0 | ⟨g, cap, cur, hv, hg, hh, rest⟩
  · exact .inl h0
  · exact .inr ⟨g, cap, cur, hv, hg, by rw [hk g (by rw [hv]; rfl)]; exact hh, rest⟩
theorem sl_of {w : World} {base n c : Nat} {A : Option Addr} {xs : List Int} (h : Own w base (.slice A n c) xs) : SL w A xs := by
  obtain ⟨A', n', c', e, _, _, _, hs⟩ := Own.shapeN h
  injection e with e1 e2 e3
  subst e1 e2 e3
  exact hs
end Go.Proofs.YtonalbdehcmjmaaGreat

/- append of one struct to a row of one's own. -/
set_option linter.unusedVariables false
namespace Go.Proofs.YtonalbdehcmjmaaGreat
open Go.RowKit
theorem run_appS (t e : TypeId) (z : Value) (sz by_ : Nat) (ht : Tryz.prog.underlying t = some (.slice e)) (hinf : (Tryz.prog.info? e).map (fun i => (i.zero, i.size, i.bytes)) = some (some z, sz, by_)) (hzs : z.cells.size = sz) (hsz : 0 < sz)
    (w : World) (news : List Value) (hnl : news.length = sz) (hone : ∀ u ∈ news, u.oneCell' = true) (base : Nat) (v : Value) (n : Nat) (xs : List Value) (hown : w.ownsRow base e sz v n xs) (h63 : n + 1 ≤ maxLen) (hby : (n + 1) * by_ ≤ 140737488355328) (hbase : base ≤ w.heap.size) (ty : TypeId) :
    ∃ v' w', (Builtin.append_ #[t, t] ty #[v, .slice (some ⟨w.heap.size, 0, none⟩) 1 1]).run Tryz.prog (w.alloc (.cells news.toArray e)) = .ok v' w' ∧ w'.ownsRow base e sz v' (n + 1) (xs ++ news) ∧ w.grownBy w' v.ownBlock ∧ (v'.ownBlock = v.ownBlock ∨ ∃ k, v'.ownBlock = some k ∧ w.heap.size ≤ k) := by
  obtain ⟨i0, hi, hz0, hz1, hz2⟩ := info_parts hinf
  obtain ⟨v', w', hrun, h2, h3, _, h5⟩ := run_append_own_at (P := Tryz.prog) (w.alloc (.cells news.toArray e)) base t ty e i0 _ sz by_ ht hi hz0 hz1 hz2 hzs hsz
    v n xs (World.ownsRow.kept hown (World.grownBy_alloc w _ none) (by
      rcases hv : Value.ownBlock v with _ | g
      · exact .inl rfl
      · exact .inr (by simp))) ⟨w.heap.size, 0, none⟩ 1 1 news (by rw [hnl, Nat.one_mul]) (by
      intro j u hj
      have e : (⟨w.heap.size, 0, none⟩ : Addr).add j = ⟨w.heap.size, j, none⟩ := by
        unfold Addr.add
        split
        · rename_i h0; subst h0; rfl
        · simp
      rw [e, (Blk.new w _ _).cell, List.getElem?_toArray]
      exact hj) hone h63 hby (by simp; omega)
  refine ⟨v', w', hrun, h2, grownBy_trans (World.grownBy_alloc w _ _) h3, ?_⟩
  rcases h5 with h | h
  · exact .inl h
  · exact .inr ⟨_, h, by simp⟩
theorem wpList_appS {ops : Array Oper} {rest : List Oper} {o : Oper} {a : Act} {Q : Exit → Act → World → Prop} (t e : TypeId) (z : Value) (sz by_ : Nat) (ht : Tryz.prog.underlying t = some (.slice e)) (hinf : (Tryz.prog.info? e).map (fun i => (i.zero, i.size, i.bytes)) = some (some z, sz, by_)) (hzs : z.cells.size = sz) (hsz : 0 < sz)
    (w W : World) (news : List Value) (hW : W = w.alloc (.cells news.toArray e)) (hnl : news.length = sz) (hone : ∀ u ∈ news, u.oneCell' = true) (hgd : o.guard = none) (s x : Operand) (ho : o.op = .call { callee := .builtin .append, args := #[s, x], argTypes := #[t, t] })
    (base : Nat) (v : Value) (n : Nat) (xs : List Value) (hs : a.eval s = v) (hx : a.eval x = .slice (some ⟨w.heap.size, 0, none⟩) 1 1) (hown : w.ownsRow base e sz v n xs) (h63 : n + 1 ≤ maxLen) (hby : (n + 1) * by_ ≤ 140737488355328) (hbase : base ≤ w.heap.size)
    (h : ∀ v' w', w'.ownsRow base e sz v' (n + 1) (xs ++ news) → w.grownBy w' v.ownBlock → (v'.ownBlock = v.ownBlock ∨ ∃ k, v'.ownBlock = some k ∧ w.heap.size ≤ k) → wpList Tryz.prog ops Q rest (a.put o.dst v') w') : wpList Tryz.prog ops Q (o :: rest) a W := by
  subst hW
  exact wpList_plain hgd fun _ hK => by
    obtain ⟨v', w', hrun, h1, h2, h3⟩ := run_appS t e z sz by_ ht hinf hzs hsz w news hnl hone base v n xs hown h63 hby hbase o.type
    unfold Oper.wp execOp
    simp only [ho, resolve, invoke, builtin, Sem.run_bind, Sem.run_pure, Result.andThen_ok, List.map_toArray, List.map_cons, List.map_nil, hs, hx, hrun]
    exact hK _ _ (h v' w' h1 h2 h3)
end Go.Proofs.YtonalbdehcmjmaaGreat

/- Openings in memory, in a table; what is folded, in memory. -/
set_option linter.unusedVariables false
namespace Go.Proofs.YtonalbdehcmjmaaGreat
open Go.RowKit Zp
/-- an Opening -/
structure OpnI where
  l : List Int
  rs : List (List Int)
  ns : List (List Int)
/-- what shows that a word is of low degree -/
structure FldI where
  roots : List (List Int)
  last : List Int
  opens : List OpnI
/-- an Opening at place k of a table -/
def OTE (w : World) (ad : Addr) (k : Nat) (o : OpnI) : Prop :=
  ∃ A0 n0 c0 AR nR cR AN nN cN, w.cell? (ad.add (k * 3)) = some (.slice A0 n0 c0) ∧ w.cell? (ad.add (k * 3 + 1)) = some (.slice AR nR cR) ∧ w.cell? (ad.add (k * 3 + 2)) = some (.slice AN nN cN) ∧ OpnAt w A0 n0 c0 o.l AR nR cR o.rs AN nN cN o.ns
theorem OTE.below {w w' : World} {ad : Addr} {k : Nat} {o : OpnI} (h : OTE w ad k o) (hb : Below w.heap.size w w') : OTE w' ad k o := by
  obtain ⟨A0, n0, c0, AR, nR, cR, AN, nN, cN, h1, h2, h3, h4⟩ := h
  exact ⟨A0, n0, c0, AR, nR, cR, AN, nN, cN, (hb.cell (block_lt_of_cell h1)).trans h1, (hb.cell (block_lt_of_cell h2)).trans h2, (hb.cell (block_lt_of_cell h3)).trans h3, h4.below hb⟩
/-- as a walk names the cells -/
theorem OTE.cells {w : World} {ad : Addr} {k : Nat} {o : OpnI} (h : OTE w ad k o) : ∃ A0 n0 c0 AR nR cR AN nN cN, w.cell? (ad.add (k * 3)) = some (.slice A0 n0 c0) ∧ w.cell? ⟨(ad.add (k * 3)).block, (ad.add (k * 3)).off + 1, none⟩ = some (.slice AR nR cR) ∧ w.cell? ⟨(ad.add (k * 3)).block, (ad.add (k * 3)).off + 2, none⟩ = some (.slice AN nN cN) ∧ OpnAt w A0 n0 c0 o.l AR nR cR o.rs AN nN cN o.ns := by
  obtain ⟨A0, n0, c0, AR, nR, cR, AN, nN, cN, h1, h2, h3, h4⟩ := h
  have e1 : ad.add (k * 3 + 1) = ⟨(ad.add (k * 3)).block, (ad.add (k * 3)).off + 1, none⟩ := by rw [← add_of_add]; simp [Addr.add]
  have e2 : ad.add (k * 3 + 2) = ⟨(ad.add (k * 3)).block, (ad.add (k * 3)).off + 2, none⟩ := by rw [← add_of_add]; simp [Addr.add]
  exact ⟨A0, n0, c0, AR, nR, cR, AN, nN, cN, h1, by rw [← e1]; exact h2, by rw [← e2]; exact h3, h4⟩
/-- a table of Openings -/
def OT (w : World) (A : Option Addr) (os : List OpnI) : Prop := ∀ k (hk : k < os.length), ∃ ad, A = some ad ∧ OTE w ad k os[k]
theorem OT.below {w w' : World} {A : Option Addr} {os : List OpnI} (h : OT w A os) (hb : Below w.heap.size w w') : OT w' A os := fun k hk => by
  obtain ⟨ad, h1, h2⟩ := h k hk
  exact ⟨ad, h1, h2.below hb⟩
theorem OT.nil (w : World) (A : Option Addr) : OT w A [] := fun k hk => by simp at hk
/-- what is folded, in memory, as a value -/
structure FAt (w : World) (AR : Option Addr) (nR cR : Nat) (AL : Option Addr) (nL cL : Nat) (AO : Option Addr) (nO cO : Nat) (f : FldI) : Prop where
  lR : f.roots.length = nR
  lL : f.last.length = nL
  lO : f.opens.length = nO
  bR : nR ≤ 5864062014805
  bL : nL * 8 ≤ 140737488351232
  bO : nO ≤ 1954687338211
  iL : ∀ x ∈ f.last, I64 x
  rR : ∀ t ∈ f.roots, t.length * 8 ≤ 140737488351232
  tR : TB w AR f.roots
  sL : SL w AL f.last
  tO : OT w AO f.opens
section
variable {w w' : World} {AR : Option Addr} {nR cR : Nat} {AL : Option Addr} {nL cL : Nat} {AO : Option Addr} {nO cO : Nat} {f : FldI}
theorem FAt.below (h : FAt w AR nR cR AL nL cL AO nO cO f) (hb : Below w.heap.size w w') : FAt w' AR nR cR AL nL cL AO nO cO f :=
  ⟨h.lR, h.lL, h.lO, h.bR, h.bL, h.bO, h.iL, h.rR, h.tR.below hb, h.sL.below hb, h.tO.below hb⟩
end
end Go.Proofs.YtonalbdehcmjmaaGreat

/- Walks of the reference's Add, Sub, Mul, Pow, Inv, Div. -/
set_option linter.unusedVariables false
namespace Go.Proofs.YtonalbdehcmjmaaGreat
open Go.RowKit Zp


/-- what the loop of Pow knows -/
def RPow {p : Nat} [NeZero p] (T : Fin p) (n : Int) (a x k : Value) : Prop :=
  ∃ (j : Int) (A X : Fin p), j.natAbs ≤ n.natAbs ∧ I64 j ∧ a = vi (fv A) ∧ x = vi (fv X) ∧ k = vi j ∧ X * pw A j.natAbs = T
theorem RPow.step {p : Nat} [NeZero p] {T A X : Fin p} {n j r d : Int} (h0 : j ≠ 0) (h : X * pw A j.natAbs = T) (hj : j.natAbs ≤ n.natAbs) (hr : j.tmod 2 = r) (hd : j.tdiv 2 = d) :
    d.natAbs ≤ n.natAbs ∧ d.natAbs < j.natAbs ∧ (r = 0 → X * pw (A * A) d.natAbs = T) ∧ (r ≠ 0 → X * A * pw (A * A) d.natAbs = T) := by
  have e1 : d.natAbs = j.natAbs / 2 := by rw [← hd]; simp [Int.natAbs_tdiv]; rfl
  have e2 : r.natAbs = j.natAbs % 2 := by rw [← hr]; simp [Int.natAbs_tmod]
  have hs := pow_step A j.natAbs
  rw [← e1] at hs
  refine ⟨by omega, by omega, fun hr0 => ?_, fun hr0 => ?_⟩
  · rw [← h, hs, if_neg (by omega)]; grind
  · rw [← h, hs, if_pos (by omega)]; grind

end Go.Proofs.YtonalbdehcmjmaaGreat

/- ref3: Power, Constant, Mix, Permute. -/
set_option linter.unusedVariables false
namespace Go.Proofs.YtonalbdehcmjmaaGreat
open Go.RowKit Zp

/-- no divisor from 2 to i - 1 in common -/
def NoCom (n m i : Nat) : Prop := ∀ j, 2 ≤ j → j < i → ¬ (j ∣ n ∧ j ∣ m)
theorem NoCom.step {n m i : Nat} (h : NoCom n m i) (hi : ¬ (i ∣ n ∧ i ∣ m)) : NoCom n m (i + 1) := fun j h2 hj => by
  by_cases e : j = i
  · subst e; exact hi
  · exact h j h2 (by omega)
theorem NoCom.gcd {n m : Nat} (hn : 0 < n) (h : NoCom n m (n + 1)) : Nat.gcd n m = 1 := by
  have h1 := Nat.gcd_dvd_left n m
  have h2 := Nat.gcd_dvd_right n m
  have h3 := Nat.le_of_dvd hn h1
  have h4 := Nat.gcd_pos_of_pos_left m hn
  false_or_by_contra
  rename_i hne
  exact h _ (by omega) (by omega) ⟨h1, h2⟩
section
variable {p : Nat} [NeZero p] {w : World} {s b k z : Nat} {oo : Nat → Nat → Fin p}
end
end Go.Proofs.YtonalbdehcmjmaaGreat

/- ref3.Pad. -/
set_option linter.unusedVariables false
namespace Go.Proofs.YtonalbdehcmjmaaGreat
open Go.RowKit Zp

end Go.Proofs.YtonalbdehcmjmaaGreat

/- ref1.Same: are two lists the same, as elements? -/
set_option linter.unusedVariables false
namespace Go.Proofs.YtonalbdehcmjmaaGreat
open Go.RowKit Zp

end Go.Proofs.YtonalbdehcmjmaaGreat

/- ref3.Hash. -/
set_option linter.unusedVariables false
namespace Go.Proofs.YtonalbdehcmjmaaGreat
open Go.RowKit Zp

end Go.Proofs.YtonalbdehcmjmaaGreat

/- The walks of the reference's chains: Step, Begin, Draw, Place. -/
set_option linter.unusedVariables false
namespace Go.Proofs.YtonalbdehcmjmaaGreat
open Go.RowKit Zp
theorem grown_any {a b d : World} {c : Nat} {row : Option Nat} (h : a.grownBy b (some c)) (h' : b.grownBy d row) (hg : ∀ g, row = some g → a.heap.size ≤ g) : a.grownBy d (some c) :=
  ⟨h'.os.trans h.os, h'.tape.trans h.tape, h'.output.trans h.output, Nat.le_trans h.size h'.size, fun x hx hne => (h'.block x (Nat.lt_of_lt_of_le hx h.size) (fun e => by have := hg x e.symm; omega)).trans (h.block x hx hne)⟩

end Go.Proofs.YtonalbdehcmjmaaGreat

/- Walks: fold.may, ref5.Fault. -/
set_option linter.unusedVariables false
namespace Go.Proofs.YtonalbdehcmjmaaGreat
open Go.RowKit Zp
/-- may a degree and a number of places be? -/
def fmayB (n : Nat) (k asked : Int) : Bool := decide (2 ≤ n ∧ 1 ≤ k ∧ (k.toNat &&& (k.toNat - 1)) = 0 ∧ k ≤ (n : Int) / 2 ∧ 1 ≤ asked ∧ asked ≤ 64)
set_option maxRecDepth 100000 in
set_option maxHeartbeats 1000000 in
theorem fmay_any (D n : Nat) (k asked : Int) (hk : I64 k) (hn : n ≤ 65536) (w : World) (hc : w.cell? ⟨D, 1, none⟩ = some (vi n)) :
    Calls Tryz.prog 27 #[.pointer (some ⟨D, 0, none⟩), vi k, vi asked] w fun e w' => e = .returned (.bool (fmayB n k asked)) ∧ w = w' := by
  have hq : wrap64 ((n : Int) / 2) = (n : Int) / 2 := IntWalk.wrap64_in _ (by omega)
  by_cases c1 : 2 ≤ n
  · have a1 : decide ((2 : Int) ≤ (n : Int)) = true := decide_eq_true (by omega)
    by_cases c2 : 1 ≤ k
    · have a2 : decide ((1 : Int) ≤ k) = true := decide_eq_true c2
      have hw : IntKind.i64.wrap (k - 1) = k - 1 := IntWalk.i64_in _ (by omega)
      have hand : bits .and .i64 k (k - 1) = ((k.toNat &&& (k.toNat - 1) : Nat) : Int) := by
        have h := i64_and_nat k.toNat (k.toNat - 1) (by omega) (by omega)
        rw [show ((k.toNat : Nat) : Int) = k by omega, show ((k.toNat - 1 : Nat) : Int) = k - 1 by omega] at h
        exact h
      by_cases c3 : (k.toNat &&& (k.toNat - 1)) = 0
      · have a3 : (bits .and .i64 k (k - 1) == 0) = true := by rw [hand, c3]; rfl
        by_cases c4 : k ≤ (n : Int) / 2
        · have a4 : decide (k ≤ (n : Int) / 2) = true := decide_eq_true c4
          by_cases c5 : 1 ≤ asked
          · have a5 : decide ((1 : Int) ≤ asked) = true := decide_eq_true c5
            by_cases c6 : asked ≤ 64
            · have a6 : decide (asked ≤ 64) = true := decide_eq_true c6
              have HR := Lib.hid (show fmayB n k asked = true from decide_eq_true ⟨c1, c2, c3, c4, c5, c6⟩)
              clear hand c3
              go_enter Tryz.func27, Tryz.ntmps27
              go_wp2_with (go_at_call 28; refine (size_any D n _ hc).mono ?_; rintro e w' ⟨rfl, rfl⟩)
              go_ret
              exact ⟨ret_bool HR.out.symm, rfl⟩
            · have a6 : decide (asked ≤ 64) = false := decide_eq_false c6
              have HR := Lib.hid (show fmayB n k asked = false from decide_eq_false (fun h => c6 h.2.2.2.2.2))
              clear hand c3
              go_enter Tryz.func27, Tryz.ntmps27
              go_wp2_with (go_at_call 28; refine (size_any D n _ hc).mono ?_; rintro e w' ⟨rfl, rfl⟩)
              go_ret
              exact ⟨ret_bool HR.out.symm, rfl⟩
          · have a5 : decide ((1 : Int) ≤ asked) = false := decide_eq_false c5
            have HR := Lib.hid (show fmayB n k asked = false from decide_eq_false (fun h => c5 h.2.2.2.2.1))
            clear hand c3
            go_enter Tryz.func27, Tryz.ntmps27
            go_wp2_with (go_at_call 28; refine (size_any D n _ hc).mono ?_; rintro e w' ⟨rfl, rfl⟩)
            go_ret
            exact ⟨ret_bool HR.out.symm, rfl⟩
        · have a4 : decide (k ≤ (n : Int) / 2) = false := decide_eq_false c4
          have HR := Lib.hid (show fmayB n k asked = false from decide_eq_false (fun h => c4 h.2.2.2.1))
          clear hand c3
          go_enter Tryz.func27, Tryz.ntmps27
          go_wp2_with (go_at_call 28; refine (size_any D n _ hc).mono ?_; rintro e w' ⟨rfl, rfl⟩)
          go_ret
          exact ⟨ret_bool HR.out.symm, rfl⟩
      · have a3 : (bits .and .i64 k (k - 1) == 0) = false := by rw [hand, beq_eq_false_iff_ne]; omega
        have HR := Lib.hid (show fmayB n k asked = false from decide_eq_false (fun h => c3 h.2.2.1))
        clear hand c3
        go_enter Tryz.func27, Tryz.ntmps27
        go_wp2_with (go_at_call 28; refine (size_any D n _ hc).mono ?_; rintro e w' ⟨rfl, rfl⟩)
        go_ret
        exact ⟨ret_bool HR.out.symm, rfl⟩
    · have a2 : decide ((1 : Int) ≤ k) = false := decide_eq_false c2
      have HR := Lib.hid (show fmayB n k asked = false from decide_eq_false (fun h => c2 h.2.1))
      go_enter Tryz.func27, Tryz.ntmps27
      go_wp2_with (go_at_call 28; refine (size_any D n _ hc).mono ?_; rintro e w' ⟨rfl, rfl⟩)
      go_ret
      exact ⟨ret_bool HR.out.symm, rfl⟩
  · have a1 : decide ((2 : Int) ≤ (n : Int)) = false := decide_eq_false (by omega)
    have HR := Lib.hid (show fmayB n k asked = false from decide_eq_false (fun h => c1 h.1))
    go_enter Tryz.func27, Tryz.ntmps27
    go_wp2_with (go_at_call 28; refine (size_any D n _ hc).mono ?_; rintro e w' ⟨rfl, rfl⟩)
    go_ret
    exact ⟨ret_bool HR.out.symm, rfl⟩
end Go.Proofs.YtonalbdehcmjmaaGreat

/- The reference's Once: places ascending, each once. -/
set_option linter.unusedVariables false
namespace Zp
/-- may a number come next behind t of them? -/
def Cand (S : List Int) (t : Nat) (x : Int) : Prop := ∀ j (h : j < S.length), j < t → S[j] < x
theorem cand_in {l : List Int} {t : Nat} {x : Int} (hx : x ∈ l) (h : Cand (onceL l) t x) : ∃ j, ∃ hj : j < (onceL l).length, t ≤ j ∧ (onceL l)[j] = x := by
  obtain ⟨j, hj, e⟩ := List.mem_iff_getElem.1 ((mem_onceL x l).2 hx)
  refine ⟨j, hj, ?_, e⟩
  rcases Nat.lt_or_ge j t with h1 | h1
  · have := h j hj h1; omega
  · exact h1
theorem cand_none {l : List Int} {t : Nat} (h : ∀ x ∈ l, ¬ Cand (onceL l) t x) (ht : t ≤ (onceL l).length) : t = (onceL l).length := by
  rcases Nat.lt_or_ge t (onceL l).length with h1 | h1
  · exfalso
    refine h (onceL l)[t] ((mem_onceL _ l).1 (List.getElem_mem h1)) fun j hj hjt => (asc_onceL l).at_lt hjt h1
  · omega
theorem cand_min {l : List Int} {t : Nat} {y : Int} (hy : y ∈ l) (hc : Cand (onceL l) t y) (hm : ∀ x ∈ l, Cand (onceL l) t x → y ≤ x) : ∃ h : t < (onceL l).length, (onceL l)[t] = y := by
  obtain ⟨j, hj, htj, e⟩ := cand_in hy hc
  have ht : t < (onceL l).length := by omega
  refine ⟨ht, ?_⟩
  have h1 := (asc_onceL l).at_le htj hj
  have h2 := hm (onceL l)[t] ((mem_onceL _ l).1 (List.getElem_mem ht)) fun j hj hjt => (asc_onceL l).at_lt hjt ht
  omega
/-- the best of the first i -/
def Best (l : List Int) (t i : Nat) (b : Int) : Prop :=
  (b = -1 ∧ ∀ j (h : j < l.length), j < i → ¬ Cand (onceL l) t l[j]) ∨
  (∃ m : Nat, ∃ h : m < l.length, m < i ∧ b = m ∧ Cand (onceL l) t l[m] ∧ ∀ j (h' : j < l.length), j < i → Cand (onceL l) t l[j] → l[m] ≤ l[j])
theorem Best.zero (l : List Int) (t : Nat) : Best l t 0 (-1) := .inl ⟨rfl, fun j _ h => absurd h (Nat.not_lt_zero _)⟩
theorem Best.skip {l : List Int} {t i : Nat} {b : Int} (h : Best l t i b) (hi : i < l.length) (hc : ¬ Cand (onceL l) t l[i]) : Best l t (i + 1) b := by
  rcases h with ⟨e, h⟩ | ⟨m, hm, hmi, e, h1, h2⟩
  · refine .inl ⟨e, fun j hj hji => ?_⟩
    by_cases h3 : j < i
    · exact h j hj h3
    · obtain rfl : j = i := by omega
      exact hc
  · refine .inr ⟨m, hm, by omega, e, h1, fun j hj hji hcj => ?_⟩
    by_cases h3 : j < i
    · exact h2 j hj h3 hcj
    · obtain rfl : j = i := by omega
      exact absurd hcj hc
theorem Best.first {l : List Int} {t i : Nat} {b : Int} (h : Best l t i b) (hb : b < 0) (hi : i < l.length) (hc : Cand (onceL l) t l[i]) : Best l t (i + 1) i := by
  rcases h with ⟨e, h⟩ | ⟨m, hm, hmi, e, h1, h2⟩
  · refine .inr ⟨i, hi, by omega, rfl, hc, fun j hj hji hcj => ?_⟩
    by_cases h3 : j < i
    · exact absurd hcj (h j hj h3)
    · obtain rfl : j = i := by omega
      exact Int.le_refl _
  · omega
theorem Best.less {l : List Int} {t i m : Nat} (h : Best l t i m) (hm : m < l.length) (hi : i < l.length) (hc : Cand (onceL l) t l[i]) (hlt : l[i] < l[m]) : Best l t (i + 1) i := by
  rcases h with ⟨e, h⟩ | ⟨m', hm', hmi, e, h1, h2⟩
  · omega
  · obtain rfl : m = m' := by omega
    refine .inr ⟨i, hi, by omega, rfl, hc, fun j hj hji hcj => ?_⟩
    by_cases h3 : j < i
    · have := h2 j hj h3 hcj; omega
    · obtain rfl : j = i := by omega
      exact Int.le_refl _
theorem Best.keep {l : List Int} {t i m : Nat} (h : Best l t i m) (hm : m < l.length) (hi : i < l.length) (hge : ¬ l[i] < l[m]) : Best l t (i + 1) m := by
  rcases h with ⟨e, h⟩ | ⟨m', hm', hmi, e, h1, h2⟩
  · omega
  · obtain rfl : m = m' := by omega
    refine .inr ⟨m, hm, by omega, rfl, h1, fun j hj hji hcj => ?_⟩
    by_cases h3 : j < i
    · exact h2 j hj h3 hcj
    · obtain rfl : j = i := by omega
      omega
theorem Best.lo {l : List Int} {t i : Nat} {b : Int} (h : Best l t i b) : b = -1 ∨ ∃ m : Nat, b = m ∧ m < l.length := by
  rcases h with ⟨e, _⟩ | ⟨m, hm, _, e, _⟩
  · exact .inl e
  · exact .inr ⟨m, e, hm⟩
theorem Best.none {l : List Int} {t i : Nat} (h : Best l t i (-1)) (hi : l.length ≤ i) (ht : t ≤ (onceL l).length) : t = (onceL l).length := by
  rcases h with ⟨_, h⟩ | ⟨m, hm, _, e, _⟩
  · refine cand_none (fun x hx => ?_) ht
    obtain ⟨j, hj, rfl⟩ := List.mem_iff_getElem.1 hx
    exact h j hj (by omega)
  · omega
theorem Best.some {l : List Int} {t i m : Nat} (h : Best l t i m) (hm : m < l.length) (hi : l.length ≤ i) : ∃ h : t < (onceL l).length, (onceL l)[t] = l[m] := by
  rcases h with ⟨e, h⟩ | ⟨m', hm', hmi, e, h1, h2⟩
  · omega
  · obtain rfl : m = m' := by omega
    refine cand_min (List.getElem_mem hm) h1 fun x hx hc => ?_
    obtain ⟨j, hj, rfl⟩ := List.mem_iff_getElem.1 hx
    exact h2 j hj (by omega) hc
end Zp
namespace Go.Proofs.YtonalbdehcmjmaaGreat
open Go.RowKit Zp
end Go.Proofs.YtonalbdehcmjmaaGreat

/- The walk of the reference's Once. -/
set_option linter.unusedVariables false
namespace Go.Proofs.YtonalbdehcmjmaaGreat
open Go.RowKit Zp
end Go.Proofs.YtonalbdehcmjmaaGreat

/- Walks: places of fewer rows (fold.modulo, ref5.modulo). -/
set_option linter.unusedVariables false
namespace Go.Proofs.YtonalbdehcmjmaaGreat
open Go.RowKit Zp
/-- places of fewer rows -/
def modL (l : List Int) (N : Nat) : List Int := l.map fun x => x % (N : Int)
theorem modL_len (l : List Int) (N : Nat) : (modL l N).length = l.length := by simp [modL]
theorem modL_take (l : List Int) (N : Nat) {k : Nat} (hk : k < l.length) : (modL l N).take (k + 1) = (modL l N).take k ++ [l[k] % (N : Int)] := by
  rw [List.take_succ_eq_append_getElem (by rw [modL_len]; exact hk)]
  simp [modL]
theorem modL_in (l : List Int) {N : Nat} (hN : 1 ≤ N) : ∀ x ∈ modL l N, 0 ≤ x ∧ x < (N : Int) := fun x hx => by
  obtain ⟨y, _, rfl⟩ := List.mem_map.1 hx
  exact ⟨Int.emod_nonneg _ (by omega), Int.emod_lt_of_pos _ (by omega)⟩
def ModRel (l : List Int) (N : Nat) (w : World) (v i : Value) (wr : World) : Prop := ∃ k : Nat, k ≤ l.length ∧ i = vi k ∧ Own wr w.heap.size v ((modL l N).take k) ∧ Below w.heap.size w wr
set_option maxHeartbeats 1000000 in
theorem fmodulo_any (A : Option Addr) (n c : Nat) (l : List Int) (hl : l.length = n) (hx : ∀ x ∈ l, 0 ≤ x) (hr : n * 8 ≤ 140737488351232) (N : Nat) (hN : 1 ≤ N) (hN2 : N ≤ 65536) (w : World) (hs : SL w A l) :
    Calls Tryz.prog 37 #[.slice A n c, vi N] w (Made (modL l N) w) := by
  have hmk := make_ints0 n (by omega)
  have ho0 := own_made0 w w.heap.size n (Nat.le_refl _) (by omega)
  have hb0 : Below w.heap.size w (w.alloc (.cells (zeros n) 3)) := (Below.refl _ _).alloc (Nat.le_refl _) _
  have HL := Lib.hid hl
  have HO0 := Lib.hid ho0
  have HB0 := Lib.hid hb0
  have HR := Lib.hid hr
  have hn0 : ((N : Int) == 0) = false := by simp; omega
  clear hl ho0 hb0
  go_enter Tryz.func37, Tryz.ntmps37
  go_wp2
  go_loopw [5, 7, 13] (fun v _ i wr => ModRel l N w v i wr) (fun _ _ i _ => n - (intOf i).toNat)
  case atStart => exact ⟨0, Nat.zero_le _, rfl, HO0.out, HB0.out⟩
  case round =>
    obtain ⟨k, hk, rfl, hown, hb⟩ := hrel
    rw [HL.out] at hk
    by_cases hlt : k < n
    · have hkx : k < l.length := by rw [HL.out]; exact hlt
      obtain ⟨ad, rfl, hab, hcell⟩ := (hs.below hb).at_ hkx
      have hx0 := hx _ (List.getElem_mem hkx)
      have hts := modL_take l N hkx
      have htm : l[k].tmod (N : Int) = l[k] % (N : Int) := Int.tmod_eq_emod_of_nonneg hx0
      obtain ⟨x, hxe⟩ : ∃ x, x = l[k] := ⟨_, rfl⟩
      rw [← hxe] at hcell hts htm hx0
      have HX := Lib.hid hts
      clear hxe hts
      have hll : ((modL l N).take k).length ≤ k := List.length_take_le _ _
      go_wp2_with (at_builtin; refine wpList_app1 _ (x % (N : Int)) rfl _ _ rfl w.heap.size _ _ rfl rfl hown (by omega) hb.size ?_; intro v' w1 hg)
      go_roundw
      case rel => exact ⟨k + 1, by rw [HL.out]; omega, by go_num, by rw [HX.out]; exact hg.own, hg.below hb hown (Nat.le_refl _) hb.size⟩
      case measure => simp [intOf]; omega
    · obtain rfl : k = n := by omega
      go_wp2
      go_ret
      rw [List.take_of_length_le (by rw [modL_len, HL.out]; exact Nat.le_refl _)] at hown
      exact ⟨_, rfl, hown, hb⟩
end Go.Proofs.YtonalbdehcmjmaaGreat

/- Walks: Place again, with where its digest lies; fold.drawn, ref5.places. -/
set_option linter.unusedVariables false
namespace Go.Proofs.YtonalbdehcmjmaaGreat
open Go.RowKit Zp
def PlaceNew {p : Nat} [NeZero p] (k c s : Nat) (D : List Int) (n : Int) (w : World) (e : Ending) (w' : World) : Prop := e = .returned (vi (placeV p (drawnL p k D) n)) ∧ Chn w' c s (drawnL p k D) ∧ w.grownBy w' (some c) ∧ DigNew w' c w.heap.size
set_option maxRecDepth 100000 in
set_option maxHeartbeats 4000000 in
theorem chplace_new (p S b s k z c : Nat) [NeZero p] (oo : Nat → Nat → Fin p) (D : List Int) (n : Int) (hn1 : 1 ≤ n) (hn2 : n ≤ 65536) (w : World) (F : Fld w S b p) (G : Spg w s b k z oo) (hS : S ≤ c) (hsc : s < c) (hC : Chn w c s D) :
    Calls Tryz.prog 63 #[.pointer (some ⟨c, 0, none⟩), vi n] w fun e w' => PlaceNew (p := p) k c s D n w e w' := by
  have hm := F.max
  have hd := Lib.hid (chdraw_any p S b s k z c oo D w F G hS hsc hC)
  have HF := Lib.hid F
  have HG := Lib.hid G
  have hcw := hC.lt
  clear F G hC
  go_enter Tryz.func63, Tryz.ntmps63
  go_wp2_with fail
  refine (hd.out).mono ?_
  rintro _ w3 ⟨rfl, hc3, hg3, hnw3⟩
  obtain ⟨x0, hx0⟩ := digL_bounds (p := p) (k := k) (4 :: D) (show 0 < 4 by omega)
  obtain ⟨x1, hx1⟩ := digL_bounds (p := p) (k := k) (4 :: D) (show 1 < 4 by omega)
  have hbc : Below c w w3 := (Below.refl c w).grown hg3 (by omega) (fun k hk => by injection hk with hk; omega)
  have hF3 := HF.out.below hbc hS
  have hG3 := HG.out.below hbc hsc
  obtain ⟨g, cg, t, cs, h1, h2, h3, h4, h5, h6, h7, h8⟩ := id hc3
  have hc0 : w3.cell? ⟨c, 0, none⟩ = some (.pointer (some ⟨s, 0, none⟩)) := (Blk.cell h1 0).trans rfl
  have hcd3 : w3.cell? ⟨c, 1, none⟩ = some (.slice (some ⟨g, 0, none⟩) 4 cg) := (Blk.cell h1 1).trans rfl
  have hg1 : w3.cell? ⟨g, 1, none⟩ = some (vi (fv x1)) := by
    obtain ⟨ad, ea, _, hc⟩ := SL.at_ (k := 1) h4 (by rw [h5]; omega)
    injection ea with ea
    subst ea
    rw [Addr.add_mid] at hc
    rw [hc, ← hx1]
    simp only [drawnL, List.getD, List.getElem?_eq_getElem (show 1 < (digL p k (4 :: D)).length by rw [digL_len]; omega), Option.getD_some]
  have e0 : (drawnL p k D).getD 0 0 = fv x0 := hx0
  have e1 : (drawnL p k D).getD 1 0 = fv x1 := hx1
  rw [e0]
  have a1 := fv_nonneg x0
  have a2 := fv_lt x0
  have b1 := fv_nonneg x1
  have b2 := fv_lt x1
  obtain ⟨M, hM⟩ : ∃ M, M = fv x0 * (p : Int) := ⟨_, rfl⟩
  have m1 : 0 ≤ M := by rw [hM]; exact Int.mul_nonneg a1 (by omega)
  have m2 : M ≤ 4611686018427387904 := by
    rw [hM]
    have := Int.mul_le_mul (show fv x0 ≤ 2147483647 by omega) (show (p : Int) ≤ 2147483647 by omega) (by omega) (by omega)
    omega
  have HR := Lib.hid (show PlaceNew (p := p) k c s D n w (.returned (vi ((M + fv x1) % n))) w3 from ⟨by unfold placeV; rw [e0, e1, hM], hc3, hg3, hnw3⟩)
  have HFD := Lib.hid (fun a => sfield_s s b k z oo (w3.drewN a) (hG3.below (below_drewN (Below.refl _ _) a) (block_lt_of_cell hG3.c0)))
  have HPP := Lib.hid (fun a => p_any p b (w3.drewN a) (by exact hF3.c0))
  have w1 : IntKind.i64.wrap (fv x0 * (p : Int)) = M := by rw [← hM]; exact IntWalk.i64_in _ (by omega)
  have w2 : IntKind.i64.wrap (M + fv x1) = M + fv x1 := IntWalk.i64_in _ (by omega)
  have nz : ¬ n = 0 := by omega
  have tm : (M + fv x1).tmod n = (M + fv x1) % n := Int.tmod_eq_emod_of_nonneg (by omega)
  clear hM hx0 hx1 e0 e1 hnw3 hc3 hg3 hbc hF3 hG3 h1 h2 h3 h4 h5 h6 h7 h8
  go_wp2
  go_quiet ((first | (go_at_call 68; exact quiet_eq (HFD.out _)) | (go_at_call 18; exact quiet_eq (HPP.out _))))
  go_wp2
  go_ret
  obtain ⟨r1, r2, r3, r4⟩ := HR.out
  exact ⟨r1, r2, ⟨r3.os, r3.tape, r3.output, r3.size, r3.block⟩, r4⟩
/-- a chain after some draws -/
def iterP (p k : Nat) [NeZero p] (D : List Int) : Nat → List Int
  | 0 => D
  | n + 1 => drawnL p k (iterP p k D n)
theorem grownTwo {a b d : World} {c g : Nat} (h : a.grownBy b (some c)) (h' : b.grownBy d (some g)) (hg : a.heap.size ≤ g) : a.grownBy d (some c) :=
  ⟨h'.os.trans h.os, h'.tape.trans h.tape, h'.output.trans h.output, Nat.le_trans h.size h'.size, fun k hk hne => (h'.block k (Nat.lt_of_lt_of_le hk h.size) (by intro e; injection e with e; omega)).trans (h.block k hk hne)⟩
/-- the places that a chain gives -/
def placesL (p k : Nat) [NeZero p] (D : List Int) (N : Int) (n : Nat) : List Int := (List.range n).map fun i => placeV p (iterP p k D (i + 1)) N
theorem placesL_succ (p k : Nat) [NeZero p] (D : List Int) (N : Int) (n : Nat) : placesL p k D N (n + 1) = placesL p k D N n ++ [placeV p (iterP p k D (n + 1)) N] := by simp [placesL, List.range_succ]
theorem placesL_len (p k : Nat) [NeZero p] (D : List Int) (N : Int) (n : Nat) : (placesL p k D N n).length = n := by simp [placesL]
theorem placesL_in (p k : Nat) [NeZero p] (D : List Int) (N : Int) (n : Nat) (hN : 1 ≤ N) : ∀ x ∈ placesL p k D N n, 0 ≤ x ∧ x < N := fun x hx => by
  obtain ⟨i, _, rfl⟩ := List.mem_map.1 hx
  exact ⟨Int.emod_nonneg _ (by omega), Int.emod_lt_of_pos _ (by omega)⟩
def PlacesIs {p : Nat} [NeZero p] (k c s : Nat) (D : List Int) (N : Int) (n : Nat) (w : World) (e : Ending) (w' : World) : Prop :=
  ∃ v, e = .returned v ∧ Own w' w.heap.size v (placesL p k D N n) ∧ Chn w' c s (iterP p k D n) ∧ w.grownBy w' (some c)
def PlacesRel {p : Nat} [NeZero p] (k c s : Nat) (D : List Int) (N : Int) (w : World) (n : Nat) (v t : Value) (wr : World) : Prop :=
  ∃ i : Nat, i ≤ n ∧ v = .slice (some ⟨w.heap.size, 0, none⟩) i n ∧ t = vi i ∧ Own wr w.heap.size v (placesL p k D N i) ∧ Chn wr c s (iterP p k D i) ∧ w.grownBy wr (some c)
set_option maxRecDepth 100000 in
set_option maxHeartbeats 4000000 in
theorem drawn_any (p S b s k z c : Nat) [NeZero p] (oo : Nat → Nat → Fin p) (D : List Int) (N : Int) (hN1 : 1 ≤ N) (hN2 : N ≤ 65536) (n : Nat) (hn1 : 1 ≤ n) (hn2 : n ≤ 65536) (w : World) (F : Fld w S b p) (G : Spg w s b k z oo) (hS : S ≤ c) (hsc : s < c) (hC : Chn w c s D) :
    Calls Tryz.prog 35 #[.pointer (some ⟨c, 0, none⟩), vi N, vi n] w fun e w' => PlacesIs (p := p) k c s D N n w e w' := by
  have HD := Lib.hid (fun D (W : World) (F : Fld W S b p) (G : Spg W s b k z oo) hC => chplace_new p S b s k z c oo D N hN1 hN2 W F G hS hsc hC)
  have HF := Lib.hid F
  have HG := Lib.hid G
  have hcw := hC.lt
  have hmk := make_ints0 n (by omega)
  have hO0 := own_made0 w w.heap.size n (Nat.le_refl _) (by omega)
  have hb0 : Below w.heap.size w (w.alloc (.cells (zeros n) 3)) := (Below.refl _ _).alloc (Nat.le_refl _) _
  have hC0 := hC.below hb0
  have hg0 := grown_of_below hb0 (some c)
  clear F G hC
  go_enter Tryz.func35, Tryz.ntmps35
  go_wp2
  generalize World.alloc _ _ = W0 at hO0 hb0 hC0 hg0
  clear hmk hb0
  go_loopw [7, 11] (fun v t wr => PlacesRel (p := p) k c s D N w n v t wr) (fun _ t _ => n - (intOf t).toNat)
  case atStart => exact ⟨0, by omega, rfl, rfl, hO0, hC0, hg0⟩
  case round =>
    clear hO0 hC0 hg0
    obtain ⟨i, hi, rfl, rfl, ho, hc, hg⟩ := hrel
    by_cases hin : i < n
    · have hbc : Below c w wr := (Below.refl c w).grown hg (by omega) (fun k hk => by injection hk with hk; omega)
      have hd := Lib.hid (HD.out _ wr (HF.out.below hbc hS) (HG.out.below hbc hsc) hc)
      have HO := Lib.hid ho
      have HGR := Lib.hid hg
      have i1 : (0 : Int) ≤ (i : Int) := by omega
      have i2 : (i : Int) < (n : Int) := by omega
      have hwl := (World.ownsRow.lt ho w.heap.size rfl).2
      clear hbc hc ho hg
      go_wp2_with fail
      refine (hd.out).mono ?_
      rintro _ w2 ⟨rfl, hc2, hg2, hn2⟩
      have ho2 := HO.out.grown hg2 (.inr (by intro e; have e3 : w.heap.size = c := by { injection e }; omega))
      have hgw2 := grownBy_trans HGR.out hg2
      obtain ⟨X, hX⟩ : ∃ X, X = placeV p (drawnL p k (iterP p k D i)) N := ⟨_, rfl⟩
      have hsu := placesL_succ p k D N i
      rw [show iterP p k D (i + 1) = drawnL p k (iterP p k D i) from rfl, ← hX] at hsu
      rw [← hX]
      have hlk : i = (placesL p k D N i).length := by simp [placesL]
      have HLK := Lib.hid hlk
      have HSU := Lib.hid hsu
      have HC2 := Lib.hid hc2
      have HG2 := Lib.hid hgw2
      have HN2 := Lib.hid (hn2.ne hwl)
      have HO2 := Lib.hid ho2
      clear hlk hsu hX hc2 hg2 hgw2 hn2 ho2
      go_wp2_with (at_builtin; refine wpList_app1_fits w2 X rfl _ _ rfl w.heap.size w.heap.size i n _ rfl rfl HO2.out HLK.out hin ?_; intro w3 ho3 hg3)
      rw [← HSU.out] at ho3
      have hc3 : Chn w3 c s (iterP p k D (i + 1)) := Chn.keepX (show Chn w2 c s (iterP p k D (i + 1)) from HC2.out) hg3 (by omega) HN2.out
      exact ⟨⟨i + 1, by omega, by go_num, rfl, ho3, hc3, grownTwo HG2.out hg3 (Nat.le_refl _)⟩, by simp [intOf]; omega⟩
    · have ei : i = n := by omega
      subst ei
      go_wp2
      go_ret
      exact ⟨_, rfl, ho, hc, hg⟩
end Go.Proofs.YtonalbdehcmjmaaGreat

/- Walks: follow and tree.Check, of whatever Opening. -/
set_option linter.unusedVariables false
namespace Go.Proofs.YtonalbdehcmjmaaGreat
open Go.RowKit Zp
/-- a list that came in, its length alone -/
structure ArgW (n : Nat) (xs : List Int) : Prop where
  len : xs.length = n
  i64 : ∀ x ∈ xs, I64 x
  max : n ≤ 9223372036854775807
theorem ArgS.w {w : World} {A : Option Addr} {n c : Nat} {xs : List Int} (h : ArgS w A n c xs) : ArgW n xs := ⟨h.len, h.i64, by have := h.reach; have := h.cap; omega⟩
/-- whatever Opening comes in -/
theorem follow_w (p S b s k z : Nat) [NeZero p] (oo : Nat → Nat → Fin p) (AT : Option Addr) (nT cT : Nat) (top : List Int) (hT : ArgW nT top) (n : Int)
    {A0 : Option Addr} {n0 c0 : Nat} {l : List Int} {AR : Option Addr} {nR cR : Nat} {rs : List (List Int)} {AN : Option Addr} {nN cN : Nat} {ns : List (List Int)} (w : World) (F : Fld w S b p) (G : Spg w s b k z oo) (sT : SL w AT top) (hx : OpnAt w A0 n0 c0 l AR nR cR rs AN nN cN ns) :
    Calls Tryz.prog 88 #[.pointer (some ⟨s, 0, none⟩), .slice AT nT cT, vi n, .agg #[.slice A0 n0 c0, .slice AR nR cR, .slice AN nN cN]] w (FollowIs p k l rs ns top n w) := by
  have hTl := hT.len
  have hTm := hT.max
  have hb0 := hx.b0
  have hbR := hx.bR
  have hbN := hx.bN
  by_cases h : (1 ≤ n ∧ n ≤ 65536) ∧ nT = 4 ∧ nR = n0
  · obtain ⟨⟨h1, h2⟩, rfl, rfl⟩ := h
    obtain ⟨N, rfl⟩ := Int.eq_ofNat_of_zero_le (a := n) (by omega)
    exact follow_yes p S b s k z oo AT cT top hTl hT.i64 N (by omega) (by omega) A0 nR c0 l hx.l0 (by omega) AR cR rs hx.lR (fun x hx' => by have := hx.rR x hx'; omega) AN nN cN ns hx.lN hx.hN (by omega) w F G sT hx.s0 hx.tR hx.tN
  · have hno : ¬ TakenP p k l rs ns top n := fun g => h ⟨g.1, by rw [← hTl]; exact g.2.1, by rw [← hx.lR, ← hx.l0]; exact g.2.2.1⟩
    refine (follow_no s AT nT cT n A0 n0 c0 AR nR cR (.slice AN nN cN) (by omega) (by omega) (by omega) ?_ w).mono fun e w' h => h.is hno
    by_cases c1 : 1 ≤ n ∧ n ≤ 65536
    · by_cases c2 : nT = 4
      · exact .inr (.inr fun c3 => h ⟨c1, c2, c3⟩)
      · exact .inr (.inl c2)
    · exact .inl c1
set_option maxHeartbeats 1000000 in
theorem tcheck_w (p S b s k z : Nat) [NeZero p] (oo : Nat → Nat → Fin p) (AT : Option Addr) (nT cT : Nat) (top : List Int) (hT : ArgW nT top) (n : Int)
    {A0 : Option Addr} {n0 c0 : Nat} {l : List Int} {AR : Option Addr} {nR cR : Nat} {rs : List (List Int)} {AN : Option Addr} {nN cN : Nat} {ns : List (List Int)} (w : World) (F : Fld w S b p) (G : Spg w s b k z oo) (sT : SL w AT top) (hx : OpnAt w A0 n0 c0 l AR nR cR rs AN nN cN ns) :
    Calls Tryz.prog 72 #[.pointer (some ⟨s, 0, none⟩), .slice AT nT cT, vi n, .agg #[.slice A0 n0 c0, .slice AR nR cR, .slice AN nN cN]] w fun e w' => SaysW (.bool (takenB p k l rs ns top n)) w e w' := by
  have hb0 : Below w.heap.size w (w.alloc (.cells #[.slice A0 n0 c0, .slice AR nR cR, .slice AN nN cN] 79)) := (Below.refl _ _).alloc (Nat.le_refl _) _
  have hB7 := Blk.new w 79 #[.slice A0 n0 c0, .slice AR nR cR, .slice AN nN cN]
  have d0 := (hB7.cell 0).trans (show _ = some (.slice A0 n0 c0) from rfl)
  have d1 := (hB7.cell 1).trans (show _ = some (.slice AR nR cR) from rfl)
  have d2 := (hB7.cell 2).trans (show _ = some (.slice AN nN cN) from rfl)
  have HFO := Lib.hid (follow_w p S b s k z oo AT nT cT top hT n _ (F.below hb0 F.le) (G.below hb0 (block_lt_of_cell G.c0)) (sT.below hb0) (hx.below hb0))
  have HB0 := Lib.hid hb0
  clear hb0 hB7 hT F G sT hx
  go_enter Tryz.func72, Tryz.ntmps72
  go_wp2_with fail
  refine HFO.out.mono ?_
  rintro _ w1 ⟨v, rfl, _, hb1⟩
  have HB1 := Lib.hid (HB0.out.trans (hb1.mono HB0.out.size))
  clear hb1 d0 d1 d2
  go_wp2
  go_ret
  exact ⟨rfl, HB1.out⟩
end Go.Proofs.YtonalbdehcmjmaaGreat

/- Walks of the reference's trees: Some, Left, Leaf, Node. -/
set_option linter.unusedVariables false
namespace Go.Proofs.YtonalbdehcmjmaaGreat
open Go.RowKit Zp
end Go.Proofs.YtonalbdehcmjmaaGreat

/- The walk of the reference's Climb.Up. -/
set_option linter.unusedVariables false
namespace Go.Proofs.YtonalbdehcmjmaaGreat
open Go.RowKit Zp
end Go.Proofs.YtonalbdehcmjmaaGreat

/- The walk of the reference's Climb.Up: a row that is shown; every group. -/
set_option linter.unusedVariables false
namespace Go.Proofs.YtonalbdehcmjmaaGreat
open Go.RowKit Zp
end Go.Proofs.YtonalbdehcmjmaaGreat

/- The walk of the reference's Climb.Up, at every group. -/
set_option linter.unusedVariables false
namespace Go.Proofs.YtonalbdehcmjmaaGreat
open Go.RowKit Zp
end Go.Proofs.YtonalbdehcmjmaaGreat

/- Plain: the document's check of an Opening is the program's. And the walk of the reference's Check. -/
set_option linter.unusedVariables false
namespace Go.Proofs.YtonalbdehcmjmaaGreat
open Go.RowKit Zp
end Go.Proofs.YtonalbdehcmjmaaGreat

/- errors.As at a target of type *api.Errno, by its contracts (after the guide's worked example ToyasAs); plain.Told, same.Error. -/
set_option linter.unusedVariables false
namespace Go.Proofs.YtonalbdehcmjmaaGreat
open Go.RowKit Go.Extern.Stop Go.Stop Go.Extern Zp

end Go.Proofs.YtonalbdehcmjmaaGreat

/- Walks: attestlaw1's lives: the field of 17; New of any number. -/
set_option linter.unusedVariables false
namespace Go.Proofs.YtonalbdehcmjmaaGreat
open Go.RowKit Zp

theorem prime17 : IsPrime 17 := by decide
theorem ord17 : Ord (el 17 3) 16 := ord_of_least (by omega) (by decide) (by
  intro k h1 h2
  have : ∀ k : Fin 16, 0 < k.val → pw (el 17 3) k.val ≠ 1 := by decide
  exact this ⟨k, h2⟩ h1)
theorem gen17 : genN 17 = 3 := genN_eq ⟨by omega, by omega, ord17, fun k h1 h2 h3 => by
  have h4 : ¬ pw (el 17 (k : Int)) 8 = 1 := fun h => by
    have := (h3 8).1 h
    omega
  match k, h1, h2 with
  | 1, _, _ => exact h4 (by decide)
  | 2, _, _ => exact h4 (by decide)⟩
/-- what there is of New: no field, or one of a prime -/
inductive New_ (p : Int) (w : World) (e : Ending) (w' : World) : Prop
  | no (h : ¬ (3 ≤ p ∧ p ≤ 2147483647 ∧ IsPrime p.toNat)) (he : e = NoField) (hw : w = w')
  | yes (n : Nat) (h : p = n) (h3 : 3 ≤ n) (hm : n ≤ 2147483647) (hp : IsPrime n) (hF : ∀ h0 : NeZero n, MadeField n w e w')

theorem new_all (p : Int) (w : World) : Calls Tryz.prog 15 #[vi p] w fun e w' => New_ p w e w' := by
  by_cases h : p < 3 ∨ 2147483647 < p
  · exact (new_no p w h).mono fun e w' ⟨h1, h2⟩ => .no (by omega) h1 h2
  · obtain ⟨n, rfl⟩ := Int.eq_ofNat_of_zero_le (a := p) (by omega)
    by_cases hp : IsPrime n
    · haveI := hp.ne
      exact (new_prime n w (by omega) (by omega) hp).mono fun e w' hm => .yes n rfl (by omega) (by omega) hp (fun h0 => hm)
    · exact (new_composite n w (by omega) (by omega) hp).mono fun e w' ⟨h1, h2⟩ => .no (by rintro ⟨_, _, h⟩; exact hp (by simpa using h)) h1 h2

/-- is there a field of this number? -/
abbrev HasField (p : Int) : Prop := 3 ≤ p ∧ p ≤ 2147483647 ∧ IsPrime p.toNat
theorem new_none (p : Int) (w : World) (h : ¬ HasField p) : Calls Tryz.prog 15 #[vi p] w fun e w' => e = NoField ∧ w = w' :=
  (new_all p w).mono fun e w' h' => by
    cases h' with
    | no _ h1 h2 => exact ⟨h1, h2⟩
    | yes n h1 h3 hm hp _ => exact absurd ⟨by omega, by omega, by rw [h1]; simpa using hp⟩ h
end Go.Proofs.YtonalbdehcmjmaaGreat

/- Walks: plain.Told, same.Error, the reference's Prime, same.Field. -/
set_option linter.unusedVariables false
namespace Go.Proofs.YtonalbdehcmjmaaGreat
open Go.RowKit Zp



theorem Fld.moreS {w : World} {S S' b p : Nat} [NeZero p] (h : Fld w S b p) (h1 : S ≤ S') (h2 : S' ≤ w.heap.size) : Fld w S' b p := by
  obtain ⟨A, c, fs, a1, a2, a3, a4⟩ := h.c1
  exact ⟨h.prime, h.three, h.max, Nat.lt_of_lt_of_le h.lt h1, h2, h.c0, ⟨A, c, fs, a1, a2, a3, a4.more h1⟩, h.c2⟩
end Go.Proofs.YtonalbdehcmjmaaGreat

/- law3.plain: a sponge, or none. -/
set_option linter.unusedVariables false
namespace Go.Proofs.YtonalbdehcmjmaaGreat
open Go.RowKit Zp

set_option maxHeartbeats 2000000 in
theorem spnew_none (p S b : Nat) [NeZero p] (h23 : p < 23) (w : World) (F : Fld w S b p) :
    Calls Tryz.prog 6 #[.pointer (some ⟨b, 0, none⟩)] w fun e w' => e = .returned (.tuple #[.pointer none, .iface 55 (.int .i64 3)]) ∧ w = w' := by
  have hcb := F.c0
  have tq : ((p : Int) < 23) = True := by simp; omega
  go_enter Tryz.func6, Tryz.ntmps6
  go_wp2_with (go_at_call 18; refine (p_any p b _ (by exact hcb)).mono ?_; rintro _ _ ⟨rfl, rfl⟩)
  go_ret2
  exact ⟨rfl, rfl⟩
end Go.Proofs.YtonalbdehcmjmaaGreat

/- same.Sponge: a sponge, as far as there is one, and that the program says so too. -/
set_option linter.unusedVariables false
namespace Go.Proofs.YtonalbdehcmjmaaGreat
open Go.RowKit Zp

end Go.Proofs.YtonalbdehcmjmaaGreat

/- Arguments that are structs of slices: each field opened. -/
set_option linter.unusedVariables false
namespace Go.Proofs.YtonalbdehcmjmaaGreat
open Go.RowKit Go.ChangeShapes Go.WideShapes Go.ChangeAt

end Go.Proofs.YtonalbdehcmjmaaGreat

/- The walk of the law TreeChecks. -/
set_option linter.unusedVariables false
namespace Go.Proofs.YtonalbdehcmjmaaGreat
open Go.RowKit Zp
end Go.Proofs.YtonalbdehcmjmaaGreat

/- The reference's Root and Nodes. -/
set_option linter.unusedVariables false
namespace Go.Proofs.YtonalbdehcmjmaaGreat
open Go.RowKit Zp
theorem TB.take {w : World} {A : Option Addr} {ls : List (List Int)} (h : TB w A ls) (j : Nat) : TB w A (ls.take j) := fun k hk => by
  have hk' : k < ls.length := by rw [List.length_take] at hk; omega
  obtain ⟨ad, A1, n, c, h1, h2, h3, h4, h5⟩ := h k hk'
  have e : (ls.take j)[k] = ls[k] := by simp
  rw [e]
  exact ⟨ad, A1, n, c, h1, h2, h3, h4, h5⟩
theorem TB.drop {w : World} {ad : Addr} {ls : List (List Int)} (h : TB w (some ad) ls) (j : Nat) : TB w (some (ad.add j)) (ls.drop j) := fun k hk => by
  have hk' : j + k < ls.length := by rw [List.length_drop] at hk; omega
  obtain ⟨ad', A1, n, c, h1, h2, h3, h4, h5⟩ := h (j + k) hk'
  injection h1 with h1
  subst h1
  have e : (ls.drop j)[k] = ls[j + k] := by simp
  rw [e]
  exact ⟨ad.add j, A1, n, c, rfl, by rw [add_of_add]; exact h2, by rw [add_of_add]; exact h3, h4, h5⟩
/-- rows of four numbers, each in a block that is none of rows -/
def UsAt (w : World) (us : List Value) (ls : List (List Int)) : Prop :=
  us.length = ls.length ∧ ∀ k (h : k < us.length) (h' : k < ls.length), ∃ (g c : Nat) (t : TypeId) (cs : Array Value), us[k] = .slice (some ⟨g, 0, none⟩) 4 c ∧ Blk w g t cs ∧ t ≠ 22 ∧ (t = 3 ∨ t = 56) ∧ SL w (some ⟨g, 0, none⟩) ls[k] ∧ ls[k].length = 4 ∧ ∀ x ∈ ls[k], I64 x
theorem UsAt.nil (w : World) : UsAt w [] [] := ⟨rfl, fun k h => absurd h (by simp)⟩
theorem UsAt.below {w w' : World} {us : List Value} {ls : List (List Int)} (h : UsAt w us ls) (hb : Below w.heap.size w w') : UsAt w' us ls := ⟨h.1, fun k h1 h2 => by
  obtain ⟨g, c, t, cs, e1, e2, e3, e4, e5, e6⟩ := h.2 k h1 h2
  exact ⟨g, c, t, cs, e1, Blk.below e2 hb e2.lt, e3, e4, e5.below hb, e6⟩⟩
theorem UsAt.app {w : World} {us vs : List Value} {ls ms : List (List Int)} (h : UsAt w us ls) (h' : UsAt w vs ms) : UsAt w (us ++ vs) (ls ++ ms) := by
  refine ⟨by rw [List.length_append, List.length_append, h.1, h'.1], fun k h1 h2 => ?_⟩
  by_cases hk : k < us.length
  · rw [List.getElem_append_left hk, List.getElem_append_left (by rw [← h.1]; exact hk)]
    exact h.2 k hk (by rw [← h.1]; exact hk)
  · rw [List.length_append] at h1
    rw [List.getElem_append_right (by omega), List.getElem_append_right (by rw [← h.1]; omega)]
    have e : k - ls.length = k - us.length := by rw [h.1]
    simp only [e]
    exact h'.2 (k - us.length) (by omega) (by rw [← h'.1]; omega)
theorem UsAt.one {w : World} {g c : Nat} {t : TypeId} {cs : Array Value} {l : List Int} (h1 : Blk w g t cs) (h2 : t ≠ 22) (h3 : t = 3 ∨ t = 56) (h4 : SL w (some ⟨g, 0, none⟩) l) (h5 : l.length = 4) (h6 : ∀ x ∈ l, I64 x) : UsAt w [.slice (some ⟨g, 0, none⟩) 4 c] [l] :=
  ⟨rfl, fun k hk hk' => by
    have e : k = 0 := by simp at hk; omega
    subst e
    exact ⟨g, c, t, cs, rfl, h1, h2, h3, h4, h5, h6⟩⟩
/-- kept while a block of rows, or the struct, is turned -/
theorem UsAt.far {w w' : World} {us : List Value} {ls : List (List Int)} {x : Nat} {tx : TypeId} {cx : Array Value} (h : UsAt w us ls) (hx : Blk w x tx cx) (ht : tx = 22 ∨ tx = 79) (hg : w.grownBy w' (some x)) : UsAt w' us ls := ⟨h.1, fun k h1 h2 => by
  obtain ⟨g, c, t, cs, e1, e2, e3, e4, e5, e6⟩ := h.2 k h1 h2
  have hgx : g ≠ x := Blk.ne_ e2 hx (by
    rcases ht with rfl | rfl
    · exact e3
    · rcases e4 with rfl | rfl <;> decide)
  exact ⟨g, c, t, cs, e1, Blk.grown e2 hg (by intro e; injection e with e; exact hgx e), e3, e4, e5.far hg hgx, e6⟩⟩
theorem ownR_blk {w : World} {base : Nat} {v : Value} {us : List Value} (h : OwnR w base v us) {g : Nat} (hg : v.ownBlock = some g) : ∃ cs, Blk w g 22 cs := by
  rcases h.2 with ⟨rfl, _⟩ | ⟨g', cap, cur, rfl, _, hh, _⟩
  · cases hg
  · injection hg with hg
    subst hg
    exact ⟨cur, hh⟩
theorem UsAt.grew {w w' : World} {base : Nat} {v v' : Value} {us vs ws : List Value} {ls : List (List Int)} (h : GrewR w w' base v v' us) (ho : OwnR w base v vs) (hr : UsAt w ws ls) : UsAt w' ws ls := by
  rcases hv : v.ownBlock with _ | g
  · have hg := h.grown
    rw [hv] at hg
    exact hr.below ⟨hg.os, hg.tape, hg.output, hg.size, fun i hi => hg.block i hi (by intro e; cases e)⟩
  · obtain ⟨cs, hcs⟩ := ownR_blk ho hv
    exact hr.far hcs (.inl rfl) (by rw [← hv]; exact h.grown)
theorem tb_us {w : World} {base : Nat} {A : Option Addr} {n c : Nat} {us : List Value} {ls : List (List Int)} (h : OwnR w base (.slice A n c) us) (hr : UsAt w us ls) : TB w A ls := fun k hk => by
  have hku : k < us.length := by rw [hr.1]; exact hk
  have hn : us.length = n := by
    rcases h.2 with ⟨e, h0⟩ | ⟨g, cap, cur, e, _⟩
    · injection e with _ e2 _; omega
    · injection e with _ e2 _; exact e2.symm
  subst hn
  have hrd := Reads.of_own h
  obtain ⟨ad, u, e1, e2, e3, e4⟩ := Reads.at_ (k := k) hrd (by omega)
  have e5 : u = us[k] := by
    rw [List.getElem?_eq_getElem hku] at e3
    injection e3 with e3
    exact e3.symm
  obtain ⟨g, c1, t, cs, f1, f2, f3, f4, f5, f6, f7⟩ := hr.2 k hku hk
  exact ⟨ad, some ⟨g, 0, none⟩, 4, c1, e1, by rw [block_of_add]; exact e2, by rw [e4, e5, f1], f6, by omega, f5, f7⟩
end Go.Proofs.YtonalbdehcmjmaaGreat

/- The reference's Nodes. -/
set_option linter.unusedVariables false
namespace Go.Proofs.YtonalbdehcmjmaaGreat
open Go.RowKit Zp
theorem OwnR.moreB {w : World} {base base' : Nat} {v : Value} {us : List Value} (h : OwnR w base v us) (hb : base' ≤ base) : OwnR w base' v us := by
  refine ⟨h.1, ?_⟩
  rcases h.2 with h0 | ⟨g, cap, cur, hv, hg, rest⟩
  · exact .inl h0
  · exact .inr ⟨g, cap, cur, hv, Nat.le_trans hb hg, rest⟩
theorem hidL_le' (l : List Int) : ∀ (m a : Nat), 1 ≤ m → (hidL l a m).length ≤ m := by
  intro m
  induction m using Nat.strongRecOn with
  | ind m ih =>
    intro a hm
    by_cases hs : shownB l a m = true
    · by_cases h : 2 ≤ m
      · have hl := leftN_lt h
        rw [show hidL l a m = hidL l a (leftN m) ++ hidL l (a + leftN m) (m - leftN m) by rw [hidL, if_pos hs, dif_pos h], List.length_append]
        have := ih (leftN m) (by omega) a (by omega)
        have := ih (m - leftN m) (by omega) (a + leftN m) (by omega)
        omega
      · rw [hidL, if_pos hs, dif_neg h]; simp
    · rw [hidL, if_neg hs]; simpa using hm
end Go.Proofs.YtonalbdehcmjmaaGreat

/- An Opening in the making; the reference's Open. -/
set_option linter.unusedVariables false
namespace Go.Proofs.YtonalbdehcmjmaaGreat
open Go.RowKit Zp
/-- the rows that are shown -/
def openR (p : Nat) [NeZero p] (ls : List (List Int)) (l : List Int) : List (List Int) := l.map fun i => fvs (els p (rowF ls i.toNat))
theorem openR_len (p : Nat) [NeZero p] (ls : List (List Int)) (l : List Int) : (openR p ls l).length = l.length := by simp [openR]
theorem openR_take (p : Nat) [NeZero p] (ls : List (List Int)) (l : List Int) {k m : Nat} (hk : k < l.length) (hm : l[k] = (m : Int)) : (openR p ls l).take (k + 1) = (openR p ls l).take k ++ [fvs (els p (rowF ls m))] := by
  rw [List.take_succ_eq_append_getElem (by rw [openR_len]; exact hk)]
  simp [openR, hm]
theorem openR_i64 (p : Nat) [NeZero p] (hp : p ≤ 2147483647) (ls : List (List Int)) (l : List Int) : ∀ t ∈ openR p ls l, ∀ x ∈ t, I64 x := fun t ht => by
  obtain ⟨i, _, rfl⟩ := List.mem_map.1 ht
  exact fun x hx => by obtain ⟨y, _, rfl⟩ := List.mem_map.1 hx; exact i64_fv _ hp
theorem openR_r8 (p : Nat) [NeZero p] (ls : List (List Int)) (l : List Int) (h : ∀ t ∈ ls, t.length * 8 ≤ 140737488351232) : ∀ t ∈ openR p ls l, t.length * 8 ≤ 140737488351232 := fun t ht => by
  obtain ⟨i, _, rfl⟩ := List.mem_map.1 ht
  by_cases hi : i.toNat < ls.length
  · rw [rowF_at hi]
    have := h _ (List.getElem_mem hi)
    simpa [fvs, els] using this
  · simp [rowF, List.getD_eq_getElem?_getD, List.getElem?_eq_none (Nat.le_of_not_lt hi), fvs, els]
/-- an Opening in the making: its rows so far -/
structure BldR (w : World) (B ob : Nat) (ov rv : Value) (us : List Value) (rs : List (List Int)) : Prop where
  blk : Blk w ob 79 #[ov, rv, .slice none 0 0]
  lo : ob < B
  sz : B ≤ w.heap.size
  ro : OwnR w B rv us
  rr : RowsOwn w B us rs
theorem BldR.below {w w' : World} {B ob : Nat} {ov rv : Value} {us : List Value} {rs : List (List Int)} (h : BldR w B ob ov rv us rs) (hb : Below w.heap.size w w') : BldR w' B ob ov rv us rs :=
  ⟨Blk.below h.blk hb h.blk.lt, h.lo, Nat.le_trans h.sz hb.size, OwnR.below h.ro hb, h.rr.below hb⟩
theorem BldR.push {w w' : World} {B ob : Nat} {ov rv u v' : Value} {us : List Value} {rs : List (List Int)} {l : List Int} (h : BldR w B ob ov rv us rs) (hu : Own w B u l) (hg : GrewR w w' B rv v' (us ++ [u])) :
    Blk w' ob 79 #[ov, rv, .slice none 0 0] ∧ BldR (w'.setCell ⟨ob, 1, none⟩ v') B ob ov v' (us ++ [u]) (rs ++ [l]) ∧ ∀ (C : Nat) (w0 : World), C ≤ ob → Below C w0 w → C ≤ w.heap.size → Below C w0 (w'.setCell ⟨ob, 1, none⟩ v') := by
  have hne : some ob ≠ rv.ownBlock := fun e => by
    have := (World.ownsRow.lt h.ro ob e.symm).1
    have := h.lo
    omega
  have hb := Blk.grown h.blk hg.grown hne
  have hr := (hg.rows h.ro h.rr).snoc (hu.grown hg.grown (own_ne hu h.ro))
  have hs : w'.grownBy (w'.setCell ⟨ob, 1, none⟩ v') (some ob) := blk_grown
  refine ⟨hb, ⟨hb.set_ 1 v', h.lo, Nat.le_trans h.sz (Nat.le_trans hg.grown.size hs.size), ownR_past hg.own hs h.lo, rowsOwn_past hr hs h.lo⟩, fun C w0 hC h0 hCs => ?_⟩
  have hCB : C ≤ B := Nat.le_trans hC (Nat.le_of_lt h.lo)
  exact (hg.below h0 h.ro hCB hCs).grown hs (Nat.le_trans hCs hg.grown.size) (fun x hx => by injection hx with hx; omega)
theorem rootD_len (p k : Nat) [NeZero p] (r : Nat → List Int) (a m : Nat) : (rootD (digL p k) r a m).length = 4 := by
  by_cases h : 2 ≤ m
  · rw [rootD_two _ _ _ h]; exact digL_len _ _
  · rw [rootD_one _ _ _ h]; exact digL_len _ _
/-- the blocks of ints, of rows and of arrays of ints are as they were -/
def Safe (w w' : World) : Prop := w.heap.size ≤ w'.heap.size ∧ ∀ t, t = 3 ∨ t = 22 ∨ t = 56 → ∀ x cs, Blk w x t cs → w'.heap[x]? = w.heap[x]?
theorem Safe.refl (w : World) : Safe w w := ⟨Nat.le_refl _, fun _ _ _ _ _ => rfl⟩
theorem Safe.trans {a b c : World} (h : Safe a b) (g : Safe b c) : Safe a c := ⟨Nat.le_trans h.1 g.1, fun t ht x cs hx => by
  have h1 := h.2 t ht x cs hx
  exact (g.2 t ht x cs (h1.trans hx)).trans h1⟩
theorem Safe.of {w w' : World} (h : Below w.heap.size w w') : Safe w w' := ⟨h.size, fun t ht x cs hx => h.block x (Blk.lt hx)⟩
theorem Safe.one {w w' : World} {r : Nat} {t : TypeId} {cs : Array Value} (h : w.grownBy w' (some r)) (hr : Blk w r t cs) (ht : t ≠ 3 ∧ t ≠ 22 ∧ t ≠ 56) : Safe w w' :=
  ⟨h.size, fun u hu x cx hx => h.block x (Blk.lt hx) (fun e => by
    injection e with e
    exact Blk.ne_ hx hr (by rintro rfl; rcases hu with e' | e' | e' <;> first | exact ht.1 e' | exact ht.2.1 e' | exact ht.2.2 e') e)⟩
theorem Own.safe {w w' : World} {base : Nat} {v : Value} {xs : List Int} (h : Own w base v xs) (hs : Safe w w') : Own w' base v xs := h.keep fun g hg => by
  rcases h.2 with ⟨rfl, _⟩ | ⟨g', cap, cur, rfl, _, hh, _⟩
  · cases hg
  · injection hg with hg
    subst hg
    exact hs.2 _ (.inl rfl) g' cur hh
theorem OwnR.safe {w w' : World} {base : Nat} {v : Value} {us : List Value} (h : OwnR w base v us) (hs : Safe w w') : OwnR w' base v us := by
  refine ⟨h.1, ?_⟩
  rcases h.2 with h0 | ⟨g, cap, cur, hv, hg, hh, rest⟩
  · exact .inl h0
  · exact .inr ⟨g, cap, cur, hv, hg, (hs.2 _ (.inr (.inl rfl)) g cur hh).trans hh, rest⟩
theorem RowsOwn.safe {w w' : World} {base : Nat} {us : List Value} {ls : List (List Int)} (h : RowsOwn w base us ls) (hs : Safe w w') : RowsOwn w' base us ls := ⟨h.1, fun k h1 h2 => (h.2 k h1 h2).safe hs⟩
theorem UsAt.safe {w w' : World} {us : List Value} {ls : List (List Int)} (h : UsAt w us ls) (hs : Safe w w') : UsAt w' us ls := ⟨h.1, fun k h1 h2 => by
  obtain ⟨g, c, t, cs, e1, e2, e3, e4, e5, e6⟩ := h.2 k h1 h2
  have hb := hs.2 t (by rcases e4 with e | e <;> simp [e]) g cs e2
  refine ⟨g, c, t, cs, e1, hb.trans e2, e3, e4, ⟨e5.1, fun hn => ?_⟩, e6⟩
  obtain ⟨ad, e, hbl, hc⟩ := e5.2 hn
  injection e with e
  subst e
  exact ⟨_, rfl, Nat.lt_of_lt_of_le hbl hs.1, fun j u hu => (World.cell?_of_block (by rw [block_of_add]; exact hb)).trans (hc j u hu)⟩⟩
/-- an Opening of the caller's; whole wherever ints, rows and arrays stay as they were -/
def OpenedUp (l : List Int) (rs ns : List (List Int)) (w : World) (e : Ending) (w' : World) : Prop :=
  ∃ A0 n0 c0 AR nR cR AN nN cN, e = .returned (.agg #[.slice A0 n0 c0, .slice AR nR cR, .slice AN nN cN]) ∧ OpnAt w' A0 n0 c0 l AR nR cR rs AN nN cN ns ∧ Below w.heap.size w w' ∧
    ∀ W' : World, Safe w' W' → OpnAt W' A0 n0 c0 l AR nR cR rs AN nN cN ns
/-- the Opening is whole, and is stored as the result -/
theorem opened_fin {S : List Int} {rs ns : List (List Int)} {w w5 W6 : World} {q ob base1 baseR baseN : Nat} {A1 AR AN : Option Addr} {n1 c1 nR cR nN cN : Nat} {us vs : List Value} {cs : Array Value} {a b c : Value}
    (h0 : Own w5 base1 (.slice A1 n1 c1) S) (h0b : q < base1) (h0n : ∀ g, (Value.slice A1 n1 c1).ownBlock = some g → g ≠ ob)
    (hR : OwnR w5 baseR (.slice AR nR cR) us) (hRr : RowsOwn w5 baseR us rs) (hRb : ob < baseR)
    (hN : OwnR w5 baseN (.slice AN nN cN) vs) (hNu : UsAt w5 vs ns) (hNb : ob < baseN) (hqo : q < ob)
    (hO : Blk w5 ob 79 cs) (hQ : Blk w5 q 79 #[a, b, c]) (hg : w5.grownBy W6 (some ob)) (hqw : w.heap.size ≤ q) (hb : Below w.heap.size w w5)
    (c1' cR' cN' : Nat) (hcN : nN ≤ cN') (b0 : S.length * 8 ≤ 140737488351232) (bR : rs.length ≤ 65536) (bN : ns.length ≤ 65536) (i0 : ∀ x ∈ S, I64 x) (iR : ∀ t ∈ rs, ∀ x ∈ t, I64 x) (rR : ∀ t ∈ rs, t.length * 8 ≤ 140737488351232) (rN : ∀ t ∈ ns, t.length = 4) :
    OpenedUp S rs ns w (.returned (.agg #[.slice A1 n1 c1', .slice AR nR cR', .slice AN nN cN'])) (((W6.setCell ⟨q, 0, none⟩ (.slice A1 n1 c1')).setCell ⟨q, 1, none⟩ (.slice AR nR cR')).setCell ⟨q, 2, none⟩ (.slice AN nN cN')) := by
  have hQ6 := Blk.grown hQ hg (by intro e; injection e with e; omega)
  obtain ⟨hset, hgr⟩ := blk_set3 hQ6 (.slice A1 n1 c1') (.slice AR nR cR') (.slice AN nN cN')
  have h06 : Own W6 base1 (.slice A1 n1 c1) S := h0.keep fun g hgv => hg.block g (h0.lt g hgv).2 (fun e => by injection e with e; exact h0n g hgv e)
  have o1 := own_past h06 hgr h0b
  have r1 := ownR_past (ownR_past hR hg hRb) hgr (by omega)
  have r2 := rowsOwn_past (rowsOwn_past hRr hg hRb) hgr (by omega)
  have n2 := ownR_past (ownR_past hN hg hNb) hgr (by omega)
  have u2 := (hNu.far hO (.inr rfl) hg).far hQ6 (.inr rfl) hgr
  have hbf := (hb.grown hg hb.size (fun x hx => by injection hx with hx; omega)).grown hgr (Nat.le_trans hb.size hg.size) (fun x hx => by injection hx with hx; omega)
  have key : ∀ W', Own W' base1 (.slice A1 n1 c1) S → OwnR W' baseR (.slice AR nR cR) us → RowsOwn W' baseR us rs → OwnR W' baseN (.slice AN nN cN) vs → UsAt W' vs ns → OpnAt W' A1 n1 c1' S AR nR cR' rs AN nN cN' ns := fun W' o1 r1 r2 n2 u2 => by
    obtain ⟨A1', n1', c1'', ev, hl1, _, _, hsl⟩ := o1.shapeN
    injection ev with ev1 ev2 ev3
    subst ev1 ev2 ev3
    obtain ⟨_, _, _, e1, hnR, _⟩ := ownR_shape r1
    injection e1 with _ e1 _
    obtain ⟨_, _, _, e2, hnN, _⟩ := ownR_shape n2
    injection e2 with _ e2 _
    refine ⟨hl1, by rw [← r2.1, hnR, e1], by rw [← u2.1, hnN, e2], by omega, ?_, ?_, hcN, i0, rR, fun t ht => by rw [rN t ht]; omega, hsl, tb_own r1 r2 iR, tb_us n2 u2⟩
    · have := r2.1; omega
    · have := u2.1; omega
  exact ⟨A1, n1, c1', AR, nR, cR', AN, nN, cN', rfl, key _ o1 r1 r2 n2 u2, hbf, fun W' hs => key W' (o1.safe hs) (r1.safe hs) (r2.safe hs) (n2.safe hs) (u2.safe hs)⟩
end Go.Proofs.YtonalbdehcmjmaaGreat

/- The walk of ref5.Row. -/
set_option linter.unusedVariables false
namespace Go.Proofs.YtonalbdehcmjmaaGreat
open Go.RowKit Zp
/-- a row is handed back -/
def RowIs (x : List Int) (w : World) (e : Ending) (w' : World) : Prop := ∃ A1 n1 c1, e = .returned (.slice A1 n1 c1) ∧ x.length = n1 ∧ n1 < 9223372036854775808 ∧ SL w' A1 x ∧ (∀ y ∈ x, I64 y) ∧ Below w.heap.size w w'
end Go.Proofs.YtonalbdehcmjmaaGreat

/- The walk of ref5.Shows. -/
set_option linter.unusedVariables false
namespace Go.Proofs.YtonalbdehcmjmaaGreat
open Go.RowKit Zp
/-- does an Opening show just these places, in rows of two? -/
noncomputable def showF (p k : Nat) [NeZero p] (l : List Int) (rs ns : List (List Int)) (top : List Int) (n : Int) (want : List Int) : Bool := eqB l want && (rs.all (fun x => decide (x.length = 2)) && takenB p k l rs ns top n)
end Go.Proofs.YtonalbdehcmjmaaGreat

/- Plain: what is looked at when somebody shows that a word is of low degree. -/
set_option linter.unusedVariables false
namespace Go.Proofs.YtonalbdehcmjmaaGreat
open Go.RowKit Zp
section
variable (p k : Nat) [NeZero p]
/-- the digest when i roots were taken, each with a draw behind it -/
def dgR (D : List Int) (roots : List (List Int)) : Nat → List Int
  | 0 => D
  | i + 1 => drawnL p k (digL p k (3 :: (dgR D roots i ++ roots.getD i [])))
/-- what is drawn behind root i -/
def drR (D : List Int) (roots : List (List Int)) (i : Nat) : Int := (dgR p k D roots (i + 1)).getD 0 0
/-- the digest behind all of it -/
def dgL (D : List Int) (roots : List (List Int)) (last : List Int) : List Int := digL p k (3 :: (dgR p k D roots roots.length ++ last))
end
/-- the shift of a domain that was halved i times -/
def sqI {p : Nat} [NeZero p] (s : Fin p) : Nat → Fin p
  | 0 => s
  | i + 1 => sqI s i * sqI s i
/-- how many points a domain of 2^e has that was halved i times -/
def nI (e i : Nat) : Nat := 2 ^ (e - i)
theorem nI_pos (e i : Nat) : 1 ≤ nI e i := Nat.pow_pos (by omega)
theorem nI_step {e i : Nat} (h : i < e) : nI e i = 2 * nI e (i + 1) := by
  unfold nI
  rw [show e - i = (e - (i + 1)) + 1 by omega, Nat.pow_succ]
  omega
theorem nI_le {e : Nat} (he : e ≤ 16) (i : Nat) : nI e i ≤ 65536 := by
  unfold nI
  exact Nat.le_trans (Nat.pow_le_pow_right (by omega) (show e - i ≤ 16 by omega)) (by decide)
/-- how many rounds there are -/
def rndK (j : Nat) : Nat := j - 2
section
variable (p : Nat) [NeZero p] (s : Fin p) (e : Nat) (opens : List OpnI) (dr : Nat → Int) (last : List Int) (R : Nat)
/-- a row of two at a place that an Opening shows -/
def rowO (o : OpnI) (pl : Int) : List Int := o.rs.getD (lowB o.l pl) []
def opnO (opens : List OpnI) (i : Nat) : OpnI := opens.getD i ⟨[], [], []⟩
/-- what a place becomes in round i -/
noncomputable def isO (i : Nat) (place : Int) : Fin p :=
  let h := nI e (i + 1)
  let pl := place % (h : Int)
  let row := rowO (opnO opens i) pl
  foldE (el p (row.getD 0 0)) (el p (row.getD 1 0)) (el p (dr i)) (sqI s i * pw (rootI p ((nI e i : Nat) : Int)) pl.toNat)
/-- what it should be -/
noncomputable def wantO (i : Nat) (place : Int) : Fin p :=
  let h := nI e (i + 1)
  let pl := place % (h : Int)
  if i + 1 = R then ev (els p last) (sqI s R * pw (rootI p ((nI e R : Nat) : Int)) pl.toNat)
  else
    let h2 := nI e (i + 2)
    el p ((rowO (opnO opens (i + 1)) (pl % (h2 : Int))).getD (pl / (h2 : Int)).toNat 0)
/-- does a place go through all rounds? -/
noncomputable def goesO (place : Int) : Bool := (List.range R).all fun i => decide (isO p s e opens dr i place = wantO p s e opens last R i place)
end
/-- is it taken, when the places are drawn? -/
noncomputable def checkO (p k : Nat) [NeZero p] (s : Fin p) (e j : Nat) (f : FldI) (dr : Nat → Int) (places : List Int) : Bool :=
  (List.range (rndK j)).all (fun i => showF p k (opnO f.opens i).l (opnO f.opens i).rs (opnO f.opens i).ns (f.roots.getD i []) ((nI e (i + 1) : Nat) : Int) (onceL (modL places (nI e (i + 1))))) &&
    places.all (fun x => goesO p s e f.opens dr f.last (rndK j) x)
theorem lowB_mem {l : List Int} (h : Asc l) {x : Int} (hx : x ∈ l) : lowB l x < l.length ∧ l[lowB l x]? = some x := by
  obtain ⟨j, hj, rfl⟩ := List.mem_iff_getElem.1 hx
  have e : lowB l l[j] = j := lowB_of _ (by omega) (fun i hi y hy => by
    have hil : i < l.length := by omega
    rw [List.getElem?_eq_getElem hil] at hy
    injection hy with hy
    have := h.at_lt hi hj
    omega) (fun y hy => by
    rw [List.getElem?_eq_getElem hj] at hy
    injection hy with hy
    omega)
  rw [e]
  exact ⟨hj, List.getElem?_eq_getElem hj⟩
/-- an Opening that shows a place, in rows of two -/
structure OkO (o : OpnI) (pl : Int) : Prop where
  asc : Asc o.l
  len : o.rs.length = o.l.length
  max : o.l.length ≤ 65536
  mem : pl ∈ o.l
  two : ∀ r ∈ o.rs, r.length = 2
theorem OkO.at_ {o : OpnI} {pl : Int} (h : OkO o pl) : ∃ hj : lowB o.l pl < o.rs.length, rowO o pl = o.rs[lowB o.l pl] ∧ o.rs[lowB o.l pl].length = 2 := by
  have h1 := lowB_mem h.asc h.mem
  have hj : lowB o.l pl < o.rs.length := by rw [h.len]; exact h1.1
  refine ⟨hj, ?_, h.two _ (List.getElem_mem hj)⟩
  unfold rowO
  rw [List.getD_eq_getElem?_getD, List.getElem?_eq_getElem hj, Option.getD_some]
theorem OkO.find {o : OpnI} {pl : Int} (h : OkO o pl) : ∃ j, ∃ hj : j < o.l.length, ∃ hr : j < o.rs.length, o.l[j] = pl ∧ (∀ t (ht : t < o.l.length), t < j → o.l[t] ≠ pl) ∧ rowO o pl = o.rs[j] ∧ o.rs[j].length = 2 := by
  have h1 := lowB_mem h.asc h.mem
  obtain ⟨hj, h2, h3⟩ := h.at_
  refine ⟨lowB o.l pl, h1.1, hj, ?_, fun t ht hlt => ?_, h2, h3⟩
  · have := h1.2
    rw [List.getElem?_eq_getElem h1.1] at this
    injection this
  · have := lowB_lt pl o.l t hlt ht
    omega
/-- two of a list of two -/
theorem two_of {l : List Int} (h : l.length = 2) : ∃ x y, l = [x, y] := by
  match l, h with
  | [x, y], _ => exact ⟨x, y, rfl⟩
end Go.Proofs.YtonalbdehcmjmaaGreat

/- What same.Foldeds lays: a table of copies of Openings, that stays whole. (The walk itself is left.) -/
set_option linter.unusedVariables false
namespace Go.Proofs.YtonalbdehcmjmaaGreat
open Go.RowKit Zp
theorem row_form {w : World} {base : Nat} {e : TypeId} {sz n : Nat} {v : Value} {xs : List Value} (h : w.ownsRow base e sz v n xs) : ∃ A c, v = .slice A n c := by
  rcases h.2 with ⟨e1, rfl⟩ | ⟨g, cap, cur, e1, _⟩
  · exact ⟨_, _, e1⟩
  · exact ⟨_, _, e1⟩
/-- t Openings were copied, behind base -/
structure CopT (base : Nat) (wr : World) (v : Value) (t : Nat) (xs : List Value) (opens : List OpnI) : Prop where
  own : wr.ownsRow base 79 3 v t xs
  at_ : ∀ k, k < t → ∃ (A0 : Option Addr) (n0 c0 : Nat) (AR : Option Addr) (nR cR : Nat) (AN : Option Addr) (nN cN lo hi : Nat), xs[k * 3]? = some (.slice A0 n0 c0) ∧ xs[k * 3 + 1]? = some (.slice AR nR cR) ∧ xs[k * 3 + 2]? = some (.slice AN nN cN) ∧ base ≤ lo ∧ hi ≤ wr.heap.size ∧ (∀ g, v.ownBlock = some g → g < lo ∨ hi ≤ g) ∧
    ∀ w'', hi ≤ w''.heap.size → (∀ x, lo ≤ x → x < hi → w''.heap[x]? = wr.heap[x]?) → OpnAt w'' A0 n0 c0 (opnO opens k).l AR nR cR (opnO opens k).rs AN nN cN (opnO opens k).ns
theorem CopT.zero (base : Nat) (w : World) (opens : List OpnI) : CopT base w (.slice none 0 0) 0 [] opens := ⟨World.ownsRow_nil _ _ _ _, fun k hk => absurd hk (Nat.not_lt_zero _)⟩
/-- what lies behind base but for the table's own row was not turned -/
theorem CopT.keep {base t : Nat} {wr w2 : World} {v : Value} {xs : List Value} {opens : List OpnI} (h : CopT base wr v t xs opens) (hs : wr.heap.size ≤ w2.heap.size) (hk : ∀ x, base ≤ x → x < wr.heap.size → w2.heap[x]? = wr.heap[x]?) : CopT base w2 v t xs opens := by
  refine ⟨ownsRow_keep h.own (fun g hg => hk g (World.ownsRow.lt h.own g hg).1 (World.ownsRow.lt h.own g hg).2), fun k hkt => ?_⟩
  obtain ⟨A0, n0, c0, AR, nR, cR, AN, nN, cN, lo, hi, e1, e2, e3, h1, h2, h3, h4⟩ := h.at_ k hkt
  refine ⟨A0, n0, c0, AR, nR, cR, AN, nN, cN, lo, hi, e1, e2, e3, h1, Nat.le_trans h2 hs, h3, fun w'' hw hx => h4 w'' hw (fun x hl hh => ?_)⟩
  rw [hx x hl hh, hk x (Nat.le_trans h1 hl) (Nat.lt_of_lt_of_le hh h2)]
/-- a copy more: made between wr and w2, appended between w2 and w3 -/
theorem CopT.step {base t : Nat} {wr w2 w3 : World} {v v' : Value} {xs : List Value} {opens : List OpnI} {A0 : Option Addr} {n0 c0 : Nat} {AR : Option Addr} {nR cR : Nat} {AN : Option Addr} {nN cN : Nat} (h : CopT base wr v t xs opens) (hb : base ≤ wr.heap.size) (hb2 : Below wr.heap.size wr w2)
    (ho : ∀ w'', KeepUp wr.heap.size w2 w'' → OpnAt w'' A0 n0 c0 (opnO opens t).l AR nR cR (opnO opens t).rs AN nN cN (opnO opens t).ns)
    (h1 : w3.ownsRow base 79 3 v' (t + 1) (xs ++ [.slice A0 n0 c0, .slice AR nR cR, .slice AN nN cN])) (h2 : w2.grownBy w3 v.ownBlock) (h3 : v'.ownBlock = v.ownBlock ∨ ∃ k, v'.ownBlock = some k ∧ w2.heap.size ≤ k) : CopT base w3 v' (t + 1) (xs ++ [.slice A0 n0 c0, .slice AR nR cR, .slice AN nN cN]) opens := by
  have hl := h.own.1
  have hgs : ∀ g, v.ownBlock = some g → g < wr.heap.size := fun g hg => (World.ownsRow.lt h.own g hg).2
  refine ⟨h1, fun k hkt => ?_⟩
  by_cases e : k < t
  · obtain ⟨B0, m0, d0, BR, mR, dR, BN, mN, dN, lo, hi, e1, e2, e3, q1, q2, q3, q4⟩ := h.at_ k e
    refine ⟨B0, m0, d0, BR, mR, dR, BN, mN, dN, lo, hi, by rw [List.getElem?_append_left (by omega)]; exact e1, by rw [List.getElem?_append_left (by omega)]; exact e2, by rw [List.getElem?_append_left (by omega)]; exact e3, q1, Nat.le_trans q2 (Nat.le_trans hb2.size h2.size), fun g hg => ?_, fun w'' hw hx => q4 w'' hw (fun x hlo hhi => ?_)⟩
    · rcases h3 with h4 | ⟨k', h4, h5⟩
      · exact q3 g (by rw [← h4]; exact hg)
      · rw [h4] at hg
        injection hg with hg
        have := hb2.size
        omega
    · rw [hx x hlo hhi]
      have hxw : x < wr.heap.size := by omega
      rw [h2.block x (Nat.lt_of_lt_of_le hxw hb2.size) (fun e' => by
        rcases q3 x e'.symm with h6 | h6 <;> omega)]
      exact hb2.block x hxw
  · obtain rfl : k = t := by omega
    refine ⟨A0, n0, c0, AR, nR, cR, AN, nN, cN, wr.heap.size, w2.heap.size, ?_, ?_, ?_, hb, h2.size, fun g hg => ?_, fun w'' hw hx => ho w'' ⟨hw, fun x hlo hhi => ?_⟩⟩
    · rw [List.getElem?_append_right (by omega), hl, Nat.sub_self]; rfl
    · rw [List.getElem?_append_right (by omega), hl, show k * 3 + 1 - k * 3 = 1 by omega]; rfl
    · rw [List.getElem?_append_right (by omega), hl, show k * 3 + 2 - k * 3 = 2 by omega]; rfl
    · rcases h3 with h4 | ⟨k', h4, h5⟩
      · exact .inl (hgs g (by rw [← h4]; exact hg))
      · rw [h4] at hg
        injection hg with hg
        exact .inr (by omega)
    · rw [hx x hlo hhi]
      exact h2.block x hhi (fun e' => by have := hgs x e'.symm; omega)
end Go.Proofs.YtonalbdehcmjmaaGreat

/- Walks: the reference's Order, Generator, Root. -/
set_option linter.unusedVariables false
namespace Go.Proofs.YtonalbdehcmjmaaGreat
open Go.RowKit Zp



end Go.Proofs.YtonalbdehcmjmaaGreat

/- Walks of the reference's domains: Fault, New; law2.made. -/
set_option linter.unusedVariables false
namespace Go.Proofs.YtonalbdehcmjmaaGreat
open Go.RowKit Zp

end Go.Proofs.YtonalbdehcmjmaaGreat

/- Walks of the reference's Point, Pair, Fold of a word. -/
set_option linter.unusedVariables false
namespace Go.Proofs.YtonalbdehcmjmaaGreat
open Go.RowKit Zp

end Go.Proofs.YtonalbdehcmjmaaGreat

/- Small facts: a block that was made just now. -/
set_option linter.unusedVariables false
namespace Go.Proofs.YtonalbdehcmjmaaGreat
open Go.RowKit
theorem Blk.of_eq {w w' : World} {t : TypeId} {cs : Array Value} (h : w' = w.alloc (.cells cs t)) : Blk w' w.heap.size t cs := by rw [h]; exact Blk.new _ _ _
theorem below_of_eq {w w' : World} {o : Obj} (h : w' = w.alloc o) : Below w.heap.size w w' := by rw [h]; exact (Below.refl _ _).alloc (Nat.le_refl _) _
end Go.Proofs.YtonalbdehcmjmaaGreat

/- Walks: round.shown$1, round.row. -/
set_option linter.unusedVariables false
namespace Go.Proofs.YtonalbdehcmjmaaGreat
open Go.RowKit Zp
theorem shown1_any (A1 : Option Addr) (n1 c1 : Nat) (x : List Int) (hx : x.length = n1) (hn : n1 ≤ 9223372036854775807) (w : World) :
    Calls Tryz.prog 74 #[.slice A1 n1 c1] w fun e w' => e = .returned (.bool (decide (x.length ≠ 2))) ∧ w = w' := by
  have HX := Lib.hid hx
  by_cases h4 : n1 = 2
  · have HR := Lib.hid (show decide (x.length ≠ 2) = false by rw [hx, h4]; rfl)
    clear hx
    subst h4
    go_enter Tryz.func74, Tryz.ntmps74
    go_wp2
    go_ret
    exact ⟨ret_bool HR.out.symm, rfl⟩
  · have HR := Lib.hid (show decide (x.length ≠ 2) = true by rw [hx]; simpa using h4)
    have t1 : ((n1 : Int) != 2) = true := by rw [bne_iff_ne]; omega
    clear hx h4
    go_enter Tryz.func74, Tryz.ntmps74
    go_wp2
    go_ret
    exact ⟨ret_bool HR.out.symm, rfl⟩
set_option maxRecDepth 100000 in
set_option maxHeartbeats 1000000 in
theorem roundrow_any (D : Nat) (r : Int) (A0 : Option Addr) (n0 c0 : Nat) (l : List Int) (hl : l.length = n0) (hn0 : n0 ≤ 65536) (hup : Asc l) (AR : Option Addr) (nR cR : Nat) (rs : List (List Int)) (hR : rs.length = nR) (v3 : Value) (i : Int) (hjR : lowB l i < rs.length) (w : World) (hs : SL w A0 l) (hT : TB w AR rs) :
    Calls Tryz.prog 76 #[.agg #[.pointer (some ⟨D, 0, none⟩), vi r, .slice A0 n0 c0, .slice AR nR cR, v3], vi i] w (RowIs rs[lowB l i] w) := by
  have hb0 : Below w.heap.size w (w.alloc (.cells #[.pointer (some ⟨D, 0, none⟩), vi r, .slice A0 n0 c0, .slice AR nR cR, v3] 87)) := (Below.refl _ _).alloc (Nat.le_refl _) _
  have hB := Blk.new w 87 #[.pointer (some ⟨D, 0, none⟩), vi r, .slice A0 n0 c0, .slice AR nR cR, v3]
  obtain ⟨W, hW⟩ : ∃ W, W = w.alloc (.cells #[.pointer (some ⟨D, 0, none⟩), vi r, .slice A0 n0 c0, .slice AR nR cR, v3] 87) := ⟨_, rfl⟩
  rw [← hW] at hb0 hB
  have e2 := (hB.cell 2).trans (show _ = some (.slice A0 n0 c0) from rfl)
  have e3 := (hB.cell 3).trans (show _ = some (.slice AR nR cR) from rfl)
  have HW := Lib.hid hW
  have HBS := Lib.hid (bsearch_any A0 n0 c0 l hl (by omega) hup i W (hs.below hb0))
  obtain ⟨j, hj⟩ : ∃ j, j = lowB l i := ⟨_, rfl⟩
  rw [← hj] at HBS
  have hjR' : j < rs.length := by rw [hj]; exact hjR
  have ers : rs[lowB l i] = rs[j] := by simp only [hj]
  rw [ers]
  obtain ⟨bd, A1, n1, c1, rfl, hb1, hc1, hl1, hn1, hs1, hi1⟩ := (hT.below hb0) j hjR'
  have HX := Lib.hid (And.intro hl1 (And.intro hn1 (And.intro hs1 (And.intro hi1 hb0))))
  have j1 : (0 : Int) ≤ (j : Int) := by omega
  have j2 : (j : Int) < (nR : Int) := by omega
  clear hW hB hb0 hl1 hn1 hs1 hi1 hs hT hl hn0 hR hup hj ers
  go_enter Tryz.func76, Tryz.ntmps76
  go_upto_region 1 with (fail)
  rw [← HW.out]
  go_wp2_with fail
  refine HBS.out.mono ?_
  rintro _ _ ⟨⟨b, rfl⟩, rfl⟩
  go_wp2
  go_ret
  exact ⟨A1, n1, c1, rfl, HX.out.1, HX.out.2.1, HX.out.2.2.1, HX.out.2.2.2.1, HX.out.2.2.2.2⟩
end Go.Proofs.YtonalbdehcmjmaaGreat
