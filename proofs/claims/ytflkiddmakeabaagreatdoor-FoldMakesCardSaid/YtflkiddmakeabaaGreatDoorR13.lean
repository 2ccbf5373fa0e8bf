/- A bundle of texts: Ck8, Cn5, Fs, Ou, Fe. -/
import Derived.Test.YtflkiddmakeabaaGreatDoorR12
import Derived.Test.YtflkiddmakeabaaGreatDoorR05
import Derived.Test.YtflkiddmakeabaaGreatDoorR04
import Derived.Test.YtflkiddmakeabaaGreatDoorR08
import Derived.Test.YtflkiddmakeabaaGreatDoorR07
import Derived.Test.YtflkiddmakeabaaGreatDoorR09
/- The walk of fold.Check: roots are taken, Openings looked at, places followed. -/
set_option linter.unusedVariables false
namespace Go.Proofs.YtflkiddmakeabaaGreatDoor
open Go.RowKit Zp
theorem growM_grown {w w1 wr : World} {c g : Nat} (hb : Below w.heap.size w w1) (h : GrowM w1 wr c g) (hg : w.heap.size ≤ g) : w.grownBy wr (some c) :=
  ⟨h.os.trans hb.os, h.tape.trans hb.tape, h.output.trans hb.output, Nat.le_trans hb.size h.size, fun x hx hne => (h.block x (Nat.lt_of_lt_of_le hx hb.size) (fun e => hne (by rw [e])) (by omega)).trans (hb.block x hx)⟩
theorem Chn.dom_ne {w : World} {c sg S Dx b p n : Nat} [NeZero p] {D : List Int} {s : Fin p} (h : Chn w c sg D) (hd : Dom w S Dx b p n s) : Dx ≠ c := by
  rintro rfl
  obtain ⟨g', cg, t', cs', h1, _⟩ := id h
  have e1 := (Blk.cell h1 1).trans (show _ = some (.slice (some ⟨g', 0, none⟩) 4 cg) from rfl)
  rw [hd.c1] at e1
  injection e1 with e1
  cases e1
end Go.Proofs.YtflkiddmakeabaaGreatDoor

/- law5.chains: a chain on both sides. -/
set_option linter.unusedVariables false
namespace Go.Proofs.YtflkiddmakeabaaGreatDoor
open Go.RowKit Zp
/-- two chains, the program's first -/
def Chains5 (p k sg : Nat) [NeZero p] (l : List Int) (w : World) (e : Ending) (w' : World) : Prop :=
  ∃ m, e = .returned (.tuple #[.pointer (some ⟨w.heap.size, 0, none⟩), .pointer (some ⟨m, 0, none⟩)]) ∧ Chn w' w.heap.size sg (digL p k (2 :: l)) ∧ RCh w' m p (digL p k (2 :: l)) ∧ w.heap.size < m ∧ Below w.heap.size w w'
theorem chains5_any (p S b s k z : Nat) [NeZero p] (oo : Nat → Nat → Fin p) (K : Pk p k) (A : Option Addr) (n cap : Nat) (l : List Int) (hn : l.length = n) (hI : ∀ x ∈ l, I64 x) (hr : n * 8 ≤ 140737488351232) (w : World) (F : Fld w S b p) (G : Spg w s b k z oo) (hs : SL w A l) :
    Calls Tryz.prog 6 #[.pointer (some ⟨s, 0, none⟩), vi p, .slice A n cap] w (Chains5 p k s l w) := by
  have H1 := Lib.hid (chnew_any p S b s k z oo A n cap l hn hI hr w F G hs)
  have H2 := Lib.hid (fun W (hb : Below w.heap.size w W) => rbegin_any p k K A n cap l hn hI hr W (hs.below hb))
  clear F G hs K
  go_enter Tryz.func6, Tryz.ntmps6
  go_wp2_with fail
  refine H1.out.mono ?_
  rintro _ w1 ⟨rfl, hc, hb1⟩
  have HC := Lib.hid hc
  have HB := Lib.hid hb1
  clear hc hb1
  go_wp2_with fail
  refine (H2.out _ HB.out).mono ?_
  rintro _ w2 ⟨rfl, hm, hb2⟩
  have HFIN : Hid (Chains5 p k s l w (.returned (.tuple #[.pointer (some ⟨w.heap.size, 0, none⟩), .pointer (some ⟨w1.heap.size, 0, none⟩)])) w2) := Lib.hid ⟨_, rfl, HC.out.below hb2, hm, HC.out.lt, HB.out.trans (hb2.mono HB.out.size)⟩
  clear hm hb2
  go_wp2
  go_ret2
  exact HFIN.out
end Go.Proofs.YtflkiddmakeabaaGreatDoor

/- The walk of same.Folds, of two that are the same. -/
set_option linter.unusedVariables false
namespace Go.Proofs.YtflkiddmakeabaaGreatDoor
open Go.RowKit Zp
theorem eqO_self (l : List Int) (rs ns : List (List Int)) : eqO l l rs rs ns ns = true := by unfold eqO; rw [eqB_true rfl, eqR_true rfl, eqR_true rfl]; rfl
set_option maxRecDepth 100000 in
set_option maxHeartbeats 2000000 in
theorem foldsame_any {AR : Option Addr} {nR cR : Nat} {AL : Option Addr} {nL cL : Nat} {AO : Option Addr} {nO cO : Nat} {f : FldI} {BR : Option Addr} {mR dR : Nat} {BL : Option Addr} {mL dL : Nat} {BO : Option Addr} {mO dO : Nat} {f' : FldI} (hff : f = f') (w : World) (hF : FAt w AR nR cR AL nL cL AO nO cO f) (hG : FAt w BR mR dR BL mL dL BO mO dO f') :
    Calls Tryz.prog 12 #[.agg #[.slice AR nR cR, .slice AL nL cL, .slice AO nO cO], .agg #[.slice BR mR dR, .slice BL mL dL, .slice BO mO dO]] w fun e w' => SaysW (.bool true) w e w' := by
  subst hff
  have hb0 : Below w.heap.size w ((w.alloc (.cells #[.slice AR nR cR, .slice AL nL cL, .slice AO nO cO] 26)).alloc (.cells #[.slice BR mR dR, .slice BL mL dL, .slice BO mO dO] 26)) := ((Below.refl _ _).alloc (Nat.le_refl _) _).alloc (by simp) _
  have hB2 := (Blk.new w 26 #[.slice AR nR cR, .slice AL nL cL, .slice AO nO cO]).alloc (.cells #[.slice BR mR dR, .slice BL mL dL, .slice BO mO dO] 26)
  have hB3 := Blk.new (w.alloc (.cells #[.slice AR nR cR, .slice AL nL cL, .slice AO nO cO] 26)) 26 #[.slice BR mR dR, .slice BL mL dL, .slice BO mO dO]
  rw [show (w.alloc (.cells #[.slice AR nR cR, .slice AL nL cL, .slice AO nO cO] 26)).heap.size = w.heap.size + 1 by simp] at hB3
  obtain ⟨W, hW⟩ : ∃ W, W = ((w.alloc (.cells #[.slice AR nR cR, .slice AL nL cL, .slice AO nO cO] 26)).alloc (.cells #[.slice BR mR dR, .slice BL mL dL, .slice BO mO dO] 26)) := ⟨_, rfl⟩
  rw [← hW] at hb0 hB2 hB3
  have eO : mO = nO := by rw [← hF.lO, ← hG.lO]
  subst eO
  have HW := Lib.hid hW
  have HB0 := Lib.hid hb0
  have HF := Lib.hid hF
  have HG := Lib.hid hG
  have H2 := Lib.hid hB2
  have H3 := Lib.hid hB3
  have hr := rows_any AR BR nR mR cR dR f.roots f.roots hF.lR hG.lR hF.bR hG.bR W (hF.tR.below hb0) (hG.tR.below hb0)
  rw [eqR_true rfl] at hr
  have HR := Lib.hid hr
  have HI := Lib.hid (fun W' (hb : Below w.heap.size w W') => by
    have hi := ints_any AL BL cL dL f.last f.last (by rw [hF.lL]; have := hF.bL; omega) (by rw [hF.lL]; have := hF.bL; omega) W' (hF.sL.below hb) (hG.sL.below hb)
    rw [eqB_true rfl] at hi
    exact hi)
  rw [hF.lL] at HI
  have eL : mL = nL := by rw [← hF.lL, ← hG.lL]
  subst eL
  have a0 := (hB2.cell 0).trans (show _ = some (.slice AR nR cR) from rfl)
  have b0 := (hB3.cell 0).trans (show _ = some (.slice BR mR dR) from rfl)
  have a1 := (hB2.cell 1).trans (show _ = some (.slice AL mL cL) from rfl)
  have b1 := (hB3.cell 1).trans (show _ = some (.slice BL mL dL) from rfl)
  have a2 := (hB2.cell 2).trans (show _ = some (.slice AO mO cO) from rfl)
  have b2 := (hB3.cell 2).trans (show _ = some (.slice BO mO dO) from rfl)
  have tn : ((mO : Int) != (mO : Int)) = false := by simp
  clear hW hb0 hB2 hB3 hF hG hr
  go_enter Tryz.func12, Tryz.ntmps12
  go_upto_region 1 with (fail)
  rw [← HW.out]
  go_wp2_with fail
  refine HR.out.mono ?_
  rintro _ _ ⟨rfl, k1, rfl⟩
  go_wp2_with fail
  refine (HI.out _ (below_drewN HB0.out _)).mono ?_
  rintro _ _ ⟨rfl, k2, rfl⟩
  go_wp2
  go_loopw [7] (fun i wr => ∃ t : Nat, t ≤ mO ∧ i = vi t ∧ Below W.heap.size W wr) (fun i _ => mO - (intOf i).toNat)
  case atStart => exact ⟨0, Nat.zero_le _, rfl, by first | exact below_drewN (below_drewN (Below.refl _ _) _) _ | exact below_drewN (Below.refl _ _) _⟩
  case round =>
    obtain ⟨t, ht, rfl, hb⟩ := hrel
    have hb2 := Blk.below H2.out hb H2.out.lt
    have hb3 := Blk.below H3.out hb H3.out.lt
    have HB := Lib.hid hb
    clear a0 b0 a1 b1 a2 b2
    have a2 := (hb2.cell 2).trans (show _ = some (.slice AO mO cO) from rfl)
    have b2 := (hb3.cell 2).trans (show _ = some (.slice BO mO dO) from rfl)
    have hbw := HB0.out.trans (hb.mono HB0.out.size)
    have HBW := Lib.hid hbw
    by_cases hlt : t < mO
    · have htl : t < f.opens.length := by rw [HF.out.lO]; exact hlt
      obtain ⟨ao, rfl, hE⟩ := HF.out.tO t htl
      obtain ⟨bo, rfl, hE'⟩ := HG.out.tO t htl
      obtain ⟨A0, n0, c0, AA, nA, cA, AN, nN, cN, q0, q1, q2, hop⟩ := (hE.below hbw).cells
      obtain ⟨B0, m0, d0, BB, mB, dB, BN, mN, dN, p0, p1, p2, hop'⟩ := (hE'.below hbw).cells
      have i1 : (0 : Int) ≤ (t : Int) := by omega
      have i2 : (t : Int) < (mO : Int) := by omega
      have hwt : IntKind.i64.wrap ((t : Int) + 1) = (t : Int) + 1 := IntWalk.i64_in _ (by have := HF.out.bO; omega)
      have HOP := Lib.hid (fun W' (h : Below wr.heap.size wr W') => openings_any W' (hop.below h) (hop'.below h))
      rw [eqO_self] at HOP
      have KS : Hid (∀ W', Below wr.heap.size wr W' → W'.cell? ⟨w.heap.size, 2, none⟩ = some (.slice (some ao) mO cO) ∧ W'.cell? ⟨w.heap.size + 1, 2, none⟩ = some (.slice (some bo) mO dO) ∧ W'.cell? (ao.add (t * 3)) = some (.slice A0 n0 c0) ∧ W'.cell? ⟨(ao.add (t * 3)).block, (ao.add (t * 3)).off + 1, none⟩ = some (.slice AA nA cA) ∧ W'.cell? ⟨(ao.add (t * 3)).block, (ao.add (t * 3)).off + 2, none⟩ = some (.slice AN nN cN) ∧
          W'.cell? (bo.add (t * 3)) = some (.slice B0 m0 d0) ∧ W'.cell? ⟨(bo.add (t * 3)).block, (bo.add (t * 3)).off + 1, none⟩ = some (.slice BB mB dB) ∧ W'.cell? ⟨(bo.add (t * 3)).block, (bo.add (t * 3)).off + 2, none⟩ = some (.slice BN mN dN)) := Lib.hid fun W' hb =>
        ⟨(hb.cell (block_lt_of_cell a2)).trans a2, (hb.cell (block_lt_of_cell b2)).trans b2, (hb.cell (block_lt_of_cell q0)).trans q0, (hb.cell (block_lt_of_cell q1)).trans q1, (hb.cell (block_lt_of_cell q2)).trans q2, (hb.cell (block_lt_of_cell p0)).trans p0, (hb.cell (block_lt_of_cell p1)).trans p1, (hb.cell (block_lt_of_cell p2)).trans p2⟩
      have hbr : Below wr.heap.size wr wr.drew := below_drewN (Below.refl _ _) 1
      clear hE hE' hop hop' htl q0 q1 q2 p0 p1 p2 hb hbw
      go_wp2_with fail
      clear a2 b2 hb2 hb3
      refine wp_region_held_drew (S := fun W' => W'.cell? ⟨w.heap.size, 2, none⟩ = some (.slice (some ao) mO cO) ∧ W'.cell? ⟨w.heap.size + 1, 2, none⟩ = some (.slice (some bo) mO dO) ∧ W'.cell? (ao.add (t * 3)) = some (.slice A0 n0 c0) ∧ W'.cell? ⟨(ao.add (t * 3)).block, (ao.add (t * 3)).off + 1, none⟩ = some (.slice AA nA cA) ∧ W'.cell? ⟨(ao.add (t * 3)).block, (ao.add (t * 3)).off + 2, none⟩ = some (.slice AN nN cN) ∧
          W'.cell? (bo.add (t * 3)) = some (.slice B0 m0 d0) ∧ W'.cell? ⟨(bo.add (t * 3)).block, (bo.add (t * 3)).off + 1, none⟩ = some (.slice BB mB dB) ∧ W'.cell? ⟨(bo.add (t * 3)).block, (bo.add (t * 3)).off + 2, none⟩ = some (.slice BN mN dN)) (by kernel_rfl) (KS.out _ hbr) (fun hHeld => ?_)
      refine wpAnyH_take_at (i := 0) rfl rfl (by kernel_rfl) (by kernel_rfl) (by kernel_rfl) (fun _ _ _ h => h) (Or.inl ⟨by rfl, by (intro w hSw; (try dsimp only at hSw); go_simp; try with_reducible rfl)⟩) (by assumption) ?_
      (try simp only [Act.put, List.setIfInBounds_toArray, List.set_cons_zero, List.set_cons_succ])
      refine wpAnyH_take_at (i := 1) rfl rfl (by kernel_rfl) (by kernel_rfl) (by kernel_rfl) (fun _ _ _ h => h) (Or.inl ⟨by rfl, by (intro w hSw; (try dsimp only at hSw); go_simp; try with_reducible rfl)⟩) (by assumption) ?_
      (try simp only [Act.put, List.setIfInBounds_toArray, List.set_cons_zero, List.set_cons_succ])
      refine wpAnyH_take_at (i := 2) rfl rfl (by kernel_rfl) (by kernel_rfl) (by kernel_rfl) (fun _ _ _ h => h) (Or.inl ⟨by rfl, by (intro w hSw; (try dsimp only at hSw); go_simp; try with_reducible rfl)⟩) (by assumption) ?_
      (try simp only [Act.put, List.setIfInBounds_toArray, List.set_cons_zero, List.set_cons_succ])
      refine wpAnyH_take_at (i := 3) rfl rfl (by kernel_rfl) (by kernel_rfl) (by kernel_rfl) (fun _ _ _ h => h) (Or.inl ⟨by rfl, by (intro w hSw; (try dsimp only at hSw); go_simp; try with_reducible rfl)⟩) (by assumption) ?_
      (try simp only [Act.put, List.setIfInBounds_toArray, List.set_cons_zero, List.set_cons_succ])
      refine wpAnyH_take_at (i := 4) rfl rfl (by kernel_rfl) (by kernel_rfl) (by kernel_rfl) (fun _ _ _ h => h) (Or.inl ⟨by rfl, by (intro w hSw; (try dsimp only at hSw); go_simp; try with_reducible rfl)⟩) (by assumption) ?_
      (try simp only [Act.put, List.setIfInBounds_toArray, List.set_cons_zero, List.set_cons_succ])
      refine wpAnyH_take_at (i := 5) rfl rfl (by kernel_rfl) (by kernel_rfl) (by kernel_rfl) (fun _ _ _ h => h) (Or.inl ⟨by rfl, by (intro w hSw; (try dsimp only at hSw); go_simp; try with_reducible rfl)⟩) (by assumption) ?_
      (try simp only [Act.put, List.setIfInBounds_toArray, List.set_cons_zero, List.set_cons_succ])
      refine wpAnyH_take_at (i := 6) rfl rfl (by kernel_rfl) (by kernel_rfl) (by kernel_rfl) (fun _ _ _ h => h) (Or.inl ⟨by rfl, by (intro w hSw; (try dsimp only at hSw); go_simp; try with_reducible rfl)⟩) (by assumption) ?_
      (try simp only [Act.put, List.setIfInBounds_toArray, List.set_cons_zero, List.set_cons_succ])
      refine wpAnyH_take_at (i := 7) rfl rfl (by kernel_rfl) (by kernel_rfl) (by kernel_rfl) (fun _ _ _ h => h) (Or.inl ⟨by rfl, by (intro w hSw; (try dsimp only at hSw); go_simp; try with_reducible rfl)⟩) (by assumption) ?_
      (try simp only [Act.put, List.setIfInBounds_toArray, List.set_cons_zero, List.set_cons_succ])
      refine wpAnyH_take_at (i := 8) rfl rfl (by kernel_rfl) (by kernel_rfl) (by kernel_rfl) (fun _ _ _ h => h) (Or.inl ⟨by rfl, by (intro w hSw; (try dsimp only at hSw); go_simp; try with_reducible rfl)⟩) (by assumption) ?_
      (try simp only [Act.put, List.setIfInBounds_toArray, List.set_cons_zero, List.set_cons_succ])
      refine wpAnyH_take_at (i := 9) rfl rfl (by kernel_rfl) (by kernel_rfl) (by kernel_rfl) (fun _ _ _ h => h) (Or.inl ⟨by rfl, by (intro w hSw; (try dsimp only at hSw); go_simp; try with_reducible rfl)⟩) (by assumption) ?_
      (try simp only [Act.put, List.setIfInBounds_toArray, List.set_cons_zero, List.set_cons_succ])
      refine wpAnyH_ready (rs := [10]) (by kernel_rfl) (by simp) ?_
      refine AllReadyH.cons rfl (fun K hK => ?_) AllReadyH.nil
      go_simp
      refine (HOP.out _ hbr).mono ?_
      rintro _ w5 ⟨rfl, hb5'⟩
      have hb5 : Below wr.heap.size wr w5 := hbr.trans (hb5'.mono hbr.size)
      refine hK.out _ _ (by (first | exact KS.out _ (by assumption) | (simp only [Act.put]; exact KS.out _ (by assumption)))) (fun hHeld => ?_)
      clear hK K
      (try simp only [Act.put, List.setIfInBounds_toArray, List.set_cons_zero, List.set_cons_succ])
      refine wpAnyH_ready (rs := [11]) (by kernel_rfl) (by simp) ?_
      refine AllReadyH.cons rfl (fun K hK => ?_) AllReadyH.nil
      go_simp
      refine hK.out _ _ (KS.out _ hb5) (fun hHeld => ?_)
      clear hK K
      (try simp only [Act.put, List.setIfInBounds_toArray, List.set_cons_zero, List.set_cons_succ])
      refine wpAnyH_done (by kernel_rfl) ?_ _
      have HB5 := Lib.hid (HB.out.trans (hb5.mono HB.out.size))
      clear hHeld KS hbr hb5 hb5'
      go_wp2
      go_roundw
      case rel => exact ⟨t + 1, by omega, by go_num, HB5.out⟩
      case measure => simp [intOf]; omega
    · have et : ¬ (t : Int) < (mO : Int) := by omega
      go_wp2
      go_ret
      exact ⟨rfl, HBW.out⟩
end Go.Proofs.YtflkiddmakeabaaGreatDoor

/- same.Opened again: the copy stays whole whatever is done elsewhere. -/
set_option linter.unusedVariables false
namespace Go.Proofs.YtflkiddmakeabaaGreatDoor
open Go.RowKit Zp
/-- the blocks from B up are as they were -/
def KeepUp (B : Nat) (w' w'' : World) : Prop := w'.heap.size ≤ w''.heap.size ∧ ∀ x, B ≤ x → x < w'.heap.size → w''.heap[x]? = w'.heap[x]?
theorem ownsRow_keep {w w' : World} {base sz n : Nat} {e : TypeId} {v : Value} {xs : List Value} (h : w.ownsRow base e sz v n xs) (hk : ∀ g, v.ownBlock = some g → w'.heap[g]? = w.heap[g]?) : w'.ownsRow base e sz v n xs := by
  refine ⟨h.1, ?_⟩
  rcases h.2 with h0 | ⟨g, cap, cur, hv, hg, hh, rest⟩
  · exact .inl h0
  · exact .inr ⟨g, cap, cur, hv, hg, by rw [hk g (by rw [hv]; rfl)]; exact hh, rest⟩
theorem sl_of {w : World} {base n c : Nat} {A : Option Addr} {xs : List Int} (h : Own w base (.slice A n c) xs) : SL w A xs := by
  obtain ⟨A', n', c', e, _, _, _, hs⟩ := Own.shapeN h
  injection e with e1 e2 e3
  subst e1 e2 e3
  exact hs
end Go.Proofs.YtflkiddmakeabaaGreatDoor

/- What same.Foldeds lays: a table of copies of Openings, that stays whole. (The walk itself is left.) -/
set_option linter.unusedVariables false
namespace Go.Proofs.YtflkiddmakeabaaGreatDoor
open Go.RowKit Zp
theorem row_form {w : World} {base : Nat} {e : TypeId} {sz n : Nat} {v : Value} {xs : List Value} (h : w.ownsRow base e sz v n xs) : ∃ A c, v = .slice A n c := by
  rcases h.2 with ⟨e1, rfl⟩ | ⟨g, cap, cur, e1, _⟩
  · exact ⟨_, _, e1⟩
  · exact ⟨_, _, e1⟩
/-- t Openings were copied, behind base -/
structure CopT (base : Nat) (wr : World) (v : Value) (t : Nat) (xs : List Value) (opens : List OpnI) : Prop where
  own : wr.ownsRow base 70 3 v t xs
  at_ : ∀ k, k < t → ∃ (A0 : Option Addr) (n0 c0 : Nat) (AR : Option Addr) (nR cR : Nat) (AN : Option Addr) (nN cN lo hi : Nat), xs[k * 3]? = some (.slice A0 n0 c0) ∧ xs[k * 3 + 1]? = some (.slice AR nR cR) ∧ xs[k * 3 + 2]? = some (.slice AN nN cN) ∧ base ≤ lo ∧ hi ≤ wr.heap.size ∧ (∀ g, v.ownBlock = some g → g < lo ∨ hi ≤ g) ∧
    ∀ w'', hi ≤ w''.heap.size → (∀ x, lo ≤ x → x < hi → w''.heap[x]? = wr.heap[x]?) → OpnAt w'' A0 n0 c0 (opnO opens k).l AR nR cR (opnO opens k).rs AN nN cN (opnO opens k).ns
theorem CopT.zero (base : Nat) (w : World) (opens : List OpnI) : CopT base w (.slice none 0 0) 0 [] opens := ⟨World.ownsRow_nil _ _ _ _, fun k hk => absurd hk (Nat.not_lt_zero _)⟩
/-- what lies behind base but for the table's own row was not turned -/
theorem CopT.keep {base t : Nat} {wr w2 : World} {v : Value} {xs : List Value} {opens : List OpnI} (h : CopT base wr v t xs opens) (hs : wr.heap.size ≤ w2.heap.size) (hk : ∀ x, base ≤ x → x < wr.heap.size → w2.heap[x]? = wr.heap[x]?) : CopT base w2 v t xs opens := by
  refine ⟨ownsRow_keep h.own (fun g hg => hk g (World.ownsRow.lt h.own g hg).1 (World.ownsRow.lt h.own g hg).2), fun k hkt => ?_⟩
  obtain ⟨A0, n0, c0, AR, nR, cR, AN, nN, cN, lo, hi, e1, e2, e3, h1, h2, h3, h4⟩ := h.at_ k hkt
  refine ⟨A0, n0, c0, AR, nR, cR, AN, nN, cN, lo, hi, e1, e2, e3, h1, Nat.le_trans h2 hs, h3, fun w'' hw hx => h4 w'' hw (fun x hl hh => ?_)⟩
  rw [hx x hl hh, hk x (Nat.le_trans h1 hl) (Nat.lt_of_lt_of_le hh h2)]
/-- a copy more: made between wr and w2, appended between w2 and w3 -/
theorem CopT.step {base t : Nat} {wr w2 w3 : World} {v v' : Value} {xs : List Value} {opens : List OpnI} {A0 : Option Addr} {n0 c0 : Nat} {AR : Option Addr} {nR cR : Nat} {AN : Option Addr} {nN cN : Nat} (h : CopT base wr v t xs opens) (hb : base ≤ wr.heap.size) (hb2 : Below wr.heap.size wr w2)
    (ho : ∀ w'', KeepUp wr.heap.size w2 w'' → OpnAt w'' A0 n0 c0 (opnO opens t).l AR nR cR (opnO opens t).rs AN nN cN (opnO opens t).ns)
    (h1 : w3.ownsRow base 70 3 v' (t + 1) (xs ++ [.slice A0 n0 c0, .slice AR nR cR, .slice AN nN cN])) (h2 : w2.grownBy w3 v.ownBlock) (h3 : v'.ownBlock = v.ownBlock ∨ ∃ k, v'.ownBlock = some k ∧ w2.heap.size ≤ k) : CopT base w3 v' (t + 1) (xs ++ [.slice A0 n0 c0, .slice AR nR cR, .slice AN nN cN]) opens := by
  have hl := h.own.1
  have hgs : ∀ g, v.ownBlock = some g → g < wr.heap.size := fun g hg => (World.ownsRow.lt h.own g hg).2
  refine ⟨h1, fun k hkt => ?_⟩
  by_cases e : k < t
  · obtain ⟨B0, m0, d0, BR, mR, dR, BN, mN, dN, lo, hi, e1, e2, e3, q1, q2, q3, q4⟩ := h.at_ k e
    refine ⟨B0, m0, d0, BR, mR, dR, BN, mN, dN, lo, hi, by rw [List.getElem?_append_left (by omega)]; exact e1, by rw [List.getElem?_append_left (by omega)]; exact e2, by rw [List.getElem?_append_left (by omega)]; exact e3, q1, Nat.le_trans q2 (Nat.le_trans hb2.size h2.size), fun g hg => ?_, fun w'' hw hx => q4 w'' hw (fun x hlo hhi => ?_)⟩
    · rcases h3 with h4 | ⟨k', h4, h5⟩
      · exact q3 g (by rw [← h4]; exact hg)
      · rw [h4] at hg
        injection hg with hg
        have := hb2.size
        omega
    · rw [hx x hlo hhi]
      have hxw : x < wr.heap.size := by omega
      rw [h2.block x (Nat.lt_of_lt_of_le hxw hb2.size) (fun e' => by
        rcases q3 x e'.symm with h6 | h6 <;> omega)]
      exact hb2.block x hxw
  · obtain rfl : k = t := by omega
    refine ⟨A0, n0, c0, AR, nR, cR, AN, nN, cN, wr.heap.size, w2.heap.size, ?_, ?_, ?_, hb, h2.size, fun g hg => ?_, fun w'' hw hx => ho w'' ⟨hw, fun x hlo hhi => ?_⟩⟩
    · rw [List.getElem?_append_right (by omega), hl, Nat.sub_self]; rfl
    · rw [List.getElem?_append_right (by omega), hl, show k * 3 + 1 - k * 3 = 1 by omega]; rfl
    · rw [List.getElem?_append_right (by omega), hl, show k * 3 + 2 - k * 3 = 2 by omega]; rfl
    · rcases h3 with h4 | ⟨k', h4, h5⟩
      · exact .inl (hgs g (by rw [← h4]; exact hg))
      · rw [h4] at hg
        injection hg with hg
        exact .inr (by omega)
    · rw [hx x hlo hhi]
      exact h2.block x hhi (fun e' => by have := hgs x e'.symm; omega)
end Go.Proofs.YtflkiddmakeabaaGreatDoor
