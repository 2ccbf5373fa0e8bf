/- A bundle of texts: Fr, Co, Ot, Rb, Hr, Hp, Rs, Hh. -/
import Derived.Test.YtflkiddmakeabaaGreatDoorR06
import Derived.Test.YtflkiddmakeabaaGreatDoorR05
import Derived.Deep.DeepCutAuto
import Derived.Test.YtflkiddmakeabaaGreatDoorR01
import Derived.Test.YtflkiddmakeabaaGreatDoorR03
/- The walk of tree.follow. -/
set_option linter.unusedVariables false
namespace Go.Proofs.YtflkiddmakeabaaGreatDoor
open Go.RowKit Zp Go.MapKept Go.ChangeMaps
/-- no -/
def FollowNo (w : World) (e : Ending) (w' : World) : Prop := e = .returned (.tuple #[.pointer none, .bool false]) ∧ Below w.heap.size w w'
/-- what follow hands back -/
def FollowIs (p k : Nat) [NeZero p] (l : List Int) (rs ns : List (List Int)) (top : List Int) (n : Int) (w : World) (e : Ending) (w' : World) : Prop :=
  ∃ v, e = .returned (.tuple #[v, .bool (takenB p k l rs ns top n)]) ∧ (takenB p k l rs ns top n = true → ∃ y bD bL, v = .pointer (some ⟨y, 0, none⟩) ∧ Way w' y bD bL (workE p k l rs ns n.toNat).1.1 (workE p k l rs ns n.toNat).1.2) ∧ Below w.heap.size w w'
theorem FollowNo.is {p k : Nat} [NeZero p] {l : List Int} {rs ns : List (List Int)} {top : List Int} {n : Int} (hn : ¬ TakenP p k l rs ns top n) {w w' : World} {e : Ending} (h : FollowNo w e w') : FollowIs p k l rs ns top n w e w' := by
  have hb := takenB_false hn
  refine ⟨.pointer none, by rw [hb]; exact h.1, fun h2 => ?_, h.2⟩
  rw [hb] at h2
  cases h2
end Go.Proofs.YtflkiddmakeabaaGreatDoor

/- Walks: same.Rows, Openings, Opened; tree.Check. -/
set_option linter.unusedVariables false
namespace Go.Proofs.YtflkiddmakeabaaGreatDoor
open Go.RowKit Zp
/-- are rows the same? -/
def eqR (xs ys : List (List Int)) : Bool := decide (xs = ys)
theorem eqR_true {xs ys : List (List Int)} (h : xs = ys) : eqR xs ys = true := decide_eq_true h
theorem eqR_false {xs ys : List (List Int)} (h : xs ≠ ys) : eqR xs ys = false := decide_eq_false h
theorem drewN_add (w : World) (m n : Nat) : (w.drewN m).drewN n = w.drewN (m + n) := by simp [World.drewN, Nat.add_assoc]
theorem take_ne {α : Type} {xs ys : List α} {k : Nat} (hx : k < xs.length) (hy : k < ys.length) (h : xs[k] ≠ ys[k]) : xs ≠ ys := fun e => by subst e; exact h rfl
theorem take_snoc {α : Type} {xs ys : List α} {k : Nat} (hx : k < xs.length) (hy : k < ys.length) (h : xs[k] = ys[k]) (ht : xs.take k = ys.take k) : xs.take (k + 1) = ys.take (k + 1) := by
  rw [List.take_succ_eq_append_getElem hx, List.take_succ_eq_append_getElem hy, ht, h]
set_option maxHeartbeats 1000000 in
theorem rows_any (A B : Option Addr) (n m c d : Nat) (xs ys : List (List Int)) (hn : xs.length = n) (hm : ys.length = m) (hn2 : n ≤ 5864062014805) (hm2 : m ≤ 5864062014805) (w : World) (hx : TB w A xs) (hy : TB w B ys) :
    Calls Tryz.prog 47 #[.slice A n c, .slice B m d] w fun e w' => e = .returned (.bool (eqR xs ys)) ∧ ∃ k, w' = w.drewN k := by
  have HN := Lib.hid hn
  have HM := Lib.hid hm
  by_cases hnm : n = m
  · have HB2 := Lib.hid hn2
    have HX := Lib.hid hx
    have HY := Lib.hid hy
    subst hnm
    clear hn hm hn2 hm2 hx hy
    go_enter Tryz.func47, Tryz.ntmps47
    go_wp2
    go_loopw [5] (fun i wr => ∃ k q : Nat, k ≤ n ∧ i = vi k ∧ xs.take k = ys.take k ∧ wr = w.drewN q) (fun i _ => n - (intOf i).toNat)
    case atStart => exact ⟨0, 0, Nat.zero_le _, rfl, by simp, rfl⟩
    case round =>
      obtain ⟨k, q, hk, rfl, heq, rfl⟩ := hrel
      have HEQ := Lib.hid heq
      clear heq
      by_cases hlt : k < n
      · have hkx : k < xs.length := by rw [HN.out]; exact hlt
        have hky : k < ys.length := by rw [HM.out]; exact hlt
        obtain ⟨ad, A1, n1, c1, rfl, hb1, hc1, hl1, hn1, hs1, hz1⟩ := HX.out k hkx
        obtain ⟨bd, B1, m1, d1, rfl, hbb1, hcb1, hlb1, hm1, ht1, hz2⟩ := HY.out k hky
        clear hz1 hz2
        have i1 : (0 : Int) ≤ k := by omega
        have i2 : (k : Int) < n := by omega
        have hwr : IntKind.i64.wrap ((k : Int) + 1) = (k : Int) + 1 := IntWalk.i64_in _ (by have := HB2.out; omega)
        have hie := fun N : Nat => ints_any A1 B1 c1 d1 xs[k] ys[k] (by omega) (by omega) (w.drewN (q + N)) hs1 ht1
        rw [hl1, hlb1] at hie
        have HST := Lib.hid (fun h : xs[k] = ys[k] => take_snoc hkx hky h HEQ.out)
        have HNE := Lib.hid (fun h : xs[k] ≠ ys[k] => take_ne hkx hky h)
        generalize xs[k] = x at hl1 hs1 hie HST HNE
        generalize ys[k] = y at hlb1 ht1 hie HST HNE
        have HIE := Lib.hid (fun N => (hie N).mono fun e w' h => (show e = .returned (.bool (eqB x y)) ∧ ∃ m, w' = w.drewN (q + m) from ⟨h.1, by obtain ⟨k, rfl⟩ := h.2; exact ⟨N + k, by rw [drewN_add, Nat.add_assoc]⟩⟩))
        clear hl1 hn1 hs1 hlb1 hm1 ht1 hie hb1 hbb1 hkx hky
        by_cases hxy : x = y
        · have HT := Lib.hid (HST.out hxy)
          rw [eqB_true hxy] at HIE
          clear hxy HST HNE
          go_wp2
          go_quiet ((go_at_call 10; exact HIE.out _))
          go_wp2
          go_roundw
          case rel => exact ⟨k + 1, _, by omega, by go_num, HT.out, rfl⟩
          case measure => simp [intOf]; omega
        · have HT := Lib.hid (eqR_false (HNE.out hxy))
          rw [eqB_false hxy] at HIE
          clear hxy HST HNE
          go_wp2
          go_quiet ((go_at_call 10; exact HIE.out _))
          go_wp2
          go_ret
          exact ⟨ret_bool HT.out.symm, _, rfl⟩
      · obtain rfl : k = n := by omega
        have HT : Hid (eqR xs ys = true) := Lib.hid (eqR_true (by
          have := HEQ.out
          rwa [List.take_of_length_le (by rw [HN.out]; exact Nat.le_refl _), List.take_of_length_le (by rw [HM.out]; exact Nat.le_refl _)] at this))
        go_wp2
        go_ret
        exact ⟨ret_bool HT.out.symm, _, rfl⟩
  · have HT : Hid (eqR xs ys = false) := Lib.hid (eqR_false (fun e => hnm (by rw [← hn, ← hm, e])))
    have t1 : ((n : Int) != (m : Int)) = true := by rw [bne_iff_ne]; omega
    clear hn hm hnm hn2 hm2 hx hy
    go_enter Tryz.func47, Tryz.ntmps47
    go_wp2
    go_ret
    exact ⟨ret_bool HT.out.symm, 0, rfl⟩
/-- an Opening in memory, as a value -/
structure OpnAt (w : World) (A0 : Option Addr) (n0 c0 : Nat) (l : List Int) (AR : Option Addr) (nR cR : Nat) (rs : List (List Int)) (AN : Option Addr) (nN cN : Nat) (ns : List (List Int)) : Prop where
  l0 : l.length = n0
  lR : rs.length = nR
  lN : ns.length = nN
  b0 : n0 * 8 ≤ 140737488351232
  bR : nR ≤ 5864062014805
  bN : nN ≤ 5864062014805
  hN : nN ≤ cN
  i0 : ∀ x ∈ l, I64 x
  rR : ∀ t ∈ rs, t.length * 8 ≤ 140737488351232
  rN : ∀ t ∈ ns, t.length * 8 ≤ 140737488351232
  s0 : SL w A0 l
  tR : TB w AR rs
  tN : TB w AN ns
theorem OpnAt.below {w w' : World} {A0 : Option Addr} {n0 c0 : Nat} {l : List Int} {AR : Option Addr} {nR cR : Nat} {rs : List (List Int)} {AN : Option Addr} {nN cN : Nat} {ns : List (List Int)} (h : OpnAt w A0 n0 c0 l AR nR cR rs AN nN cN ns) (hb : Below w.heap.size w w') : OpnAt w' A0 n0 c0 l AR nR cR rs AN nN cN ns :=
  ⟨h.l0, h.lR, h.lN, h.b0, h.bR, h.bN, h.hN, h.i0, h.rR, h.rN, h.s0.below hb, h.tR.below hb, h.tN.below hb⟩
theorem OpnAt.drewN {w : World} {A0 : Option Addr} {n0 c0 : Nat} {l : List Int} {AR : Option Addr} {nR cR : Nat} {rs : List (List Int)} {AN : Option Addr} {nN cN : Nat} {ns : List (List Int)} (h : OpnAt w A0 n0 c0 l AR nR cR rs AN nN cN ns) (k : Nat) : OpnAt (w.drewN k) A0 n0 c0 l AR nR cR rs AN nN cN ns := h.below (below_drewN (Below.refl _ _) k)
/-- are two Openings the same? -/
def eqO (l l' : List Int) (rs rs' ns ns' : List (List Int)) : Bool := eqB l l' && (eqR rs rs' && eqR ns ns')
theorem below_drew' {w : World} (k : Nat) : Below w.heap.size w (w.drewN k) := below_drewN (Below.refl _ _) k
set_option maxRecDepth 100000 in
set_option maxHeartbeats 1000000 in
theorem openings_any {A0 : Option Addr} {n0 c0 : Nat} {l : List Int} {AR : Option Addr} {nR cR : Nat} {rs : List (List Int)} {AN : Option Addr} {nN cN : Nat} {ns : List (List Int)} {A0' : Option Addr} {n0' c0' : Nat} {l' : List Int} {AR' : Option Addr} {nR' cR' : Nat} {rs' : List (List Int)} {AN' : Option Addr} {nN' cN' : Nat} {ns' : List (List Int)}
    (w : World) (hx : OpnAt w A0 n0 c0 l AR nR cR rs AN nN cN ns) (hy : OpnAt w A0' n0' c0' l' AR' nR' cR' rs' AN' nN' cN' ns') :
    Calls Tryz.prog 48 #[.agg #[.slice A0 n0 c0, .slice AR nR cR, .slice AN nN cN], .agg #[.slice A0' n0' c0', .slice AR' nR' cR', .slice AN' nN' cN']] w fun e w' => e = .returned (.bool (eqO l l' rs rs' ns ns')) ∧ Below w.heap.size w w' := by
  obtain ⟨W, hW⟩ : ∃ W, W = (w.alloc (.cells #[.slice A0 n0 c0, .slice AR nR cR, .slice AN nN cN] 70)).alloc (.cells #[.slice A0' n0' c0', .slice AR' nR' cR', .slice AN' nN' cN'] 70) := ⟨_, rfl⟩
  have hb0 : Below w.heap.size w W := by rw [hW]; exact ((Below.refl _ _).alloc (Nat.le_refl _) _).alloc (by simp) _
  have hB7 := (Blk.new w 70 #[.slice A0 n0 c0, .slice AR nR cR, .slice AN nN cN]).alloc (.cells #[.slice A0' n0' c0', .slice AR' nR' cR', .slice AN' nN' cN'] 70)
  have hB8 := Blk.new (w.alloc (.cells #[.slice A0 n0 c0, .slice AR nR cR, .slice AN nN cN] 70)) 70 #[.slice A0' n0' c0', .slice AR' nR' cR', .slice AN' nN' cN']
  rw [← hW] at hB7 hB8
  rw [show (w.alloc (.cells #[.slice A0 n0 c0, .slice AR nR cR, .slice AN nN cN] 70)).heap.size = w.heap.size + 1 by simp] at hB8
  have HX := Lib.hid (hx.below hb0)
  have HY := Lib.hid (hy.below hb0)
  have HI : Hid (∀ W', Below W.heap.size W W' → Calls Tryz.prog 10 #[.slice A0 n0 c0, .slice A0' n0' c0'] W' fun e w' => e = .returned (.bool (eqB l l')) ∧ ∃ k, w' = W'.drewN k) := Lib.hid fun W' hb => by
    have h := ints_any A0 A0' c0 c0' l l' (by have := HX.out.l0; have := HX.out.b0; omega) (by have := HY.out.l0; have := HY.out.b0; omega) W' (HX.out.s0.below hb) (HY.out.s0.below hb)
    rw [HX.out.l0, HY.out.l0] at h
    exact h
  have HRR : Hid (∀ W', Below W.heap.size W W' → Calls Tryz.prog 47 #[.slice AR nR cR, .slice AR' nR' cR'] W' fun e w' => e = .returned (.bool (eqR rs rs')) ∧ ∃ k, w' = W'.drewN k) := Lib.hid fun W' hb =>
    rows_any AR AR' nR nR' cR cR' rs rs' HX.out.lR HY.out.lR HX.out.bR HY.out.bR W' (HX.out.tR.below hb) (HY.out.tR.below hb)
  have HRN : Hid (∀ W', Below W.heap.size W W' → Calls Tryz.prog 47 #[.slice AN nN cN, .slice AN' nN' cN'] W' fun e w' => e = .returned (.bool (eqR ns ns')) ∧ ∃ k, w' = W'.drewN k) := Lib.hid fun W' hb =>
    rows_any AN AN' nN nN' cN cN' ns ns' HX.out.lN HY.out.lN HX.out.bN HY.out.bN W' (HX.out.tN.below hb) (HY.out.tN.below hb)
  have d0 := (hB7.cell 0).trans (show _ = some (.slice A0 n0 c0) from rfl)
  have d1 := (hB7.cell 1).trans (show _ = some (.slice AR nR cR) from rfl)
  have d2 := (hB7.cell 2).trans (show _ = some (.slice AN nN cN) from rfl)
  have f0 := (hB8.cell 0).trans (show _ = some (.slice A0' n0' c0') from rfl)
  have f1 := (hB8.cell 1).trans (show _ = some (.slice AR' nR' cR') from rfl)
  have f2 := (hB8.cell 2).trans (show _ = some (.slice AN' nN' cN') from rfl)
  obtain ⟨b1, hb1⟩ : ∃ b, b = eqB l l' := ⟨_, rfl⟩
  obtain ⟨b2, hb2⟩ : ∃ b, b = eqR rs rs' := ⟨_, rfl⟩
  obtain ⟨b3, hb3⟩ : ∃ b, b = eqR ns ns' := ⟨_, rfl⟩
  unfold eqO
  rw [← hb1] at HI ⊢
  rw [← hb2] at HRR ⊢
  rw [← hb3] at HRN ⊢
  have HW := Lib.hid hW
  have HB0 := Lib.hid hb0
  clear hb1 hb2 hb3 hx hy hB7 hB8 hb0 hW HX HY
  go_enter Tryz.func48, Tryz.ntmps48
  go_upto_region 1 with (fail)
  rw [← HW.out]
  go_wp2_with fail
  refine (HI.out _ (Below.refl _ _)).mono ?_
  rintro _ _ ⟨rfl, k1, rfl⟩
  go_wp2_with fail
  refine (HRR.out _ (below_drew' k1)).mono ?_
  rintro _ _ ⟨rfl, k2, rfl⟩
  rw [drewN_add]
  go_wp2_with fail
  refine (HRN.out _ (below_drew' _)).mono ?_
  rintro _ _ ⟨rfl, k3, rfl⟩
  rw [drewN_add]
  have hfin := HB0.out.trans (below_drewN (Below.refl w.heap.size W) (k1 + k2 + k3))
  have HFIN := Lib.hid hfin
  clear hfin d0 d1 d2 f0 f1 f2
  cases b1 <;> cases b2 <;> cases b3 <;> (go_wp2; go_ret; exact ⟨rfl, HFIN.out⟩)
theorem MadeRows.tb {ls : List (List Int)} {w : World} {e : Ending} {w' : World} (h : MadeRows ls w e w') (hi : ∀ l ∈ ls, ∀ x ∈ l, I64 x) : ∃ A n c, e = .returned (.slice A n c) ∧ ls.length = n ∧ n ≤ c ∧ TB w' A ls ∧ Below w.heap.size w w' := by
  obtain ⟨v, us, rfl, ho, hr, hb⟩ := h
  obtain ⟨A, n, c, rfl, h1, h2⟩ := ownR_shape ho
  exact ⟨A, n, c, rfl, by rw [← hr.1]; exact h1, h2, tb_own ho hr hi, hb⟩
theorem own_past {w w' : World} {base r : Nat} {v : Value} {xs : List Int} (h : Own w base v xs) (hg : w.grownBy w' (some r)) (hr : r < base) : Own w' base v xs :=
  h.keep fun g hgv => hg.block g (h.lt g hgv).2 (fun e => by injection e with e; have := (h.lt g hgv).1; omega)
theorem ownR_past {w w' : World} {base r : Nat} {v : Value} {us : List Value} (h : OwnR w base v us) (hg : w.grownBy w' (some r)) (hr : r < base) : OwnR w' base v us :=
  World.ownsRow.kept h hg (by
    rcases hv : v.ownBlock with _ | g
    · exact .inl rfl
    · refine .inr fun e => ?_
      injection e with e
      have := (World.ownsRow.lt h g hv).1
      omega)
theorem rowsOwn_past {w w' : World} {base r : Nat} {us : List Value} {ls : List (List Int)} (h : RowsOwn w base us ls) (hg : w.grownBy w' (some r)) (hr : r < base) : RowsOwn w' base us ls := ⟨h.1, fun k h1 h2 => own_past (h.2 k h1 h2) hg hr⟩
/-- three cells of a block are stored into -/
theorem blk_set3 {w : World} {r : Nat} {t : TypeId} {a b c : Value} (h : Blk w r t #[a, b, c]) (x y z : Value) : Blk (((w.setCell ⟨r, 0, none⟩ x).setCell ⟨r, 1, none⟩ y).setCell ⟨r, 2, none⟩ z) r t #[x, y, z] ∧ w.grownBy (((w.setCell ⟨r, 0, none⟩ x).setCell ⟨r, 1, none⟩ y).setCell ⟨r, 2, none⟩ z) (some r) :=
  ⟨((h.set_ 0 x).set_ 1 y).set_ 2 z, grownBy_trans (grownBy_trans blk_grown blk_grown) blk_grown⟩
end Go.Proofs.YtflkiddmakeabaaGreatDoor

/- Openings in memory, in a table; what is folded, in memory. -/
set_option linter.unusedVariables false
namespace Go.Proofs.YtflkiddmakeabaaGreatDoor
open Go.RowKit Zp
/-- an Opening -/
structure OpnI where
  l : List Int
  rs : List (List Int)
  ns : List (List Int)
/-- what shows that a word is of low degree -/
structure FldI where
  roots : List (List Int)
  last : List Int
  opens : List OpnI
/-- an Opening at place k of a table -/
def OTE (w : World) (ad : Addr) (k : Nat) (o : OpnI) : Prop :=
  ∃ A0 n0 c0 AR nR cR AN nN cN, w.cell? (ad.add (k * 3)) = some (.slice A0 n0 c0) ∧ w.cell? (ad.add (k * 3 + 1)) = some (.slice AR nR cR) ∧ w.cell? (ad.add (k * 3 + 2)) = some (.slice AN nN cN) ∧ OpnAt w A0 n0 c0 o.l AR nR cR o.rs AN nN cN o.ns
theorem OTE.below {w w' : World} {ad : Addr} {k : Nat} {o : OpnI} (h : OTE w ad k o) (hb : Below w.heap.size w w') : OTE w' ad k o := by
  obtain ⟨A0, n0, c0, AR, nR, cR, AN, nN, cN, h1, h2, h3, h4⟩ := h
  exact ⟨A0, n0, c0, AR, nR, cR, AN, nN, cN, (hb.cell (block_lt_of_cell h1)).trans h1, (hb.cell (block_lt_of_cell h2)).trans h2, (hb.cell (block_lt_of_cell h3)).trans h3, h4.below hb⟩
/-- as a walk names the cells -/
theorem OTE.cells {w : World} {ad : Addr} {k : Nat} {o : OpnI} (h : OTE w ad k o) : ∃ A0 n0 c0 AR nR cR AN nN cN, w.cell? (ad.add (k * 3)) = some (.slice A0 n0 c0) ∧ w.cell? ⟨(ad.add (k * 3)).block, (ad.add (k * 3)).off + 1, none⟩ = some (.slice AR nR cR) ∧ w.cell? ⟨(ad.add (k * 3)).block, (ad.add (k * 3)).off + 2, none⟩ = some (.slice AN nN cN) ∧ OpnAt w A0 n0 c0 o.l AR nR cR o.rs AN nN cN o.ns := by
  obtain ⟨A0, n0, c0, AR, nR, cR, AN, nN, cN, h1, h2, h3, h4⟩ := h
  have e1 : ad.add (k * 3 + 1) = ⟨(ad.add (k * 3)).block, (ad.add (k * 3)).off + 1, none⟩ := by rw [← add_of_add]; simp [Addr.add]
  have e2 : ad.add (k * 3 + 2) = ⟨(ad.add (k * 3)).block, (ad.add (k * 3)).off + 2, none⟩ := by rw [← add_of_add]; simp [Addr.add]
  exact ⟨A0, n0, c0, AR, nR, cR, AN, nN, cN, h1, by rw [← e1]; exact h2, by rw [← e2]; exact h3, h4⟩
/-- a table of Openings -/
def OT (w : World) (A : Option Addr) (os : List OpnI) : Prop := ∀ k (hk : k < os.length), ∃ ad, A = some ad ∧ OTE w ad k os[k]
theorem OT.below {w w' : World} {A : Option Addr} {os : List OpnI} (h : OT w A os) (hb : Below w.heap.size w w') : OT w' A os := fun k hk => by
  obtain ⟨ad, h1, h2⟩ := h k hk
  exact ⟨ad, h1, h2.below hb⟩
theorem OT.nil (w : World) (A : Option Addr) : OT w A [] := fun k hk => by simp at hk
/-- what is folded, in memory, as a value -/
structure FAt (w : World) (AR : Option Addr) (nR cR : Nat) (AL : Option Addr) (nL cL : Nat) (AO : Option Addr) (nO cO : Nat) (f : FldI) : Prop where
  lR : f.roots.length = nR
  lL : f.last.length = nL
  lO : f.opens.length = nO
  bR : nR ≤ 5864062014805
  bL : nL * 8 ≤ 140737488351232
  bO : nO ≤ 1954687338211
  iL : ∀ x ∈ f.last, I64 x
  rR : ∀ t ∈ f.roots, t.length * 8 ≤ 140737488351232
  tR : TB w AR f.roots
  sL : SL w AL f.last
  tO : OT w AO f.opens
section
variable {w w' : World} {AR : Option Addr} {nR cR : Nat} {AL : Option Addr} {nL cL : Nat} {AO : Option Addr} {nO cO : Nat} {f : FldI}
theorem FAt.below (h : FAt w AR nR cR AL nL cL AO nO cO f) (hb : Below w.heap.size w w') : FAt w' AR nR cR AL nL cL AO nO cO f :=
  ⟨h.lR, h.lL, h.lO, h.bR, h.bL, h.bO, h.iL, h.rR, h.tR.below hb, h.sL.below hb, h.tO.below hb⟩
end
end Go.Proofs.YtflkiddmakeabaaGreatDoor

/- Walks of the reference's Add, Sub, Mul, Pow, Inv, Div. -/
set_option linter.unusedVariables false
namespace Go.Proofs.YtflkiddmakeabaaGreatDoor
open Go.RowKit Zp

set_option maxHeartbeats 400000 in
theorem radd_any (p : Nat) [NeZero p] (hp2 : p ≤ 2147483647) (m n : Int) (hm : I64 m) (hn : I64 n) (w : World) :
    Calls Tryz.prog 141 #[vi p, vi m, vi n] w fun e w' => e = .returned (vi (fv (el p m + el p n))) ∧ w = w' := by
  have h1 := fv_nonneg (el p m)
  have h2 := fv_lt (el p m)
  have h3 := fv_nonneg (el p n)
  have h4 := fv_lt (el p n)
  go_enter Tryz.func141, Tryz.ntmps141
  go_wp2_with (go_at_call 70; refine (rof_any p hp2 _ (by assumption) _).mono ?_; rintro e w' ⟨rfl, rfl⟩)
  go_ret
  exact ⟨ret_int (fv_add _ _).symm, rfl⟩
theorem fv_sub' {p : Nat} [NeZero p] (x y : Fin p) : fv (x - y) = (fv x + (p : Int) - fv y) % (p : Int) := by
  rw [fv_sub, show fv x + (p : Int) - fv y = fv x - fv y + p from by omega, Int.add_emod_right]
set_option maxHeartbeats 400000 in
theorem rsub_any (p : Nat) [NeZero p] (hp2 : p ≤ 2147483647) (m n : Int) (hm : I64 m) (hn : I64 n) (w : World) :
    Calls Tryz.prog 143 #[vi p, vi m, vi n] w fun e w' => e = .returned (vi (fv (el p m - el p n))) ∧ w = w' := by
  have h1 := fv_nonneg (el p m)
  have h2 := fv_lt (el p m)
  have h3 := fv_nonneg (el p n)
  have h4 := fv_lt (el p n)
  go_enter Tryz.func143, Tryz.ntmps143
  go_wp2_with (go_at_call 70; refine (rof_any p hp2 _ (by assumption) _).mono ?_; rintro e w' ⟨rfl, rfl⟩)
  go_ret
  exact ⟨ret_int (fv_sub' _ _).symm, rfl⟩
set_option maxHeartbeats 400000 in
theorem rmul_any (p : Nat) [NeZero p] (hp2 : p ≤ 2147483647) (m n : Int) (hm : I64 m) (hn : I64 n) (w : World) :
    Calls Tryz.prog 109 #[vi p, vi m, vi n] w fun e w' => e = .returned (vi (fv (el p m * el p n))) ∧ w = w' := by
  have h1 := fv_nonneg (el p m)
  have h2 := fv_lt (el p m)
  have h3 := fv_nonneg (el p n)
  have h4 := fv_lt (el p n)
  obtain ⟨h5, h6⟩ := mul_bd (el p m) (el p n) hp2
  go_enter Tryz.func109, Tryz.ntmps109
  go_wp2_with (go_at_call 70; refine (rof_any p hp2 _ (by assumption) _).mono ?_; rintro e w' ⟨rfl, rfl⟩)
  go_ret
  exact ⟨ret_int (fv_mul _ _).symm, rfl⟩

/-- what the loop of Pow knows -/
def RPow {p : Nat} [NeZero p] (T : Fin p) (n : Int) (a x k : Value) : Prop :=
  ∃ (j : Int) (A X : Fin p), j.natAbs ≤ n.natAbs ∧ I64 j ∧ a = vi (fv A) ∧ x = vi (fv X) ∧ k = vi j ∧ X * pw A j.natAbs = T
theorem RPow.step {p : Nat} [NeZero p] {T A X : Fin p} {n j r d : Int} (h0 : j ≠ 0) (h : X * pw A j.natAbs = T) (hj : j.natAbs ≤ n.natAbs) (hr : j.tmod 2 = r) (hd : j.tdiv 2 = d) :
    d.natAbs ≤ n.natAbs ∧ d.natAbs < j.natAbs ∧ (r = 0 → X * pw (A * A) d.natAbs = T) ∧ (r ≠ 0 → X * A * pw (A * A) d.natAbs = T) := by
  have e1 : d.natAbs = j.natAbs / 2 := by rw [← hd]; simp [Int.natAbs_tdiv]; rfl
  have e2 : r.natAbs = j.natAbs % 2 := by rw [← hr]; simp [Int.natAbs_tmod]
  have hs := pow_step A j.natAbs
  rw [← e1] at hs
  refine ⟨by omega, by omega, fun hr0 => ?_, fun hr0 => ?_⟩
  · rw [← h, hs, if_neg (by omega)]; grind
  · rw [← h, hs, if_pos (by omega)]; grind

set_option maxRecDepth 100000 in
set_option maxHeartbeats 1000000 in
theorem rpow_nn (p : Nat) [NeZero p] (hp1 : 2 ≤ p) (hp2 : p ≤ 2147483647) (m n : Int) (hm : I64 m) (hn : I64 n) (h0 : 0 ≤ n) (w : World) :
    Calls Tryz.prog 125 #[vi p, vi m, vi n] w fun e w' => e = .returned (vi (fv (pw (el p m) n.natAbs))) ∧ w = w' := by
  have h1 := fv_nonneg (el p m)
  have h2 := fv_lt (el p m)
  go_enter Tryz.func125, Tryz.ntmps125
  go_wp2_with (go_at_call 70; refine (rof_any p hp2 m hm _).mono ?_; rintro e w' ⟨rfl, rfl⟩)
  go_loop [1, 2, 7] (fun a n' x => RPow (pw (el p m) n.natAbs) n a x n') (fun _ n' _ => (intOf n').natAbs)
  case atStart => exact ⟨n, el p m, 1, Nat.le_refl _, hn, rfl, by rw [fv_one hp1], rfl, by grind⟩
  case round =>
    obtain ⟨j, A, X, hj, ij, rfl, rfl, rfl, hX⟩ := hrel
    obtain ⟨h5, h6⟩ := mul_bd X A hp2
    obtain ⟨h7, h8⟩ := mul_bd A A hp2
    have hX' := Lib.hid hX
    clear hX
    by_cases h0 : j = 0
    · subst h0
      go_wp2
      go_ret
      exact ⟨ret_int (by rw [← hX'.out]; simp only [Int.natAbs_zero, pw_zero]; congr 1; grind), rfl⟩
    · have t0 : (j != 0) = true := by rw [bne_iff_ne]; exact h0
      obtain ⟨r, hr⟩ : ∃ r, j.tmod 2 = r := ⟨_, rfl⟩
      obtain ⟨d, hd⟩ : ∃ d, j.tdiv 2 = d := ⟨_, rfl⟩
      obtain ⟨s1, s2, s3, s4⟩ := RPow.step h0 hX'.out hj hr hd
      have hnn : n.natAbs ≤ 9223372036854775808 := by obtain ⟨_, _⟩ := hn; omega
      obtain ⟨ij1, ij2⟩ := ij
      have id1 : -9223372036854775807 ≤ d := by omega
      have id2 : d ≤ 9223372036854775807 := by omega
      clear hnn
      by_cases hr0 : r = 0
      · have t1 : (r != 0) = false := by simpa using hr0
        have S := Lib.hid (s3 hr0)
        have S1 := Lib.hid s1
        have S2 := Lib.hid s2
        clear s1 s2 s3 s4 hr0 h0
        go_wp2
        go_round
        case rel => exact ⟨d, A * A, X, S1.out, ⟨by omega, id2⟩, by rw [fv_mul], rfl, rfl, S.out⟩
        case measure => exact S2.out
      · have t1 : (r != 0) = true := by rw [bne_iff_ne]; exact hr0
        have S := Lib.hid (s4 hr0)
        have S1 := Lib.hid s1
        have S2 := Lib.hid s2
        clear s1 s2 s3 s4 hr0 h0
        go_wp2
        go_round
        case rel => exact ⟨d, A * A, X * A, S1.out, ⟨by omega, id2⟩, by rw [fv_mul], by rw [fv_mul], rfl, S.out⟩
        case measure => exact S2.out

theorem rinv_any (p : Nat) [NeZero p] (hp1 : 2 ≤ p) (hp2 : p ≤ 2147483647) (m : Int) (hm : I64 m) (w : World) :
    Calls Tryz.prog 108 #[vi p, vi m] w fun e w' => e = .returned (vi (fv (Zp.inv (el p m)))) ∧ w = w' := by
  have h5 : I64 ((p : Int) - 2) := by constructor <;> omega
  have h6 : (0 : Int) ≤ (p : Int) - 2 := by omega
  have h7 : ((p : Int) - 2).natAbs = p - 2 := by omega
  have H := Lib.hid (rpow_nn p hp1 hp2 m _ hm h5 h6 w)
  rw [h7] at H
  clear h7
  go_enter Tryz.func108, Tryz.ntmps108
  go_wp2_with fail
  refine (H.out).mono ?_
  rintro e w' ⟨rfl, rfl⟩
  go_wp2
  go_ret
  exact ⟨rfl, rfl⟩

set_option maxRecDepth 100000 in
set_option maxHeartbeats 1000000 in
theorem rpow_neg (p : Nat) [NeZero p] (hp1 : 2 ≤ p) (hp2 : p ≤ 2147483647) (m n : Int) (hm : I64 m) (hn : I64 n) (hlt : n < 0) (w : World) :
    Calls Tryz.prog 125 #[vi p, vi m, vi n] w fun e w' => e = .returned (vi (fv (pw (Zp.inv (el p m)) n.natAbs))) ∧ w = w' := by
  have h1 := fv_nonneg (el p m)
  have h2 := fv_lt (el p m)
  have hi := fun w => rinv_any p hp1 hp2 (fv (el p m)) (i64_fv _ hp2) w
  simp only [el_fv] at hi
  have HI := Lib.hid hi
  clear hi
  go_enter Tryz.func125, Tryz.ntmps125
  go_wp2_with (first | (go_at_call 70; refine (rof_any p hp2 m hm _).mono ?_; rintro e w' ⟨rfl, rfl⟩) | (go_at_call 108; refine (HI.out _).mono ?_; rintro e w' ⟨rfl, rfl⟩))
  go_loop [1, 2, 7] (fun a n' x => RPow (pw (Zp.inv (el p m)) n.natAbs) n a x n') (fun _ n' _ => (intOf n').natAbs)
  case atStart => exact ⟨n, Zp.inv (el p m), 1, Nat.le_refl _, hn, rfl, by rw [fv_one hp1], rfl, by grind⟩
  case round =>
    obtain ⟨j, A, X, hj, ij, rfl, rfl, rfl, hX⟩ := hrel
    obtain ⟨h5, h6⟩ := mul_bd X A hp2
    obtain ⟨h7, h8⟩ := mul_bd A A hp2
    have hX' := Lib.hid hX
    clear hX
    by_cases h0 : j = 0
    · subst h0
      go_wp2
      go_ret
      exact ⟨ret_int (by rw [← hX'.out]; simp only [Int.natAbs_zero, pw_zero]; congr 1; grind), rfl⟩
    · have t0 : (j != 0) = true := by rw [bne_iff_ne]; exact h0
      obtain ⟨r, hr⟩ : ∃ r, j.tmod 2 = r := ⟨_, rfl⟩
      obtain ⟨d, hd⟩ : ∃ d, j.tdiv 2 = d := ⟨_, rfl⟩
      obtain ⟨s1, s2, s3, s4⟩ := RPow.step h0 hX'.out hj hr hd
      have hnn : n.natAbs ≤ 9223372036854775808 := by obtain ⟨_, _⟩ := hn; omega
      obtain ⟨ij1, ij2⟩ := ij
      have id1 : -9223372036854775807 ≤ d := by omega
      have id2 : d ≤ 9223372036854775807 := by omega
      clear hnn
      by_cases hr0 : r = 0
      · have t1 : (r != 0) = false := by simpa using hr0
        have S := Lib.hid (s3 hr0)
        have S1 := Lib.hid s1
        have S2 := Lib.hid s2
        clear s1 s2 s3 s4 hr0 h0
        go_wp2
        go_round
        case rel => exact ⟨d, A * A, X, S1.out, ⟨by omega, id2⟩, by rw [fv_mul], rfl, rfl, S.out⟩
        case measure => exact S2.out
      · have t1 : (r != 0) = true := by rw [bne_iff_ne]; exact hr0
        have S := Lib.hid (s4 hr0)
        have S1 := Lib.hid s1
        have S2 := Lib.hid s2
        clear s1 s2 s3 s4 hr0 h0
        go_wp2
        go_round
        case rel => exact ⟨d, A * A, X * A, S1.out, ⟨by omega, id2⟩, by rw [fv_mul], by rw [fv_mul], rfl, S.out⟩
        case measure => exact S2.out

theorem rpow_any (p : Nat) [NeZero p] (hp1 : 2 ≤ p) (hp2 : p ≤ 2147483647) (m n : Int) (hm : I64 m) (hn : I64 n) (w : World) :
    Calls Tryz.prog 125 #[vi p, vi m, vi n] w fun e w' => e = .returned (vi (fv (zpw (el p m) n))) ∧ w = w' := by
  by_cases h0 : 0 ≤ n
  · have h := rpow_nn p hp1 hp2 m n hm hn h0 w
    rw [zpw, if_pos h0, show n.toNat = n.natAbs by omega]
    exact h
  · have h := rpow_neg p hp1 hp2 m n hm hn (by omega) w
    rw [zpw, if_neg h0, show (-n).toNat = n.natAbs by omega]
    exact h
theorem rdiv_any (p : Nat) [NeZero p] (hp1 : 2 ≤ p) (hp2 : p ≤ 2147483647) (m n : Int) (hm : I64 m) (hn : I64 n) (w : World) :
    Calls Tryz.prog 142 #[vi p, vi m, vi n] w fun e w' => e = .returned (vi (fv (el p m * Zp.inv (el p n)))) ∧ w = w' := by
  have h := fun w => rmul_any p hp2 m (fv (Zp.inv (el p n))) hm (i64_fv _ hp2) w
  simp only [el_fv] at h
  have H := Lib.hid h
  clear h
  go_enter Tryz.func142, Tryz.ntmps142
  go_wp2_with (first | (go_at_call 108; refine (rinv_any p hp1 hp2 n hn _).mono ?_; rintro e w' ⟨rfl, rfl⟩) | (go_at_call 109; refine (H.out _).mono ?_; rintro e w' ⟨rfl, rfl⟩))
  go_ret
  exact ⟨rfl, rfl⟩
end Go.Proofs.YtflkiddmakeabaaGreatDoor

/- ref3: Power, Constant, Mix, Permute. -/
set_option linter.unusedVariables false
namespace Go.Proofs.YtflkiddmakeabaaGreatDoor
open Go.RowKit Zp

/-- no divisor from 2 to i - 1 in common -/
def NoCom (n m i : Nat) : Prop := ∀ j, 2 ≤ j → j < i → ¬ (j ∣ n ∧ j ∣ m)
theorem NoCom.step {n m i : Nat} (h : NoCom n m i) (hi : ¬ (i ∣ n ∧ i ∣ m)) : NoCom n m (i + 1) := fun j h2 hj => by
  by_cases e : j = i
  · subst e; exact hi
  · exact h j h2 (by omega)
theorem NoCom.gcd {n m : Nat} (hn : 0 < n) (h : NoCom n m (n + 1)) : Nat.gcd n m = 1 := by
  have h1 := Nat.gcd_dvd_left n m
  have h2 := Nat.gcd_dvd_right n m
  have h3 := Nat.le_of_dvd hn h1
  have h4 := Nat.gcd_pos_of_pos_left m hn
  false_or_by_contra
  rename_i hne
  exact h _ (by omega) (by omega) ⟨h1, h2⟩
theorem com_gcd {n m i : Nat} (h2 : 2 ≤ i) (h : i ∣ n ∧ i ∣ m) : Nat.gcd n m ≠ 1 := fun e => by
  have := Nat.dvd_gcd h.1 h.2
  rw [e] at this
  have := Nat.le_of_dvd (by omega) this
  omega
def comB (n m : Nat) : Bool := decide (Nat.gcd n m ≠ 1)
set_option maxHeartbeats 2000000 in
theorem rcommon_any (n m : Nat) (hn : 0 < n) (hn2 : n ≤ 2147483647) (hm2 : m ≤ 2147483647) (w : World) :
    Calls Tryz.prog 188 #[vi n, vi m] w fun e w' => e = .returned (.bool (comB n m)) ∧ w = w' := by
  go_enter Tryz.func188, Tryz.ntmps188
  go_wp2
  go_loop [5] (fun t => ∃ i : Nat, 2 ≤ i ∧ (i ≤ n + 1 ∨ i = 2) ∧ t = vi i ∧ NoCom n m i) (fun t => n + 2 - (intOf t).toNat)
  case atStart => exact ⟨2, by omega, .inr rfl, rfl, fun j h1 h2 => by omega⟩
  case round =>
    obtain ⟨i, h2, hi, rfl, hno⟩ := hrel
    have HN := Lib.hid hno
    clear hno
    have i0 : (i : Int) ≠ 0 := by omega
    have i3 : (i : Int) ≤ 2147483648 := by omega
    have en : (n : Int).tmod (i : Int) = ((n % i : Nat) : Int) := by rw [Int.tmod_eq_emod_of_nonneg (by omega)]; omega
    have em : (m : Int).tmod (i : Int) = ((m % i : Nat) : Int) := by rw [Int.tmod_eq_emod_of_nonneg (by omega)]; omega
    by_cases hle : i ≤ n
    · have t1 : (i : Int) ≤ (n : Int) := by omega
      by_cases h1 : i ∣ n
      · have e1 : (((n % i : Nat) : Int) == 0) = true := by rw [Nat.mod_eq_zero_of_dvd h1]; rfl
        by_cases h3 : i ∣ m
        · have e2 : (((m % i : Nat) : Int) == 0) = true := by rw [Nat.mod_eq_zero_of_dvd h3]; rfl
          have hr : comB n m = true := decide_eq_true (com_gcd h2 ⟨h1, h3⟩)
          have HR := Lib.hid hr
          generalize ((n % i : Nat) : Int) = a at en e1
          generalize ((m % i : Nat) : Int) = b at em e2
          clear hr h1 h3 hi
          go_wp2
          go_ret
          exact ⟨ret_bool HR.out.symm, rfl⟩
        · have e2 : (((m % i : Nat) : Int) == 0) = false := by
            rw [beq_eq_false_iff_ne]
            intro e
            exact h3 (Nat.dvd_of_mod_eq_zero (by omega))
          have hs := HN.out.step (fun h => h3 h.2)
          have HS := Lib.hid hs
          generalize ((n % i : Nat) : Int) = a at en e1
          generalize ((m % i : Nat) : Int) = b at em e2
          clear hs h1 h3 hi HN
          go_wp2
          go_round
          case rel => exact ⟨i + 1, by omega, by omega, by go_num, HS.out⟩
          case measure => simp [intOf]; omega
      · have e1 : (((n % i : Nat) : Int) == 0) = false := by
          rw [beq_eq_false_iff_ne]
          intro e
          exact h1 (Nat.dvd_of_mod_eq_zero (by omega))
        have hs := HN.out.step (fun h => h1 h.1)
        have HS := Lib.hid hs
        generalize ((n % i : Nat) : Int) = a at en e1
        clear hs h1 hi HN em
        go_wp2
        go_round
        case rel => exact ⟨i + 1, by omega, by omega, by go_num, HS.out⟩
        case measure => simp [intOf]; omega
    · have t1 : ¬ (i : Int) ≤ (n : Int) := by omega
      have hr : comB n m = false := by
        refine decide_eq_false fun hne => hne ?_
        refine NoCom.gcd hn fun j h3 h4 => ?_
        exact HN.out j h3 (by omega)
      have HR := Lib.hid hr
      clear hr en em hle
      go_wp2
      go_ret
      exact ⟨ret_bool HR.out.symm, rfl⟩
set_option maxHeartbeats 2000000 in
theorem rpower_is (p k : Nat) (hp : 3 ≤ p) (hp2 : p ≤ 2147483647) (k2 : 2 ≤ k) (kp : k < p) (least : ∀ j, 2 ≤ j → j < k → Nat.gcd j (p - 1) ≠ 1) (cop : Nat.gcd k (p - 1) = 1) (w : World) :
    Calls Tryz.prog 173 #[vi p] w fun e w' => e = .returned (vi k) ∧ w = w' := by
  have hc := fun (n : Nat) (h1 : 0 < n) (h2 : n ≤ 2147483647) => rcommon_any n (p - 1) h1 h2 (by omega) w
  have ep : ((p - 1 : Nat) : Int) = (p : Int) - 1 := by omega
  rw [ep] at hc
  have HC := Lib.hid hc
  have HL := Lib.hid least
  have HO := Lib.hid cop
  clear hc ep least cop
  go_enter Tryz.func173, Tryz.ntmps173
  go_wp2
  go_loop [3, 4] (fun t _ => ∃ n : Nat, 2 ≤ n ∧ n ≤ k ∧ t = vi n) (fun t _ => k - (intOf t).toNat)
  case atStart => exact ⟨2, by omega, by omega, rfl⟩
  case round =>
    obtain ⟨n, h2, hk, rfl⟩ := hrel
    have t1 : (n : Int) < (p : Int) := by omega
    have HN := Lib.hid (HC.out n (by omega) (by omega))
    by_cases e : n = k
    · have hb : comB n (p - 1) = false := decide_eq_false fun h => h (by rw [e]; exact HO.out)
      rw [hb] at HN
      subst e
      go_wp2_with fail
      refine (HN.out).mono ?_
      rintro _ _ ⟨rfl, rfl⟩
      go_wp2
      go_ret
      exact ⟨rfl, rfl⟩
    · have hb : comB n (p - 1) = true := decide_eq_true (HL.out n h2 (by omega))
      rw [hb] at HN
      go_wp2_with fail
      refine (HN.out).mono ?_
      rintro _ _ ⟨rfl, rfl⟩
      go_wp2
      go_round
      case rel => exact ⟨n + 1, by omega, by omega, by go_num⟩
      case measure => simp [intOf]; omega
set_option maxRecDepth 100000 in
set_option maxHeartbeats 2000000 in
theorem rconst_any (p : Nat) [NeZero p] (hp1 : 2 ≤ p) (hp2 : p ≤ 2147483647) (r i : Int) (hr : I64 r) (hi : I64 i) (w : World) :
    Calls Tryz.prog 174 #[vi p, vi r, vi i] w fun e w' => e = .returned (vi (cstI p r i)) ∧ w = w' := by
  by_cases h : 0 ≤ r ∧ r < 8 ∧ 0 ≤ i ∧ i < 8
  · obtain ⟨r1, r2, i1, i2⟩ := h
    have e1 : cstI p r i = fv (pw (el p (8 * r + i + 1)) 5 + el p 3) := by
      unfold cstI cstT; rw [if_pos ⟨r1, r2, i1, i2⟩]; congr 4; omega
    rw [e1]
    have hpow := rpow_any p hp1 hp2 (8 * r + i + 1) 5 (by constructor <;> omega) (by constructor <;> omega) w
    rw [zpw_five] at hpow
    obtain ⟨T, hT⟩ : ∃ T, T = pw (el p (8 * r + i + 1)) 5 := ⟨_, rfl⟩
    rw [← hT] at hpow ⊢
    have hadd := radd_any p hp2 (fv T) 3 (i64_fv _ hp2) (by constructor <;> omega) w
    rw [el_fv] at hadd
    have HP := Lib.hid hpow
    have HA := Lib.hid hadd
    obtain ⟨hr1, hr2⟩ := hr
    obtain ⟨hi1, hi2⟩ := hi
    clear hpow hadd hT e1
    go_enter Tryz.func174, Tryz.ntmps174
    go_wp2_with (refine (HP.out).mono ?_; rintro _ _ ⟨rfl, rfl⟩; clear HP)
    go_wp2_with (refine (HA.out).mono ?_; rintro _ _ ⟨rfl, rfl⟩; clear HA)
    go_ret
    exact ⟨rfl, rfl⟩
  · have e1 : cstI p r i = 0 := by unfold cstI; rw [if_neg h]
    rw [e1]
    obtain ⟨hr1, hr2⟩ := hr
    obtain ⟨hi1, hi2⟩ := hi
    rcases (show r < 0 ∨ (0 ≤ r ∧ 8 ≤ r) ∨ (0 ≤ r ∧ r < 8 ∧ i < 0) ∨ (0 ≤ r ∧ r < 8 ∧ 0 ≤ i ∧ 8 ≤ i) by omega) with h1 | ⟨h1, h2⟩ | ⟨h1, h2, h3⟩ | ⟨h1, h2, h3, h4⟩
    all_goals
      clear h e1
      go_enter Tryz.func174, Tryz.ntmps174
      go_wp2
      go_ret
      exact ⟨rfl, rfl⟩
def RMixRel {p : Nat} [NeZero p] (x : Nat → Int) (w : World) (v t : Value) (wr : World) : Prop :=
  ∃ i : Nat, i ≤ 8 ∧ t = vi i ∧ Own wr w.heap.size v ((List.range i).map fun i => fv (ap (cauchy p) (fun j => el p (x j)) i)) ∧ Below w.heap.size w wr
set_option maxRecDepth 100000 in
set_option maxHeartbeats 2000000 in
theorem rmix_any (p : Nat) [NeZero p] (hp1 : 2 ≤ p) (hp2 : p ≤ 2147483647) (ad : Addr) (n c : Nat) (h8 : 8 ≤ n) (hn : n ≤ 9223372036854775807) (x : Nat → Int) (hx : ∀ i, I64 (x i)) (w : World) (hl : ad.block < w.heap.size) (hs : ∀ i, i < 8 → w.cell? (ad.add i) = some (vi (x i))) :
    Calls Tryz.prog 175 #[vi p, .slice (some ad) n c] w fun e w' => Made ((List.range 8).map fun i => fv (ap (cauchy p) (fun j => el p (x j)) i)) w e w' := by
  have HS := Lib.hid hs
  clear hs
  go_enter Tryz.func175, Tryz.ntmps175
  go_wp2
  go_loopw [5, 6, 7, 8, 9] (fun v t _ _ _ wr => RMixRel (p := p) x w v t wr) (fun _ t _ _ _ _ => 8 - (intOf t).toNat)
  case atStart => exact ⟨0, by omega, rfl, World.ownsRow_nil _ _ _ _, Below.refl _ _⟩
  case round =>
    obtain ⟨i, hi, rfl, hown, hb⟩ := hrel
    by_cases hi8 : i < 8
    · have i1 : (0 : Int) ≤ (i : Int) := by omega
      have i2 : (i : Int) < 8 := by omega
      have HOW := Lib.hid hown
      have HB := Lib.hid hb
      have hsr : ∀ j, j < 8 → wr.cell? (ad.add j) = some (vi (x j)) := fun j hj => (hb.cell (p := ad.add j) (by unfold Addr.add; split <;> exact hl)).trans (HS.out j hj)
      have HSR := Lib.hid hsr
      clear hown hb hsr
      go_wp2
      go_loop [7, 8, 9] (fun s t _ => ∃ j : Nat, j ≤ 8 ∧ t = vi j ∧ s = vi (fv (sumT j fun l => cauchy p i l * el p (x l)))) (fun _ t _ => 8 - (intOf t).toNat)
      case atStart => exact ⟨0, by omega, rfl, by rw [sumT, fv_zero]⟩
      case round =>
        obtain ⟨j, hj, rfl, rfl⟩ := hrel
        by_cases hj8 : j < 8
        · have j1 : (0 : Int) ≤ (j : Int) := by omega
          have j2 : (j : Int) < (n : Int) := by omega
          have j3 : (j : Int) < 8 := by omega
          have hc := HSR.out j hj8
          have hxj := hx j
          have hd := rdiv_any p hp1 hp2 (x j) ((i : Int) + j + 8) hxj ⟨by omega, by omega⟩ wr
          have ec : Zp.inv (el p ((i : Int) + j + 8)) = cauchy p i j := by unfold cauchy; congr 2
          rw [ec] at hd
          have hs := sumT_succ (p := p) j (fun l => cauchy p i l * el p (x l))
          obtain ⟨D, hD⟩ : ∃ D, D = el p (x j) * cauchy p i j := ⟨_, rfl⟩
          rw [← hD] at hd
          have e2 : cauchy p i j * el p (x j) = D := by rw [hD]; grind
          rw [e2] at hs
          obtain ⟨A, hA⟩ : ∃ A, A = sumT j fun l => cauchy p i l * el p (x l) := ⟨_, rfl⟩
          rw [← hA] at hs ⊢
          have a1 := fv_nonneg A
          have a2 := fv_lt A
          have d1 := fv_nonneg D
          have d2 := fv_lt D
          have em : (fv A + fv D).tmod (p : Int) = fv (A + D) := by
            rw [fv_add]
            exact Int.tmod_eq_emod_of_nonneg (by omega)
          have p0 : (p : Int) ≠ 0 := by omega
          have HD := Lib.hid hd
          have HH := Lib.hid hs
          clear hd hs hD e2 hA ec hxj
          go_wp2_with fail
          refine (HD.out).mono ?_
          rintro _ _ ⟨rfl, rfl⟩
          go_wp2
          go_round
          case rel => exact ⟨j + 1, by omega, by go_num, by rw [HH.out]⟩
          case measure => simp [intOf]; omega
        · have ej : j = 8 := by omega
          subst ej
          have er : (List.range (i + 1)).map (fun i => fv (ap (cauchy p) (fun j => el p (x j)) i)) = ((List.range i).map fun i => fv (ap (cauchy p) (fun j => el p (x j)) i)) ++ [fv (sumT 8 fun l => cauchy p i l * el p (x l))] := by
            rw [List.range_succ, List.map_append]; rfl
          have HE := Lib.hid er
          generalize fv (sumT 8 fun l => cauchy p i l * el p (x l)) = V at HE
          have hlk : ((List.range i).map fun i => fv (ap (cauchy p) (fun j => el p (x j)) i)).length < 17592186044416 := by simp; omega
          have HLK := Lib.hid hlk
          clear er hlk
          go_wp2_with (at_builtin; refine wpList_app1 wr V rfl _ _ rfl w.heap.size _ _ rfl rfl HOW.out HLK.out HB.out.size ?_; intro v' w1 hg)
          have ho := hg.own
          have hb := hg.below HB.out HOW.out (Nat.le_refl _) HB.out.size
          rw [← HE.out] at ho
          clear hg
          exact ⟨⟨i + 1, by omega, by go_num, ho, hb⟩, by simp [intOf]; omega⟩
    · have ei : i = 8 := by omega
      subst ei
      go_wp2
      go_ret
      exact ⟨_, rfl, hown, hb⟩
section
variable {p : Nat} [NeZero p] {w : World} {s b k z : Nat} {oo : Nat → Nat → Fin p}
/-- the power is below p -/
theorem Spg.klt (G : Spg w s b k z oo) (h3 : 4 ≤ p) : k < p := by
  have h1 : k ≤ p - 2 := by
    rcases Nat.lt_or_ge (p - 2) k with h | h
    · refine absurd ?_ (G.least (p - 2) (by omega) h)
      have h2 : Nat.gcd (p - 2) (p - 1) ∣ 1 := by
        have a1 := Nat.gcd_dvd_left (p - 2) (p - 1)
        have a2 := Nat.gcd_dvd_right (p - 2) (p - 1)
        have := Nat.dvd_sub a2 a1
        rwa [show p - 1 - (p - 2) = 1 by omega] at this
      exact Nat.dvd_one.1 h2
    · exact h
  omega
end
theorem set_map8 (f : Nat → Int) {i : Nat} (hi : i < 8) (y : Int) : ((List.range 8).map f).set i y = (List.range 8).map (upd f i y) := by
  apply List.ext_getElem?
  intro j
  rw [List.getElem?_set]
  by_cases hj : j < 8
  · by_cases e : i = j
    · subst e; simp [hi, upd]
    · rw [if_neg e]; simp [hj, upd]; intro h; exact absurd h.symm e
  · rw [if_neg (by omega)]
    rw [List.getElem?_eq_none (by simp; omega), List.getElem?_eq_none (by simp; omega)]
/-- a state on its way, i places of a round are over -/
def midR {p : Nat} [NeZero p] (k : Nat) (v : Nat → Fin p) (r i j : Nat) : Int := if j < i then fv (pw (permT k v r j + cstT p r j) k) else fv (permT k v r j)
theorem midR_step {p : Nat} [NeZero p] (k : Nat) (v : Nat → Fin p) (r : Nat) {i : Nat} (hi : i < 8) : ((List.range 8).map (midR k v r i)).set i (fv (pw (permT k v r i + cstT p r i) k)) = (List.range 8).map (midR k v r (i + 1)) := by
  rw [set_map8 _ hi]
  congr 1
  funext j
  unfold upd midR
  by_cases h : j = i
  · subst h; rw [if_pos rfl, if_pos (by omega)]
  · rw [if_neg h]
    by_cases h1 : j < i
    · rw [if_pos h1, if_pos (by omega)]
    · rw [if_neg h1, if_neg (by omega)]
theorem midR_done {p : Nat} [NeZero p] (k : Nat) (v : Nat → Fin p) (r : Nat) : ((List.range 8).map fun a => fv (ap (cauchy p) (fun j => el p (((List.range 8).map (midR k v r 8)).getD j 0)) a)) = (List.range 8).map fun j => fv (permT k v (r + 1) j) := by
  apply List.map_congr_left
  intro a _
  show fv (ap (cauchy p) _ a) = fv (ap (cauchy p) _ a)
  congr 1
  refine ap_congr (fun _ _ => rfl) fun j hj => ?_
  rw [getD_map8 _ hj]
  unfold midR
  rw [if_pos hj, el_fv]
theorem i64_midR {p : Nat} [NeZero p] (hm : p ≤ 2147483647) (k : Nat) (v : Nat → Fin p) (r i j : Nat) : I64 (midR k v r i j) := by
  unfold midR
  split <;> exact i64_fv _ hm
def RPermRel {p : Nat} [NeZero p] (k : Nat) (u : Nat → Fin p) (w : World) (v t : Value) (wr : World) : Prop :=
  ∃ r : Nat, r ≤ 8 ∧ t = vi r ∧ Own wr w.heap.size v ((List.range 8).map fun j => fv (permT k u r j)) ∧ Below w.heap.size w wr
def RPermIn {p : Nat} [NeZero p] (k : Nat) (u : Nat → Fin p) (w : World) (r : Nat) (v t : Value) (wr : World) : Prop :=
  ∃ i : Nat, i ≤ 8 ∧ t = vi i ∧ Own wr w.heap.size v ((List.range 8).map (midR k u r i)) ∧ Below w.heap.size w wr
set_option maxRecDepth 100000 in
set_option maxHeartbeats 4000000 in
theorem rpermute_any (p k : Nat) [NeZero p] (hp1 : 3 ≤ p) (hp2 : p ≤ 2147483647) (k2 : 2 ≤ k) (kp : k < p) (least : ∀ j, 2 ≤ j → j < k → Nat.gcd j (p - 1) ≠ 1) (cop : Nat.gcd k (p - 1) = 1) (A : Option Addr) (c : Nat) (xs : List Int) (hx8 : xs.length = 8) (hxI : ∀ x ∈ xs, I64 x) (w : World) (hs : SL w A xs) :
    Calls Tryz.prog 138 #[vi p, .slice A 8 c] w fun e w' => Made ((List.range 8).map fun i => fv (permT (p := p) k (fun j => el p (xs.getD j 0)) 8 i)) w e w' := by
  have hall := rall_any p hp2 A c xs hxI (by omega) w hs
  rw [hx8] at hall
  obtain ⟨u, hu⟩ : ∃ u : Nat → Fin p, u = fun j => el p (xs.getD j 0) := ⟨_, rfl⟩
  rw [← all8 hx8 (R := u) (fun j _ => by rw [hu])] at hall
  rw [← hu]
  have HA := Lib.hid hall
  have HPW := Lib.hid (fun W => rpower_is p k hp1 hp2 k2 kp least cop W)
  have hpp : 2 ≤ p := by omega
  clear hall hu hs hxI hx8 least cop
  go_enter Tryz.func138, Tryz.ntmps138
  go_wp2_with fail
  refine (HA.out).mono ?_
  rintro _ w1 ⟨v, rfl, ho1, hb1⟩
  go_wp2_with fail
  refine (HPW.out _).mono ?_
  rintro _ _ ⟨rfl, rfl⟩
  go_wp2
  go_loopw [5, 7, 8, 9] (fun v t _ _ wr => RPermRel k u w v t wr) (fun _ t _ _ _ => 8 - (intOf t).toNat)
  case atStart => exact ⟨0, by omega, rfl, ho1, hb1⟩
  case round =>
    clear ho1 hb1
    obtain ⟨r, hr, rfl, ho, hb⟩ := hrel
    by_cases hr8 : r < 8
    · have r1 : (0 : Int) ≤ (r : Int) := by omega
      have r2 : (r : Int) < 8 := by omega
      have e0 : ((List.range 8).map fun j => fv (permT k u r j)) = (List.range 8).map (midR k u r 0) := by
        apply List.map_congr_left; intro j _; unfold midR; rw [if_neg (by omega)]
      rw [e0] at ho
      clear e0
      obtain ⟨g, cap, ev, hg1, hg2⟩ := ho.block (by simp)
      rw [show ((List.range 8).map (midR k u r 0)).length = 8 by simp] at ev
      subst ev
      go_wp2
      go_loopw [8, 9] (fun t _ wr => RPermIn k u w r (.slice (some ⟨g, 0, none⟩) 8 cap) t wr) (fun t _ _ => 8 - (intOf t).toNat)
      case atStart => exact ⟨0, by omega, rfl, ho, hb⟩
      case round =>
        clear ho hb hg2
        obtain ⟨i, hi, rfl, ho, hb⟩ := hrel
        by_cases hi8 : i < 8
        · have i1 : (0 : Int) ≤ (i : Int) := by omega
          have i2 : (i : Int) < 8 := by omega
          have hst := midR_step k u r hi8
          have hlen8 : 8 = ((List.range 8).map (midR k u r i)).length := by simp
          have hcX := ho.at_ hlen8 i (by simpa using hi8)
          have hfX := ho.frozen_ hlen8 i
          have hsto := fun y => ho.store hlen8 i y
          rw [show ((List.range 8).map (midR k u r i))[i]'(by simpa using hi8) = fv (permT k u r i) by simp [midR]] at hcX
          have hcst := rconst_any p hpp hp2 r i ⟨by omega, by omega⟩ ⟨by omega, by omega⟩ wr
          rw [cstI_in p hr8 hi8] at hcst
          obtain ⟨V, hV⟩ : ∃ V, V = permT k u r i := ⟨_, rfl⟩
          rw [← hV] at hst hcX
          obtain ⟨C, hC⟩ : ∃ C, C = cstT p r i := ⟨_, rfl⟩
          rw [← hC] at hst hcst
          have v1 := fv_nonneg V
          have v2 := fv_lt V
          have c1 := fv_nonneg C
          have c2 := fv_lt C
          have hpow := rpow_any p hpp hp2 (fv V + fv C) k ⟨by omega, by omega⟩ ⟨by omega, by omega⟩ wr
          rw [el_add, el_fv, el_fv, zpw_nat] at hpow
          obtain ⟨T, hT⟩ : ∃ T, T = pw (V + C) k := ⟨_, rfl⟩
          rw [← hT] at hpow hst
          have HC := Lib.hid hcst
          have HP := Lib.hid hpow
          have HST := Lib.hid hst
          have HSTO := Lib.hid hsto
          have HB := Lib.hid hb
          clear hcst hpow hst hsto hV hC hT ho hb hlen8
          go_wp2_with fail
          refine (HC.out).mono ?_
          rintro _ _ ⟨rfl, rfl⟩
          go_wp2_with (refine (HP.out).mono ?_; rintro _ _ ⟨rfl, rfl⟩; clear HP)
          have ho := HSTO.out (fv T)
          rw [HST.out] at ho
          have hb := HB.out.setCell (p := ⟨g, i, none⟩) hg1 (vi (fv T))
          go_roundw
          case rel => exact ⟨i + 1, by omega, by go_num, ho, hb⟩
          case measure => simp [intOf]; omega
        · have ei : i = 8 := by omega
          subst ei
          have hdn := midR_done k u r
          have hgd := i64_getD3 (xs := (List.range 8).map (midR k u r 8)) (by intro y hy; obtain ⟨j, _, rfl⟩ := List.mem_map.1 hy; exact i64_midR hp2 k u r 8 j)
          have hlen8 : 8 = ((List.range 8).map (midR k u r 8)).length := by simp
          obtain ⟨A', n', c', ev, hl', hc', _, hs'⟩ := ho.shapeN
          injection ev with ev1 ev2 ev3
          subst ev1 ev2 ev3
          obtain ⟨ad, ea, hab, hac⟩ := sl8 hs' (by simp)
          injection ea with ea
          subst ea
          have hmx := rmix_any p hpp hp2 ⟨g, 0, none⟩ 8 cap (Nat.le_refl _) (by omega) (fun j => ((List.range 8).map (midR k u r 8)).getD j 0) hgd wr hab hac
          rw [hdn] at hmx
          have HM := Lib.hid hmx
          have HB := Lib.hid hb
          clear hmx hdn hgd hlen8 hs' hac ho hb
          go_wp2_with fail
          refine (HM.out).mono ?_
          rintro _ w5 ⟨v5, rfl, ho5, hb5⟩
          have ho := ho5.more HB.out.size
          have hb := HB.out.trans (hb5.mono HB.out.size)
          go_wp2
          go_roundw
          case rel => exact ⟨r + 1, by omega, by go_num, ho, hb⟩
          case measure => simp [intOf]; omega
    · have er : r = 8 := by omega
      subst er
      go_wp2
      go_ret
      exact ⟨_, rfl, ho, hb⟩
end Go.Proofs.YtflkiddmakeabaaGreatDoor

/- ref3.Pad. -/
set_option linter.unusedVariables false
namespace Go.Proofs.YtflkiddmakeabaaGreatDoor
open Go.RowKit Zp

set_option maxRecDepth 100000 in
set_option maxHeartbeats 2000000 in
theorem rpad_any (p : Nat) [NeZero p] (hp2 : p ≤ 2147483647) (A : Option Addr) (m c : Nat) (l : List Int) (hm : l.length = m) (hI : ∀ n ∈ l, I64 n) (hr : m * 8 ≤ 140737488353280) (w : World) (hs : SL w A l) :
    Calls Tryz.prog 137 #[vi p, .slice A m c] w fun e w' => Made (padL (fvs (els p l))) w e w' := by
  have hlen : (fvs (els p l)).length = m := by simp [fvs, els, hm]
  have hall := rall_any p hp2 A c l hI (by rw [hm]; exact hr) w hs
  rw [hm] at hall
  have HA := Lib.hid hall
  obtain ⟨L, hL⟩ : ∃ L, L = fvs (els p l) := ⟨_, rfl⟩
  rw [← hL] at hlen HA ⊢
  have HLN := Lib.hid hlen
  clear hall hlen hL hm hs
  go_enter Tryz.func137, Tryz.ntmps137
  go_wp2_with fail
  refine (HA.out).mono ?_
  rintro _ w1 ⟨v, rfl, hown, hb⟩
  have hlk : L.length < 17592186044416 := by rw [HLN.out]; omega
  have HLK := Lib.hid hlk
  clear hlk
  go_wp2_with (at_builtin; refine wpList_app1 w1 1 rfl _ _ rfl w.heap.size _ _ rfl rfl hown HLK.out hb.size ?_; intro v' w2 hg)
  have hown1 := hg.own
  have hb1 := hg.below hb hown (Nat.le_refl _) hb.size
  clear hg hown
  go_loopw [5] (fun v wr => ∃ q : Nat, q ≤ padN m ∧ Own wr w.heap.size v (L ++ [1] ++ List.replicate q 0) ∧ Below w.heap.size w wr) (fun v _ => m + 5 - (match v with | .slice _ n _ => n | _ => 0))
  case atStart => exact ⟨0, Nat.zero_le _, by simpa using hown1, hb1⟩
  case round =>
    obtain ⟨q, hq, hown, hb⟩ := hrel
    obtain ⟨A1, n1, c1, rfl, hl1, hc1, hc2, hs1⟩ := hown.shapeN
    have hn1 : n1 = m + 1 + q := by rw [← hl1]; simp [HLN.out]; omega
    have hp4 : padN m ≤ 3 := by unfold padN; omega
    have em : (n1 : Int) % 4 = ((n1 % 4 : Nat) : Int) := by omega
    have HN1 := Lib.hid hn1
    have HL1 := Lib.hid hl1
    by_cases h4 : n1 % 4 = 0
    · have tq : ((n1 : Int) % 4 != 0) = false := by rw [em, h4]; rfl
      have hqq : q = padN m := by unfold padN at *; omega
      have HQQ := Lib.hid hqq
      clear hl1 hn1 em h4 hqq
      go_wp2
      go_ret
      have hx : padL L = L ++ [1] ++ List.replicate q 0 := by unfold padL; rw [HLN.out, ← HQQ.out]
      exact ⟨_, rfl, by rw [hx]; exact hown, hb⟩
    · have tq : ((n1 : Int) % 4 != 0) = true := by rw [em, bne_iff_ne]; omega
      have hq4 : q + 1 ≤ padN m := by unfold padN at *; omega
      have hlk : (L ++ [1] ++ List.replicate q 0).length < 17592186044416 := by rw [HL1.out]; omega
      have HLK := Lib.hid hlk
      clear hl1 hn1 em h4 hlk
      go_wp2_with (at_builtin; refine wpList_app1 wr 0 rfl _ _ rfl w.heap.size _ _ rfl rfl hown HLK.out hb.size ?_; intro v' w3 hg)
      have ho := hg.own
      have hbb := hg.below hb hown (Nat.le_refl _) hb.size
      have ex : L ++ [1] ++ List.replicate q 0 ++ [0] = L ++ [1] ++ List.replicate (q + 1) 0 := by rw [List.replicate_succ', ← List.append_assoc]
      rw [ex] at ho
      clear hg hown
      obtain ⟨A2, n2, c2, rfl, h21, _, _, _⟩ := ho.shapeN
      have hn2 : n2 = m + 1 + (q + 1) := by rw [← h21]; simp [HLN.out]; omega
      have h1n := HN1.out
      exact ⟨⟨q + 1, hq4, ho, hbb⟩, by show m + 5 - n2 < m + 5 - n1; omega⟩
end Go.Proofs.YtflkiddmakeabaaGreatDoor

/- ref1.Same: are two lists the same, as elements? -/
set_option linter.unusedVariables false
namespace Go.Proofs.YtflkiddmakeabaaGreatDoor
open Go.RowKit Zp

theorem fvs_els_len {p : Nat} [NeZero p] (xs : List Int) : (fvs (els p xs)).length = xs.length := by simp [fvs, els]
end Go.Proofs.YtflkiddmakeabaaGreatDoor

/- ref3.Hash. -/
set_option linter.unusedVariables false
namespace Go.Proofs.YtflkiddmakeabaaGreatDoor
open Go.RowKit Zp

section
variable {p : Nat} [NeZero p]
/-- the state of a hash on its way -/
def RHashRel (k : Nat) (m : Nat → Fin p) (c : Nat) (b1 n1 c1 : Nat) (M : List Int) (w : World) (v t : Value) (wr : World) : Prop :=
  ∃ (i g cap : Nat), i ≤ c ∧ t = vi ((4 * i : Nat) : Int) ∧ v = .slice (some ⟨g, 0, none⟩) 8 cap ∧ g ≠ b1 ∧ w.heap.size ≤ g ∧ Own wr w.heap.size (.slice (some ⟨g, 0, none⟩) 8 cap) ((List.range 8).map fun j => fv (hashT k m i j)) ∧ Own wr w.heap.size (.slice (some ⟨b1, 0, none⟩) n1 c1) M ∧ Below w.heap.size w wr
def RHashIn (k : Nat) (m : Nat → Fin p) (i g cap b1 n1 c1 : Nat) (M : List Int) (w : World) (t : Value) (wr : World) : Prop :=
  ∃ a : Nat, a ≤ 4 ∧ t = vi a ∧ Own wr w.heap.size (.slice (some ⟨g, 0, none⟩) 8 cap) ((List.range 8).map (absI (hashT k m i) m i a)) ∧ Own wr w.heap.size (.slice (some ⟨b1, 0, none⟩) n1 c1) M ∧ Below w.heap.size w wr
end
/-- one's own slice of ints lies in a block of ints -/
theorem own_blkI {w : World} {base g n cap : Nat} {xs : List Int} (h : Own w base (.slice (some ⟨g, 0, none⟩) n cap) xs) : ∃ cs, Blk w g 3 cs := by
  rcases h.2 with ⟨e, _⟩ | ⟨g', cap', cur, e, _, hh, _⟩
  · cases e
  · injection e with e _ _
    injection e with e
    injection e with e _ _
    subst e
    exact ⟨cur, hh⟩
/-- a digest in new memory, in a block of ints -/
def DigIs (p k : Nat) [NeZero p] (l : List Int) (w : World) (e : Ending) (w' : World) : Prop :=
  ∃ (g cap : Nat) (cs : Array Value), e = .returned (.slice (some ⟨g, 0, none⟩) 4 cap) ∧ 4 ≤ cap ∧ cap ≤ maxLen ∧ SL w' (some ⟨g, 0, none⟩) (digL p k l) ∧ Blk w' g 3 cs ∧ w.heap.size ≤ g ∧ Below w.heap.size w w'
set_option maxRecDepth 100000 in
set_option maxHeartbeats 4000000 in
theorem rhash_dig (p k : Nat) [NeZero p] (hp1 : 3 ≤ p) (hp2 : p ≤ 2147483647) (k2 : 2 ≤ k) (kp : k < p) (least : ∀ j, 2 ≤ j → j < k → Nat.gcd j (p - 1) ≠ 1) (cop : Nat.gcd k (p - 1) = 1) (A : Option Addr) (n cA : Nat) (l : List Int) (hn : l.length = n) (hI : ∀ x ∈ l, I64 x) (hr : n * 8 ≤ 140737488353280) (w : World) (hs : SL w A l) :
    Calls Tryz.prog 87 #[vi p, .slice A n cA] w fun e w' => DigIs p k l w e w' := by
  have hb0 : Below w.heap.size w (w.alloc (.cells (zeros 8) 3)) := (Below.refl _ _).alloc (Nat.le_refl _) _
  have hO0 := own_made w w.heap.size 8 (Nat.le_refl _) (by omega)
  have hmk : ∀ W : World, (Instr.makeSlice 22 (.int .i64 8) (.int .i64 8)).run Tryz.prog W = .ok (.slice (some ⟨W.heap.size, 0, none⟩) 8 8) (W.alloc (.cells (zeros 8) 3)) := fun W => make_ints 8 8 (Nat.le_refl _) (by omega) W
  have HPAD := Lib.hid (rpad_any p hp2 A n cA l hn hI hr _ (hs.below hb0))
  have HPM := Lib.hid (fun A c xs h8 hI W hs => rpermute_any p k hp1 hp2 k2 kp least cop A c xs h8 hI W hs)
  have HN := Lib.hid hn
  have hpp : 2 ≤ p := by omega
  obtain ⟨m, hm⟩ : ∃ m, m = padE p l := ⟨_, rfl⟩
  have HM := Lib.hid hm
  clear hs hI hn hm least cop
  go_enter Tryz.func87, Tryz.ntmps87
  go_wp2_with fail
  refine (HPAD.out).mono ?_
  rintro _ w1 ⟨v, rfl, ho1, hb1⟩
  have hlM : (padL (fvs (els p l))).length = 4 * padC n := by rw [padC_len, fvs_els_len, HN.out]
  have hEM := fun j hj => padE_at hpp l (j := j) hj
  rw [← HM.out] at hEM
  obtain ⟨M, hM⟩ : ∃ M, M = padL (fvs (els p l)) := ⟨_, rfl⟩
  have hEM' : ∀ j (hj : j < M.length), M[j] = fv (m j) := by subst hM; exact hEM
  rw [← hM] at ho1 hlM
  have hc0 : 1 ≤ padC n := by unfold padC padN; omega
  have hcn : 4 * padC n ≤ n + 4 := by unfold padC padN; omega
  obtain ⟨b1, c1, rfl, hb11, hb12⟩ := ho1.block (by omega)
  obtain ⟨n1, hn1⟩ : ∃ n1, n1 = M.length := ⟨_, rfl⟩
  rw [← hn1]
  have hg1 : w.heap.size ≠ b1 := by simp at hb11; omega
  have hOs := hO0.below hb1
  have hrep : List.replicate 8 (0 : Int) = (List.range 8).map fun j => fv (hashT k m 0 j) := by
    show _ = (List.range 8).map fun j => fv (0 : Fin p)
    rw [fv_zero]; rfl
  rw [hrep] at hOs
  have hb01 := hb0.trans (hb1.mono hb0.size)
  have HLM := Lib.hid hlM
  have HN1 := Lib.hid hn1
  have HEM := Lib.hid hEM'
  have hO1 := ho1.more (base' := w.heap.size) hb0.size
  rw [← hn1] at hO1
  clear hEM hEM' hM hO0 hb1 hb0 hrep ho1 hmk hb11 hb12 hn1 hlM
  go_wp2
  go_loopw [5, 7, 8] (fun v t _ wr => RHashRel k m (padC n) b1 n1 c1 M w v t wr) (fun _ t _ _ => n1 - (intOf t).toNat)
  case atStart => exact ⟨0, _, 8, by omega, rfl, rfl, hg1, Nat.le_refl _, hOs, hO1, hb01⟩
  case round =>
    clear hOs hO1 hb01 hg1
    obtain ⟨i, g, cap, hi, rfl, rfl, hg1, hgw, hO, hOM, hb⟩ := hrel
    have hn4 : n1 = 4 * padC n := by rw [HN1.out, HLM.out]
    obtain ⟨q, hq⟩ : ∃ q : Nat, q = 4 * i := ⟨_, rfl⟩
    rw [← hq]
    have HQ := Lib.hid hq
    by_cases hlt : i < padC n
    · have q1 : (0 : Int) ≤ (q : Int) := by omega
      have q2 : (q : Int) + 4 ≤ (n1 : Int) := by omega
      have q3 : (q : Int) < (n1 : Int) := by omega
      have q4 : (n1 : Int) ≤ 140737488351232 := by omega
      have HN4 := Lib.hid hn4
      have e0 : ((List.range 8).map fun j => fv (hashT k m i j)) = (List.range 8).map (absI (hashT k m i) m i 0) := by rw [absI_zero]
      rw [e0] at hO
      clear e0 hq hn4
      go_wp2
      go_loopw [8] (fun t wr => RHashIn k m i g cap b1 n1 c1 M w t wr) (fun t _ => 4 - (intOf t).toNat)
      case atStart => exact ⟨0, by omega, rfl, hO, hOM, hb⟩
      case round =>
        clear hO hOM hb
        obtain ⟨a, ha, rfl, hO, hOM, hb⟩ := hrel
        by_cases ha4 : a < 4
        · have a1 : (0 : Int) ≤ (a : Int) := by omega
          have a2 : (a : Int) < 4 := by omega
          have a3 : (a : Int) < 8 := by omega
          have a4 : (q : Int) + (a : Int) < (n1 : Int) := by omega
          have a5 : (0 : Int) ≤ (q : Int) + (a : Int) := by omega
          have a6 : IntKind.i64.wrap ((q : Int) + (a : Int)) = (q : Int) + (a : Int) := IntWalk.i64_in _ (by omega)
          have a7 : ((q : Int) + (a : Int)).toNat = q + a := by omega
          have hlen8 : 8 = ((List.range 8).map (absI (hashT k m i) m i a)).length := by simp
          have hqM : q + a < M.length := by have := HN1.out; omega
          have hcX := hO.at_ hlen8 a (by simp; omega)
          have hfX := hO.frozen_ hlen8 a
          rw [show ((List.range 8).map (absI (hashT k m i) m i a))[a]'(by simp; omega) = fv (hashT k m i a) by simp [absI]] at hcX
          have hcM := hOM.at_ HN1.out (q + a) hqM
          rw [HEM.out] at hcM
          have hsto := fun nq y => (hO.drewN nq).store hlen8 a y
          have hst := absI_step (hashT k m i) m i a
          rw [← HQ.out] at hst
          obtain ⟨V, hV⟩ : ∃ V, V = hashT k m i a := ⟨_, rfl⟩
          rw [← hV] at hcX hst
          obtain ⟨E, hE⟩ : ∃ E, E = m (q + a) := ⟨_, rfl⟩
          rw [← hE] at hcM hst
          have v1 := fv_nonneg V
          have v2 := fv_lt V
          have e1 := fv_nonneg E
          have e2 := fv_lt E
          have p0 : ¬ p = 0 := by omega
          have w1 : IntKind.i64.wrap (fv V + fv E) = fv V + fv E := IntWalk.i64_in _ (by omega)
          have em : (fv V + fv E).tmod (p : Int) = fv (V + E) := by
            rw [fv_add]
            exact Int.tmod_eq_emod_of_nonneg (by omega)
          have HST := Lib.hid hst
          have HSTO := Lib.hid hsto
          have hOMf := fun (nq : Nat) (y : Int) => (hOM.drewN nq).far (q := ⟨g, a, none⟩) (by intro e; injection e with e; exact hg1 e.symm) (vi y)
          have HOM := Lib.hid hOMf
          have HB := Lib.hid hb
          clear hst hsto hV hE hOMf hb hO hOM hlen8
          go_wp2
          refine wp_region_quiet_tail 16 (by kernel_rfl) (by kernel_rfl) ?_
          simp only [List.take_succ_cons, List.take_zero, List.drop_succ_cons, List.drop_zero]
          repeat (quiet_step (fail))
          refine wpQuiet_nil ?_
          intro _ hw'
          obtain ⟨nq1, hw''⟩ := hw'
          subst hw''
          go_wp2
          have hO := (HSTO.out nq1 (fv (V + E)))
          rw [set_map8 _ (by omega), HST.out] at hO
          have hOM := HOM.out nq1 (fv (V + E))
          have hb := (below_drewN HB.out nq1).setCell (p := ⟨g, a, none⟩) hgw (vi (fv (V + E)))
          go_roundw
          case rel => exact ⟨a + 1, by omega, by go_num, hO, hOM, hb⟩
          case measure => simp [intOf]; omega
        · have ea : a = 4 := by omega
          rw [ea] at hO
          have t4 : ¬ (a : Int) < 4 := by omega
          clear ea
          have hgd : ∀ x ∈ (List.range 8).map (absI (hashT k m i) m i 4), I64 x := by intro y hy; obtain ⟨j, _, rfl⟩ := List.mem_map.1 hy; exact i64_absI hp2 _ m i 4 j
          obtain ⟨A', n', c', ev, hl', hc', _, hs'⟩ := hO.shapeN
          injection ev with ev1 ev2 ev3
          subst ev1 ev2 ev3
          have hpm := HPM.out (some ⟨g, 0, none⟩) cap _ (by simp) hgd wr hs'
          have hres : ((List.range 8).map fun j => fv (permT k (fun j => el p (((List.range 8).map (absI (hashT k m i) m i 4)).getD j 0)) 8 j)) = (List.range 8).map fun j => fv (hashT k m (i + 1) j) := by
            apply List.map_congr_left
            intro j hj
            show fv (permT k _ 8 j) = fv (permT k _ 8 j)
            rw [permT_congr k (fun i' hi' => ?_) 8 j (List.mem_range.1 hj)]
            rw [getD_map8 _ hi', absI_done]
          rw [hres] at hpm
          have HP := Lib.hid hpm
          have HB := Lib.hid hb
          have HOM := Lib.hid hOM
          clear hpm hres hgd hs' hO hb hOM
          go_wp2_with fail
          refine (HP.out).mono ?_
          rintro _ w5 ⟨v5, rfl, ho5, hb5⟩
          have hO5 := ho5.more HB.out.size
          have hOM := HOM.out.below hb5
          have hb := HB.out.trans (hb5.mono HB.out.size)
          obtain ⟨g5, c5, rfl, hg51, hg52⟩ := ho5.block (by simp)
          have e8 : ((List.range 8).map fun j => fv (hashT k m (i + 1) j)).length = 8 := by simp
          rw [e8] at hO5 ⊢
          have hb1l := (World.ownsRow.lt HOM.out b1 rfl).2
          clear ho5 e8
          go_wp2
          have hq1 := HQ.out
          have hn1 := HN4.out
          go_roundw
          case rel => exact ⟨i + 1, g5, c5, by omega, by rw [show ((4 * (i + 1) : Nat) : Int) = (q : Int) + 4 by omega], rfl, by omega, Nat.le_trans HB.out.size hg51, hO5, hOM, hb⟩
          case measure => simp [intOf]; omega
    · have hik : i = padC n := by omega
      have t1 : ¬ (q : Int) < (n1 : Int) := by omega
      obtain ⟨A', n', c', ev, hl', hc', hm', hs'⟩ := hO.shapeN
      injection ev with ev1 ev2 ev3
      subst ev1 ev2 ev3
      have hs4 := hs'.pre 4
      obtain ⟨cs, hcs⟩ := own_blkI hO
      have HBK := Lib.hid hcs
      have hd : ((List.range 8).map fun j => fv (hashT k m i j)).take 4 = digL p k l := by
        unfold digL digE
        rw [hik, HN.out, ← HM.out]
        rfl
      rw [hd] at hs4
      have HS4 := Lib.hid hs4
      have HB := Lib.hid hb
      clear hs4 hd hik hn4 hq hs' hO hOM hb hcs
      go_wp2
      go_ret
      exact ⟨g, cap, cs, rfl, by omega, hm', HS4.out, HBK.out, hgw, HB.out⟩
end Go.Proofs.YtflkiddmakeabaaGreatDoor
