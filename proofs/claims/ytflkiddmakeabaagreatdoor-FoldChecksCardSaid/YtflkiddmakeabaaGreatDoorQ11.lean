/- A bundle of texts: Ph, Rk5, Rk6, Shl, Srt. -/
import Derived.Test.YtflkiddmakeabaaGreatDoorQ09
import Derived.Test.YtflkiddmakeabaaGreatDoorQ05
import Derived.Test.YtflkiddmakeabaaGreatDoorQ10
import Derived.Test.YtflkiddmakeabaaGreatDoorQ08
import Derived.Test.YtflkiddmakeabaaGreatDoorChecked
import Derived.Shelf.SlicesG.CompactI
import Derived.Shelf.SlicesG.Equal
import Derived.Shelf.SortM.Plain
import Derived.Shelf.SortM.SortNone
import Derived.Test.YtflkiddmakeabaaGreatDoorQ01
import Derived.Test.YtflkiddmakeabaaGreatDoorQ00
/- The walk of ref5.path. -/
set_option linter.unusedVariables false
namespace Go.Proofs.YtflkiddmakeabaaGreatDoor
open Go.RowKit Zp
theorem blk_set4 {w : World} {r : Nat} {t : TypeId} {a b c d : Value} (h : Blk w r t #[a, b, c, d]) (x y z u : Value) : Blk ((((w.setCell ⟨r, 0, none⟩ x).setCell ⟨r, 1, none⟩ y).setCell ⟨r, 2, none⟩ z).setCell ⟨r, 3, none⟩ u) r t #[x, y, z, u] ∧ w.grownBy ((((w.setCell ⟨r, 0, none⟩ x).setCell ⟨r, 1, none⟩ y).setCell ⟨r, 2, none⟩ z).setCell ⟨r, 3, none⟩ u) (some r) :=
  ⟨(((h.set_ 0 x).set_ 1 y).set_ 2 z).set_ 3 u, grownBy_trans (grownBy_trans (grownBy_trans blk_grown blk_grown) blk_grown) blk_grown⟩
/-- the domain that was halved t times, as the document has it -/
noncomputable abbrev RDA (q : Nat) [NeZero q] (s : Fin q) (e t : Nat) : Array Value := #[vi (q : Int), vi ((nI e t : Nat) : Int), vi (fv (sqI s t)), vi (fv (rootI q ((nI e t : Nat) : Int)))]
theorem mod_nat {x : Int} {h : Nat} (hh : 1 ≤ h) : ∃ m : Nat, x % (h : Int) = (m : Int) ∧ m < h := by
  obtain ⟨m, hm⟩ := Int.eq_ofNat_of_zero_le (Int.emod_nonneg x (show (h : Int) ≠ 0 by omega))
  exact ⟨m, hm, by have := Int.emod_lt_of_pos x (show (0 : Int) < (h : Int) by omega); omega⟩
theorem half_wrap {n h : Nat} (h1 : n = 2 * h) (h2 : n ≤ 65536) : wrap64 ((n : Int) / 2) = (h : Int) := by rw [IntWalk.wrap64_in _ (by omega)]; omega
theorem half_wrap' {n h : Nat} (h1 : n = 2 * h) (h2 : n ≤ 65536) : IntKind.i64.wrap ((n : Int) / 2) = (h : Int) := by rw [IntWalk.i64_in _ (by omega)]; omega
theorem step_wrap {t : Nat} (h : t ≤ 65536) : IntKind.i64.wrap ((t : Int) + 1) = (t : Int) + 1 := IntWalk.i64_in _ (by omega)
set_option maxRecDepth 100000 in
set_option maxHeartbeats 4000000 in
theorem rpath_any (q : Nat) [NeZero q] (hq2 : 2 ≤ q) (hqm : q ≤ 2147483647) (s : Fin q) (e : Nat) (he : e ≤ 16) (hsz : SizeOk q (nI e 0)) (f : FldI) (dr : Nat → Int) (R : Nat) (hRe : R ≤ e) (hRO : R ≤ f.opens.length) (A : Option Addr) (cA : Nat) (dl : List Int) (hdl : dl.length = R) (hdd : ∀ i (h : i < dl.length), dl[i] = dr i)
    {AR : Option Addr} {nR cR : Nat} {AL : Option Addr} {nL cL : Nat} {AO : Option Addr} {nO cO : Nat} (place : Int) (hp0 : 0 ≤ place) (hpI : place ≤ 65536) (hok : ∀ i, i < R → OkO (opnO f.opens i) (place % (nI e (i + 1) : Int))) (hdr : ∀ i, I64 (dr i))
    (w : World) (hF : FAt w AR nR cR AL nL cL AO nO cO f) (sA : SL w A dl) :
    Calls Tryz.prog 45 #[.agg (RDA q s e 0), .agg #[.slice AR nR cR, .slice AL nL cL, .slice AO nO cO], .slice A R cA, vi place] w fun e' w' => SaysW (.bool (goesO q s e f.opens dr f.last R place)) w e' w' := by
  have hb0 : Below w.heap.size w ((w.alloc (.cells (RDA q s e 0) 30)).alloc (.cells #[.slice AR nR cR, .slice AL nL cL, .slice AO nO cO] 26)) := ((Below.refl _ _).alloc (Nat.le_refl _) _).alloc (by simp) _
  have hB4 := (Blk.new w 30 (RDA q s e 0)).alloc (.cells #[.slice AR nR cR, .slice AL nL cL, .slice AO nO cO] 26)
  have hB5 := Blk.new (w.alloc (.cells (RDA q s e 0) 30)) 26 #[.slice AR nR cR, .slice AL nL cL, .slice AO nO cO]
  rw [show (w.alloc (.cells (RDA q s e 0) 30)).heap.size = w.heap.size + 1 by simp] at hB5
  obtain ⟨W, hW⟩ : ∃ W, W = ((w.alloc (.cells (RDA q s e 0) 30)).alloc (.cells #[.slice AR nR cR, .slice AL nL cL, .slice AO nO cO] 26)) := ⟨_, rfl⟩
  rw [← hW] at hb0 hB4 hB5
  have HW := Lib.hid hW
  have HF := Lib.hid hF
  have HSA := Lib.hid sA
  have HDL := Lib.hid (And.intro hdl hdd)
  have HOK := Lib.hid hok
  have HDR := Lib.hid hdr
  have HSZ := Lib.hid hsz
  have HB0 := Lib.hid hb0
  have HB4 := Lib.hid hB4
  have HB5 := Lib.hid hB5
  clear hW hF sA hdl hdd hok hdr hsz hb0 hB4 hB5
  go_enter Tryz.func45, Tryz.ntmps45
  go_upto_region 1 with (fail)
  rw [← HW.out]
  go_wp2
  go_loopw [3, 9] (fun pv i wr => ∃ (t : Nat) (x : Int), t ≤ R ∧ i = vi t ∧ pv = vi x ∧ 0 ≤ x ∧ x ≤ 65536 ∧ (∀ i, t ≤ i → x % (nI e (i + 1) : Int) = place % (nI e (i + 1) : Int)) ∧ Blk wr w.heap.size 30 (RDA q s e t) ∧ Blk wr (w.heap.size + 1) 26 #[.slice AR nR cR, .slice AL nL cL, .slice AO nO cO] ∧ Below w.heap.size w wr ∧ ∀ u, u < t → isO q s e f.opens dr u place = wantO q s e f.opens f.last R u place) (fun _ i _ => R - (intOf i).toNat)
  case atStart => exact ⟨0, place, Nat.zero_le _, rfl, rfl, hp0, hpI, fun _ _ => rfl, HB4.out, HB5.out, HB0.out, fun u hu => absurd hu (Nat.not_lt_zero _)⟩
  case round =>
    obtain ⟨t, x, ht, rfl, rfl, hx0, hx1, hxm, hD4, hD5, hb, hall⟩ := hrel
    have HALL := Lib.hid hall
    have HB := Lib.hid hb
    have HD5 := Lib.hid hD5
    have HXM := Lib.hid hxm
    clear hall hb hxm
    by_cases hlt : t < R
    · have hok := HOK.out t hlt
      have htO : t < f.opens.length := by omega
      obtain ⟨ao, rfl, hE⟩ := HF.out.tO t htO
      obtain ⟨A0, n0, c0, BR, mR, dR, BN, mN, dN, q0, q1, q2, hop⟩ := (hE.below HB.out).cells
      have i1 : (0 : Int) ≤ (t : Int) := by omega
      have i2 : (t : Int) < (R : Int) := by omega
      have i3 : (t : Int) < (nO : Int) := by have := HF.out.lO; omega
      have hwt : IntKind.i64.wrap ((t : Int) + 1) = (t : Int) + 1 := step_wrap (by omega)
      have hopn : opnO f.opens t = f.opens[t] := by unfold opnO; rw [List.getD_eq_getElem?_getD, List.getElem?_eq_getElem htO, Option.getD_some]
      rw [← hopn] at hop
      obtain ⟨n, hn⟩ : ∃ n, n = nI e t := ⟨_, rfl⟩
      obtain ⟨h, hh⟩ : ∃ h, h = nI e (t + 1) := ⟨_, rfl⟩
      have hn2 : n = 2 * h := by rw [hn, hh]; exact nI_step (by omega)
      have hh1 : 1 ≤ h := by rw [hh]; exact nI_pos _ _
      have hnm : n ≤ 65536 := by rw [hn]; exact nI_le he t
      have hq : wrap64 ((n : Int) / 2) = (h : Int) := half_wrap hn2 hnm
      obtain ⟨hz2, hz1, hz⟩ := nz_of hh1
      have hxt := HXM.out t (Nat.le_refl _)
      rw [← hh] at hok hxt
      obtain ⟨m, hm, hmh⟩ := mod_nat (x := place) hh1
      have htm : x.tmod (h : Int) = (m : Int) := by rw [Int.tmod_eq_emod_of_nonneg hx0, hxt, hm]
      rw [hm] at hok
      obtain ⟨j, hj, hjr, hjx, hjno, hrow, hlen2⟩ := hok.find
      have hrw := fun W' (hb' : Below w.heap.size w W') (hbw : Below wr.heap.size wr W') => rrow5_any A0 n0 c0 (opnO f.opens t).l hop.l0 hop.b0 BR mR dR (opnO f.opens t).rs hop.lR (.slice BN mN dN) (m : Int) j hj hjr hjx hjno W' (hop.s0.below hbw) (hop.tR.below hbw)
      obtain ⟨y0, y1, hyy⟩ := two_of hlen2
      rw [hyy] at hrw
      have HRW := Lib.hid hrw
      have HN := Lib.hid (And.intro hn (And.intro hh (And.intro hn2 (And.intro hh1 hnm))))
      have HM := Lib.hid (And.intro hm hmh)
      have HH5 : Hid (h ≤ 65536) := Lib.hid (by rw [hh]; exact nI_le he _)
      have HM5 : Hid ((m : Int) ≤ 65536) := Lib.hid (Int.ofNat_le.2 (Nat.le_trans (Nat.le_of_lt hmh) (by rw [hh]; exact nI_le he _)))
      have HROW : Hid (rowO (opnO f.opens t) (m : Int) = [y0, y1]) := Lib.hid (by rw [hrow, hyy])
      have d0 := (hD4.cell 0).trans (show _ = some (vi (q : Int)) from rfl)
      have d1 := (hD4.cell 1).trans (show _ = some (vi ((nI e t : Nat) : Int)) from rfl)
      rw [← hn] at d1
      have f2 := (hD5.cell 2).trans (show _ = some (.slice (some ao) nO cO) from rfl)
      have HD4 := Lib.hid hD4
      clear hrw hE hop hn hh hn2 hh1 hnm hxt hm hmh hok hj hjr hjx hjno hrow hlen2 hyy hopn hD4 hD5 hx0 hx1
      go_wp2_with fail
      refine (HRW.out wr HB.out (Below.refl _ _)).mono ?_
      rintro _ w4 ⟨A1, n1, c1, rfl, hl1, hn1, hs1, hi1, hb4⟩
      obtain rfl : n1 = 2 := hl1.symm
      obtain ⟨ad1, rfl, _, hc0⟩ := hs1.at_ (k := 0) (by simp)
      obtain ⟨ad1', hade, _, hc1⟩ := hs1.at_ (k := 1) (by simp)
      injection hade with hade
      subst hade
      simp only [List.getElem_cons_zero, List.getElem_cons_succ] at hc0 hc1
      have hc0' : w4.cell? ad1 = some (vi y0) := by rw [← hc0]; simp [Addr.add]
      have hc1' : w4.cell? ⟨ad1.block, ad1.off + 1, none⟩ = some (vi y1) := by rw [← hc1]; simp [Addr.add]
      have hx := hi1 y0 (by simp)
      have hy := hi1 y1 (by simp)
      have HBB4 := Lib.hid (HB.out.trans (hb4.mono HB.out.size))
      have htd : t < dl.length := by rw [HDL.out.1]; exact hlt
      obtain ⟨ad2, rfl, _, hcd⟩ := (HSA.out.below HBB4.out).at_ htd
      rw [HDL.out.2 t htd] at hcd
      have hD44 := Blk.below HD4.out hb4 HD4.out.lt
      have HD54 := Lib.hid (Blk.below HD5.out hb4 HD5.out.lt)
      have HD44 := Lib.hid hD44
      have HPAIR : Hid (∀ W', Calls Tryz.prog 92 #[.agg (RDA q s e t), vi (m : Int), vi y0, vi y1, vi (dr t)] W' (SaysW (vi (fv (isO q s e f.opens dr t place))) W')) := Lib.hid fun W' => by
        have h1 := rpair_any q hq2 hqm (nI e t) m (by have := HM.out.2; have := HN.out; omega) (sqI s t) (rootI q ((nI e t : Nat) : Int)) y0 y1 (dr t) hx hy (HDR.out t) W'
        have ev : isO q s e f.opens dr t place = foldE (el q y0) (el q y1) (el q (dr t)) (sqI s t * pw (rootI q ((nI e t : Nat) : Int)) m) := by
          unfold isO
          simp only
          rw [← HN.out.2.1, HM.out.1, HROW.out]
          rfl
        rw [ev]
        exact h1
      have HHALF : Hid (∀ W', Calls Tryz.prog 63 #[.agg (RDA q s e t)] W' (GivesV (.agg (RDA q s e (t + 1))) W')) := Lib.hid fun W' => by
        have h1 := rhalf_any q hqm (nI e t) (nI e (t + 1)) (nI_step (by omega)) (nI_le he t) (sqI s t) (rootI q ((nI e t : Nat) : Int)) W'
        have hdv : 2 * nI e (t + 1) ∣ q - 1 := by
          rw [← nI_step (show t < e by omega)]
          exact Nat.dvd_trans (by unfold nI; exact Nat.pow_dvd_pow 2 (by omega)) HSZ.out.2
        rw [show rootI q ((nI e t : Nat) : Int) * rootI q ((nI e t : Nat) : Int) = rootI q ((nI e (t + 1) : Nat) : Int) by rw [nI_step (show t < e by omega)]; exact (rootI_half (nI_pos _ _) hdv (by omega)).symm] at h1
        exact h1
      have KS : Hid (∀ W', Below w4.heap.size w4 W' → W'.cell? ⟨w.heap.size, 0, none⟩ = some (vi (q : Int)) ∧ W'.cell? ⟨w.heap.size, 1, none⟩ = some (vi ((nI e t : Nat) : Int)) ∧ W'.cell? ⟨w.heap.size, 2, none⟩ = some (vi (fv (sqI s t))) ∧ W'.cell? ⟨w.heap.size, 3, none⟩ = some (vi (fv (rootI q ((nI e t : Nat) : Int)))) ∧ W'.cell? ad1 = some (vi y0) ∧ W'.cell? ⟨ad1.block, ad1.off + 1, none⟩ = some (vi y1) ∧ W'.cell? (ad2.add t) = some (vi (dr t))) := Lib.hid fun W' hb => by
        have hd := Blk.below hD44 hb hD44.lt
        exact ⟨(hd.cell 0).trans rfl, (hd.cell 1).trans rfl, (hd.cell 2).trans rfl, (hd.cell 3).trans rfl, (hb.cell (block_lt_of_cell hc0')).trans hc0', (hb.cell (block_lt_of_cell hc1')).trans hc1', (hb.cell (block_lt_of_cell hcd)).trans hcd⟩
      have hb44 : Below w4.heap.size w4 w4.drew := below_drewN (Below.refl _ _) 1
      clear hb4 hs1 hi1 hl1 hn1 hx hy htd d0 d1 f2 hD44 q0 q1 q2 hc0 hc0' hc1 hc1' hcd
      go_wp2_with fail
      refine wp_region_held_drew (S := fun W' => W'.cell? ⟨w.heap.size, 0, none⟩ = some (vi (q : Int)) ∧ W'.cell? ⟨w.heap.size, 1, none⟩ = some (vi ((nI e t : Nat) : Int)) ∧ W'.cell? ⟨w.heap.size, 2, none⟩ = some (vi (fv (sqI s t))) ∧ W'.cell? ⟨w.heap.size, 3, none⟩ = some (vi (fv (rootI q ((nI e t : Nat) : Int)))) ∧ W'.cell? ad1 = some (vi y0) ∧ W'.cell? ⟨ad1.block, ad1.off + 1, none⟩ = some (vi y1) ∧ W'.cell? (ad2.add t) = some (vi (dr t))) (by kernel_rfl) (KS.out _ hb44) (fun hHeld => ?_)
      refine wpAnyH_take_at (i := 0) rfl rfl (by kernel_rfl) (by kernel_rfl) (by kernel_rfl) (fun _ _ _ h => h) (Or.inl ⟨by rfl, by (intro w hSw; (try dsimp only at hSw); go_simp; try with_reducible rfl)⟩) (by assumption) ?_
      (try simp only [Act.put, List.setIfInBounds_toArray, List.set_cons_zero, List.set_cons_succ])
      refine wpAnyH_take_at (i := 1) rfl rfl (by kernel_rfl) (by kernel_rfl) (by kernel_rfl) (fun _ _ _ h => h) (Or.inl ⟨by rfl, by (intro w hSw; (try dsimp only at hSw); go_simp; try with_reducible rfl)⟩) (by assumption) ?_
      (try simp only [Act.put, List.setIfInBounds_toArray, List.set_cons_zero, List.set_cons_succ])
      refine wpAnyH_take_at (i := 2) rfl rfl (by kernel_rfl) (by kernel_rfl) (by kernel_rfl) (fun _ _ _ h => h) (Or.inl ⟨by rfl, by (intro w hSw; (try dsimp only at hSw); go_simp; try with_reducible rfl)⟩) (by assumption) ?_
      (try simp only [Act.put, List.setIfInBounds_toArray, List.set_cons_zero, List.set_cons_succ])
      refine wpAnyH_take_at (i := 3) rfl rfl (by kernel_rfl) (by kernel_rfl) (by kernel_rfl) (fun _ _ _ h => h) (Or.inl ⟨by rfl, by (intro w hSw; (try dsimp only at hSw); go_simp; try with_reducible rfl)⟩) (by assumption) ?_
      (try simp only [Act.put, List.setIfInBounds_toArray, List.set_cons_zero, List.set_cons_succ])
      refine wpAnyH_take_at (i := 4) rfl rfl (by kernel_rfl) (by kernel_rfl) (by kernel_rfl) (fun _ _ _ h => h) (Or.inl ⟨by rfl, by (intro w hSw; (try dsimp only at hSw); go_simp; try with_reducible rfl)⟩) (by assumption) ?_
      (try simp only [Act.put, List.setIfInBounds_toArray, List.set_cons_zero, List.set_cons_succ])
      refine wpAnyH_take_at (i := 5) rfl rfl (by kernel_rfl) (by kernel_rfl) (by kernel_rfl) (fun _ _ _ h => h) (Or.inl ⟨by rfl, by (intro w hSw; (try dsimp only at hSw); go_simp; try with_reducible rfl)⟩) (by assumption) ?_
      (try simp only [Act.put, List.setIfInBounds_toArray, List.set_cons_zero, List.set_cons_succ])
      refine wpAnyH_take_at (i := 6) rfl rfl (by kernel_rfl) (by kernel_rfl) (by kernel_rfl) (fun _ _ _ h => h) (Or.inl ⟨by rfl, by (intro w hSw; (try dsimp only at hSw); go_simp; try with_reducible rfl)⟩) (by assumption) ?_
      (try simp only [Act.put, List.setIfInBounds_toArray, List.set_cons_zero, List.set_cons_succ])
      refine wpAnyH_take_at (i := 7) rfl rfl (by kernel_rfl) (by kernel_rfl) (by kernel_rfl) (fun _ _ _ h => h) (Or.inl ⟨by rfl, by (intro w hSw; (try dsimp only at hSw); go_simp; try with_reducible rfl)⟩) (by assumption) ?_
      (try simp only [Act.put, List.setIfInBounds_toArray, List.set_cons_zero, List.set_cons_succ])
      refine wpAnyH_take_at (i := 8) rfl rfl (by kernel_rfl) (by kernel_rfl) (by kernel_rfl) (fun _ _ _ h => h) (Or.inl ⟨by rfl, by (intro w hSw; (try dsimp only at hSw); go_simp; try with_reducible rfl)⟩) (by assumption) ?_
      (try simp only [Act.put, List.setIfInBounds_toArray, List.set_cons_zero, List.set_cons_succ])
      refine wpAnyH_take_at (i := 9) rfl rfl (by kernel_rfl) (by kernel_rfl) (by kernel_rfl) (fun _ _ _ h => h) (Or.inl ⟨by rfl, by (intro w hSw; (try dsimp only at hSw); go_simp; try with_reducible rfl)⟩) (by assumption) ?_
      (try simp only [Act.put, List.setIfInBounds_toArray, List.set_cons_zero, List.set_cons_succ])
      refine wpAnyH_take_at (i := 10) rfl rfl (by kernel_rfl) (by kernel_rfl) (by kernel_rfl) (fun _ _ _ h => h) (Or.inl ⟨by rfl, by (intro w hSw; (try dsimp only at hSw); go_simp; try with_reducible rfl)⟩) (by assumption) ?_
      (try simp only [Act.put, List.setIfInBounds_toArray, List.set_cons_zero, List.set_cons_succ])
      refine wpAnyH_take_at (i := 11) rfl rfl (by kernel_rfl) (by kernel_rfl) (by kernel_rfl) (fun _ _ _ h => h) (Or.inl ⟨by rfl, by (intro w hSw; (try dsimp only at hSw); go_simp; try with_reducible rfl)⟩) (by assumption) ?_
      (try simp only [Act.put, List.setIfInBounds_toArray, List.set_cons_zero, List.set_cons_succ])
      refine wpAnyH_ready (rs := [12]) (by kernel_rfl) (by simp) ?_
      refine AllReadyH.cons rfl (fun K hK => ?_) AllReadyH.nil
      go_simp
      refine (HPAIR.out _).mono ?_
      rintro _ w5 ⟨rfl, hb5'⟩
      have hb5 : Below w4.heap.size w4 w5 := hb44.trans (hb5'.mono hb44.size)
      refine hK.out _ _ (by (first | exact KS.out _ (by assumption) | (simp only [Act.put]; exact KS.out _ (by assumption)))) (fun hHeld => ?_)
      clear hK K
      (try simp only [Act.put, List.setIfInBounds_toArray, List.set_cons_zero, List.set_cons_succ])
      refine wpAnyH_ready (rs := [13]) (by kernel_rfl) (by simp) ?_
      refine AllReadyH.cons rfl (fun K hK => ?_) AllReadyH.nil
      go_simp
      refine hK.out _ _ (KS.out _ hb5) (fun hHeld => ?_)
      clear hK K
      (try simp only [Act.put, List.setIfInBounds_toArray, List.set_cons_zero, List.set_cons_succ])
      refine wpAnyH_done (by kernel_rfl) ?_ _
      clear hHeld KS hb44 hb5'
      have hD55 := Blk.below HD44.out hb5 HD44.out.lt
      have HD55 := Lib.hid (Blk.below HD54.out hb5 HD54.out.lt)
      have HBB5 := Lib.hid (HBB4.out.trans (hb5.mono HBB4.out.size))
      have HD45 := Lib.hid hD55
      clear hb5
      have d0 := (hD55.cell 0).trans (show _ = some (vi (q : Int)) from rfl)
      have d1 := (hD55.cell 1).trans (show _ = some (vi ((nI e t : Nat) : Int)) from rfl)
      have d2 := (hD55.cell 2).trans (show _ = some (vi (fv (sqI s t))) from rfl)
      have d3 := (hD55.cell 3).trans (show _ = some (vi (fv (rootI q ((nI e t : Nat) : Int)))) from rfl)
      clear hD55
      go_wp2_with fail
      refine (HHALF.out _).mono ?_
      rintro _ w6 ⟨rfl, hb6⟩
      have hD66 := Blk.below HD45.out hb6 HD45.out.lt
      have HD56 := Lib.hid (Blk.below HD55.out hb6 HD55.out.lt)
      have HBB6 := Lib.hid (HBB5.out.trans (hb6.mono HBB5.out.size))
      clear hb6 d0 d1 d2 d3
      have d0 := (hD66.cell 0).trans (show _ = some (vi (q : Int)) from rfl)
      have d1 := (hD66.cell 1).trans (show _ = some (vi ((nI e t : Nat) : Int)) from rfl)
      have d2 := (hD66.cell 2).trans (show _ = some (vi (fv (sqI s t))) from rfl)
      have d3 := (hD66.cell 3).trans (show _ = some (vi (fv (rootI q ((nI e t : Nat) : Int)))) from rfl)
      have z0 := hD66.frozen 0
      have z1 := hD66.frozen 1
      have z2 := hD66.frozen 2
      have z3 := hD66.frozen 3
      obtain ⟨hset, hgr⟩ := blk_set4 hD66 (vi (q : Int)) (vi ((nI e (t + 1) : Nat) : Int)) (vi (fv (sqI s (t + 1)))) (vi (fv (rootI q ((nI e (t + 1) : Nat) : Int))))
      obtain ⟨w7, hw7⟩ : ∃ w7, w7 = (((w6.setCell ⟨w.heap.size, 0, none⟩ (vi (q : Int))).setCell ⟨w.heap.size, 1, none⟩ (vi ((nI e (t + 1) : Nat) : Int))).setCell ⟨w.heap.size, 2, none⟩ (vi (fv (sqI s (t + 1))))).setCell ⟨w.heap.size, 3, none⟩ (vi (fv (rootI q ((nI e (t + 1) : Nat) : Int)))) := ⟨_, rfl⟩
      rw [← hw7] at hset hgr
      have HW7 := Lib.hid hw7
      have HD47 := Lib.hid hset
      have HD57 := Lib.hid (Blk.grown HD56.out hgr (fun h => by injection h with h; omega))
      have HBB7 := Lib.hid (HBB6.out.grown hgr HBB6.out.size (fun x hx => by injection hx with hx; rw [← hx]; exact Nat.le_refl _))
      clear hw7 hset hgr hD66
      go_upto_region 8 with (fail)
      rw [← HW7.out]
      clear d0 d1 d2 d3 z0 z1 z2 z3
      have hvv : ∃ vv, vv = isO q s e f.opens dr t place := ⟨_, rfl⟩
      obtain ⟨vv, hvv⟩ := hvv
      rw [← hvv]
      have HVV := Lib.hid hvv
      clear hvv
      have d0 := (HD47.out.cell 0).trans (show _ = some (vi (q : Int)) from rfl)
      have d1 := (HD47.out.cell 1).trans (show _ = some (vi ((nI e (t + 1) : Nat) : Int)) from rfl)
      have d2 := (HD47.out.cell 2).trans (show _ = some (vi (fv (sqI s (t + 1)))) from rfl)
      have d3 := (HD47.out.cell 3).trans (show _ = some (vi (fv (rootI q ((nI e (t + 1) : Nat) : Int)))) from rfl)
      by_cases hlast : t + 1 = R
      · have te : decide (((t : Int) + 1) < (R : Int)) = false := decide_eq_false (by omega)
        obtain ⟨u2, hu2⟩ : ∃ u2, u2 = ev (els q f.last) (sqI s R * pw (rootI q ((nI e R : Nat) : Int)) m) := ⟨_, rfl⟩
        have hwv : wantO q s e f.opens f.last R t place = u2 := by
          unfold wantO
          simp only
          rw [if_pos hlast, ← HN.out.2.1, HM.out.1, hu2]
          rfl
        have HPT : Hid (∀ W', Calls Tryz.prog 93 #[.agg (RDA q s e (t + 1)), vi (m : Int)] W' (SaysW (vi (fv (sqI s R * pw (rootI q ((nI e R : Nat) : Int)) m))) W')) := Lib.hid fun W' => by
          have h1 := rpoint_any q hq2 hqm (nI e (t + 1)) m (by have := HM.out.2; have := HN.out; omega) (sqI s (t + 1)) (rootI q ((nI e (t + 1) : Nat) : Int)) W'
          rw [hlast] at h1 ⊢
          exact h1
        have HEV : Hid (∀ W', Below w.heap.size w W' → Calls Tryz.prog 94 #[vi (q : Int), .slice AL nL cL, vi (fv (sqI s R * pw (rootI q ((nI e R : Nat) : Int)) m))] W' fun e' w' => e' = .returned (vi (fv u2)) ∧ W' = w') := Lib.hid fun W' hb' => by
          have h1 := reval_n q hq2 hqm AL nL cL f.last HF.out.lL HF.out.iL (by have := HF.out.bL; omega) (fv (sqI s R * pw (rootI q ((nI e R : Nat) : Int)) m)) (i64_fv _ hqm) W' (HF.out.sL.below hb')
          rw [el_fv] at h1
          rw [hu2]
          exact h1
        have HALL2 : Hid (vv = u2 → ∀ u, u < t + 1 → isO q s e f.opens dr u place = wantO q s e f.opens f.last R u place) := Lib.hid fun h u hu => by
          by_cases hut : u < t
          · exact HALL.out u hut
          · obtain rfl : u = t := by omega
            rw [hwv, ← HVV.out]; exact h
        have HGF : Hid (vv ≠ u2 → goesO q s e f.opens dr f.last R place = false) := Lib.hid fun h => goesO_false hlt (by rw [hwv, ← HVV.out]; exact h)
        have HXMR : Hid (∀ i, t + 1 ≤ i → (m : Int) % (nI e (i + 1) : Int) = place % (nI e (i + 1) : Int)) := Lib.hid fun i hi => by
          rw [← HM.out.1, HN.out.2.1]
          exact Int.emod_emod_of_dvd _ (by
            have : nI e (i + 1) ∣ nI e (t + 1) := by unfold nI; exact Nat.pow_dvd_pow 2 (by omega)
            exact Int.natCast_dvd_natCast.2 this)
        clear hu2 hwv hlast
        by_cases hv : vv = u2
        · have tv : (fv vv != fv u2) = false := by rw [hv]; simp
          have HA := Lib.hid (HALL2.out hv)
          clear hv
          go_wp2_with fail
          refine (HPT.out _).mono ?_
          rintro _ w8 ⟨rfl, hb8⟩
          have hD8 := Blk.below HD47.out hb8 HD47.out.lt
          have hD9 := Blk.below HD57.out hb8 HD57.out.lt
          have HBB8 := Lib.hid (HBB7.out.trans (hb8.mono HBB7.out.size))
          have HD48 := Lib.hid hD8
          have HD58 := Lib.hid hD9
          clear hb8 d0 d1 d2 d3
          have d0 := (hD8.cell 0).trans (show _ = some (vi (q : Int)) from rfl)
          have f1 := (hD9.cell 1).trans (show _ = some (.slice AL nL cL) from rfl)
          clear hD8 hD9
          go_wp2_with fail
          refine (HEV.out _ HBB8.out).mono ?_
          rintro _ _ ⟨rfl, rfl⟩
          go_wp2
          go_roundw
          case rel => exact ⟨t + 1, (m : Int), Nat.succ_le_of_lt hlt, by go_num, rfl, Int.natCast_nonneg m, HM5.out, HXMR.out, HD48.out, HD58.out, HBB8.out, HA.out⟩
          case measure => simp [intOf]; omega
        · have tv : (fv vv != fv u2) = true := by rw [bne_iff_ne]; exact fun h => hv (fv_inj h)
          have HG := Lib.hid (HGF.out hv)
          clear hv
          go_wp2_with fail
          refine (HPT.out _).mono ?_
          rintro _ w8 ⟨rfl, hb8⟩
          have hD8 := Blk.below HD47.out hb8 HD47.out.lt
          have hD9 := Blk.below HD57.out hb8 HD57.out.lt
          have HBB8 := Lib.hid (HBB7.out.trans (hb8.mono HBB7.out.size))
          have HD48 := Lib.hid hD8
          have HD58 := Lib.hid hD9
          clear hb8 d0 d1 d2 d3
          have d0 := (hD8.cell 0).trans (show _ = some (vi (q : Int)) from rfl)
          have f1 := (hD9.cell 1).trans (show _ = some (.slice AL nL cL) from rfl)
          clear hD8 hD9
          go_wp2_with fail
          refine (HEV.out _ HBB8.out).mono ?_
          rintro _ _ ⟨rfl, rfl⟩
          go_wp2
          go_ret
          exact ⟨ret_bool HG.out.symm, HBB8.out⟩
      · have te : decide (((t : Int) + 1) < (R : Int)) = true := decide_eq_true (by omega)
        have hlt1 : t + 1 < R := Nat.lt_of_le_of_ne (Nat.succ_le_of_lt hlt) hlast
        have htO1 : t + 1 < f.opens.length := Nat.lt_of_lt_of_le hlt1 hRO
        obtain ⟨ao', hade, hE'⟩ := HF.out.tO (t + 1) htO1
        injection hade with hade
        subst hade
        have hopn : opnO f.opens (t + 1) = f.opens[t + 1] := by unfold opnO; rw [List.getD_eq_getElem?_getD, List.getElem?_eq_getElem htO1, Option.getD_some]
        obtain ⟨B0, m0, d0', CR, mR', dR', CN, mN', dN', q0, q1, q2, hop'⟩ := (hE'.below HBB7.out).cells
        rw [← hopn] at hop'
        have hok := HOK.out (t + 1) hlt1
        obtain ⟨h2, hh2⟩ : ∃ h2, h2 = nI e (t + 1 + 1) := ⟨_, rfl⟩
        have hhn : h = 2 * h2 := by rw [HN.out.2.1, hh2]; exact nI_step (by omega)
        have hh21 : 1 ≤ h2 := by rw [hh2]; exact nI_pos _ _
        rw [← hh2] at hok
        obtain ⟨m2, hm2⟩ : ∃ m2, m2 = m % h2 := ⟨_, rfl⟩
        obtain ⟨d2', hd2⟩ : ∃ d2, d2 = m / h2 := ⟨_, rfl⟩
        have hmm : place % (h2 : Int) = (m2 : Int) := by
          rw [hm2, Int.natCast_emod, ← HM.out.1, hhn, Int.emod_emod_of_dvd]
          exact ⟨2, by rw [Int.natCast_mul]; exact Int.mul_comm _ _⟩
        rw [hmm] at hok
        obtain ⟨j, hj, hjr, hjx, hjno, hrow, hlen2⟩ := hok.find
        obtain ⟨u0, u1, hu⟩ := two_of hlen2
        have hd22 : d2' < 2 := by rw [hd2]; exact Nat.div_lt_of_lt_mul (by rw [Nat.mul_comm, ← hhn]; exact HM.out.2)
        obtain ⟨y2, hy2⟩ : ∃ y2, y2 = [u0, u1].getD d2' 0 := ⟨_, rfl⟩
        have hwv : wantO q s e f.opens f.last R t place = el q y2 := by
          unfold wantO
          simp only
          rw [if_neg hlast, ← HN.out.2.1, HM.out.1, ← hh2]
          rw [show (m : Int) % (h2 : Int) = (m2 : Int) by rw [hm2, Int.natCast_emod], show ((m : Int) / (h2 : Int)).toNat = d2' by rw [hd2, ← Int.natCast_ediv, Int.toNat_natCast], hrow, hu, hy2]
        have hm2l : m2 < h2 := by rw [hm2]; exact Nat.mod_lt _ hh21
        have HRW2 : Hid (∀ W', Below w7.heap.size w7 W' → Calls Tryz.prog 91 #[.agg #[.slice B0 m0 d0', .slice CR mR' dR', .slice CN mN' dN'], vi (m2 : Int)] W' (RowIs [u0, u1] W')) := Lib.hid fun W' hb => by
          have h1 := rrow5_any B0 m0 d0' (opnO f.opens (t + 1)).l hop'.l0 hop'.b0 CR mR' dR' (opnO f.opens (t + 1)).rs hop'.lR (.slice CN mN' dN') (m2 : Int) j hj hjr hjx hjno W' (hop'.s0.below hb) (hop'.tR.below hb)
          rw [hu] at h1
          exact h1
        have hq2' : wrap64 ((h : Int) / 2) = (h2 : Int) := half_wrap hhn HH5.out
        have hq3' : IntKind.i64.wrap ((h : Int) / 2) = (h2 : Int) := half_wrap' hhn HH5.out
        have htm2 : (m : Int).tmod (h2 : Int) = (m2 : Int) := by rw [Int.tmod_eq_emod_of_nonneg (Int.natCast_nonneg m), hm2, Int.natCast_emod]
        have htd2 : (m : Int).tdiv (h2 : Int) = (d2' : Int) := by rw [Int.tdiv_eq_ediv_of_nonneg (Int.natCast_nonneg m), hd2, Int.natCast_ediv]
        have htd3 : (m : Int) / (h2 : Int) = (d2' : Int) := by rw [hd2, Int.natCast_ediv]
        obtain ⟨hz5, hz4, hz3⟩ := nz_of hh21
        obtain ⟨htw, htw2, j1, j2⟩ := lt_two hd22
        obtain ⟨k1, k2, hto⟩ := step_lt hlt1
        have k3 : (t : Int) + 1 < (nO : Int) := by rw [← HF.out.lO]; exact_mod_cast htO1
        have HD22 := Lib.hid (show d2' < [u0, u1].length from hd22)
        have HYV : Hid ([u0, u1][d2']'HD22.out = y2) := Lib.hid (by rw [hy2, List.getD_eq_getElem?_getD, List.getElem?_eq_getElem HD22.out, Option.getD_some])
        have HALL2 : Hid (vv = el q y2 → ∀ u, u < t + 1 → isO q s e f.opens dr u place = wantO q s e f.opens f.last R u place) := Lib.hid fun h u hu => by
          by_cases hut : u < t
          · exact HALL.out u hut
          · obtain rfl : u = t := by omega
            rw [hwv, ← HVV.out]; exact h
        have HGF : Hid (vv ≠ el q y2 → goesO q s e f.opens dr f.last R place = false) := Lib.hid fun h => goesO_false hlt (by rw [hwv, ← HVV.out]; exact h)
        have HXMR : Hid (∀ i, t + 1 ≤ i → (m : Int) % (nI e (i + 1) : Int) = place % (nI e (i + 1) : Int)) := Lib.hid fun i hi => by
          rw [← HM.out.1, HN.out.2.1]
          exact Int.emod_emod_of_dvd _ (by
            have : nI e (i + 1) ∣ nI e (t + 1) := by unfold nI; exact Nat.pow_dvd_pow 2 (Nat.sub_le_sub_left (Nat.succ_le_succ hi |> Nat.le_of_succ_le) e)
            exact Int.natCast_dvd_natCast.2 this)
        rw [← HN.out.2.1] at d1
        have f2 := (HD57.out.cell 2).trans (show _ = some (.slice (some ao) nO cO) from rfl)
        have KS : Hid (∀ W', Below w7.heap.size w7 W' → W'.cell? ⟨w.heap.size, 1, none⟩ = some (vi (h : Int)) ∧ W'.cell? ⟨w.heap.size + 1, 2, none⟩ = some (.slice (some ao) nO cO) ∧ W'.cell? (ao.add ((t + 1) * 3)) = some (.slice B0 m0 d0') ∧ W'.cell? ⟨(ao.add ((t + 1) * 3)).block, (ao.add ((t + 1) * 3)).off + 1, none⟩ = some (.slice CR mR' dR') ∧ W'.cell? ⟨(ao.add ((t + 1) * 3)).block, (ao.add ((t + 1) * 3)).off + 2, none⟩ = some (.slice CN mN' dN')) := Lib.hid fun W' hb =>
          ⟨(hb.cell (block_lt_of_cell d1)).trans d1, (hb.cell (block_lt_of_cell f2)).trans f2, (hb.cell (block_lt_of_cell q0)).trans q0, (hb.cell (block_lt_of_cell q1)).trans q1, (hb.cell (block_lt_of_cell q2)).trans q2⟩
        have hb77 : Below w7.heap.size w7 w7.drew := below_drewN (Below.refl _ _) 1
        clear hm2 hd2 hmm hrow hlen2 hu hwv hy2 hE' hop' hok hj hjr hjx hjno hh2 hhn hh21 hm2l hd22 hopn htO1 d0 d1 d2 d3 f2 q0 q1 q2 hlast
        go_wp2_with fail
        refine wp_region_held_drew (S := fun W' => W'.cell? ⟨w.heap.size, 1, none⟩ = some (vi (h : Int)) ∧ W'.cell? ⟨w.heap.size + 1, 2, none⟩ = some (.slice (some ao) nO cO) ∧ W'.cell? (ao.add ((t + 1) * 3)) = some (.slice B0 m0 d0') ∧ W'.cell? ⟨(ao.add ((t + 1) * 3)).block, (ao.add ((t + 1) * 3)).off + 1, none⟩ = some (.slice CR mR' dR') ∧ W'.cell? ⟨(ao.add ((t + 1) * 3)).block, (ao.add ((t + 1) * 3)).off + 2, none⟩ = some (.slice CN mN' dN')) (by kernel_rfl) (KS.out _ hb77) (fun hHeld => ?_)
        refine wpAnyH_take_at (i := 0) rfl rfl (by kernel_rfl) (by kernel_rfl) (by kernel_rfl) (fun _ _ _ h => h) (Or.inl ⟨by rfl, by (intro w hSw; (try dsimp only at hSw); go_simp; try with_reducible rfl)⟩) (by assumption) ?_
        (try simp only [Act.put, List.setIfInBounds_toArray, List.set_cons_zero, List.set_cons_succ])
        refine wpAnyH_take_at (i := 1) rfl rfl (by kernel_rfl) (by kernel_rfl) (by kernel_rfl) (fun _ _ _ h => h) (Or.inl ⟨by rfl, by (intro w hSw; (try dsimp only at hSw); go_simp; try with_reducible rfl)⟩) (by assumption) ?_
        (try simp only [Act.put, List.setIfInBounds_toArray, List.set_cons_zero, List.set_cons_succ])
        refine wpAnyH_take_at (i := 2) rfl rfl (by kernel_rfl) (by kernel_rfl) (by kernel_rfl) (fun _ _ _ h => h) (Or.inl ⟨by rfl, by (intro w hSw; (try dsimp only at hSw); go_simp; try with_reducible rfl)⟩) (by assumption) ?_
        (try simp only [Act.put, List.setIfInBounds_toArray, List.set_cons_zero, List.set_cons_succ])
        refine wpAnyH_take_at (i := 3) rfl rfl (by kernel_rfl) (by kernel_rfl) (by kernel_rfl) (fun _ _ _ h => h) (Or.inl ⟨by rfl, by (intro w hSw; (try dsimp only at hSw); go_simp; try with_reducible rfl)⟩) (by assumption) ?_
        (try simp only [Act.put, List.setIfInBounds_toArray, List.set_cons_zero, List.set_cons_succ])
        refine wpAnyH_take_at (i := 4) rfl rfl (by kernel_rfl) (by kernel_rfl) (by kernel_rfl) (fun _ _ _ h => h) (Or.inl ⟨by rfl, by (intro w hSw; (try dsimp only at hSw); go_simp; try with_reducible rfl)⟩) (by assumption) ?_
        (try simp only [Act.put, List.setIfInBounds_toArray, List.set_cons_zero, List.set_cons_succ])
        refine wpAnyH_take_at (i := 5) rfl rfl (by kernel_rfl) (by kernel_rfl) (by kernel_rfl) (fun _ _ _ h => h) (Or.inl ⟨by rfl, by (intro w hSw; (try dsimp only at hSw); go_simp; try with_reducible rfl)⟩) (by assumption) ?_
        (try simp only [Act.put, List.setIfInBounds_toArray, List.set_cons_zero, List.set_cons_succ])
        refine wpAnyH_take_at (i := 6) rfl rfl (by kernel_rfl) (by kernel_rfl) (by kernel_rfl) (fun _ _ _ h => h) (Or.inl ⟨by rfl, by (intro w hSw; (try dsimp only at hSw); go_simp; try with_reducible rfl)⟩) (by assumption) ?_
        (try simp only [Act.put, List.setIfInBounds_toArray, List.set_cons_zero, List.set_cons_succ])
        refine wpAnyH_take_at (i := 7) rfl rfl (by kernel_rfl) (by kernel_rfl) (by kernel_rfl) (fun _ _ _ h => h) (Or.inl ⟨by rfl, by (intro w hSw; (try dsimp only at hSw); go_simp; try with_reducible rfl)⟩) (by assumption) ?_
        (try simp only [Act.put, List.setIfInBounds_toArray, List.set_cons_zero, List.set_cons_succ])
        refine wpAnyH_take_at (i := 8) rfl rfl (by kernel_rfl) (by kernel_rfl) (by kernel_rfl) (fun _ _ _ h => h) (Or.inl ⟨by rfl, by (intro w hSw; (try dsimp only at hSw); go_simp; try with_reducible rfl)⟩) (by assumption) ?_
        (try simp only [Act.put, List.setIfInBounds_toArray, List.set_cons_zero, List.set_cons_succ])
        refine wpAnyH_take_at (i := 9) rfl rfl (by kernel_rfl) (by kernel_rfl) (by kernel_rfl) (fun _ _ _ h => h) (Or.inl ⟨by rfl, by (intro w hSw; (try dsimp only at hSw); go_simp; try with_reducible rfl)⟩) (by assumption) ?_
        (try simp only [Act.put, List.setIfInBounds_toArray, List.set_cons_zero, List.set_cons_succ])
        refine wpAnyH_take_at (i := 10) rfl rfl (by kernel_rfl) (by kernel_rfl) (by kernel_rfl) (fun _ _ _ h => h) (Or.inl ⟨by rfl, by (intro w hSw; (try dsimp only at hSw); go_simp; try with_reducible rfl)⟩) (by assumption) ?_
        (try simp only [Act.put, List.setIfInBounds_toArray, List.set_cons_zero, List.set_cons_succ])
        refine wpAnyH_ready (rs := [11]) (by kernel_rfl) (by simp) ?_
        refine AllReadyH.cons rfl (fun K hK => ?_) AllReadyH.nil
        go_simp
        refine (HRW2.out _ hb77).mono ?_
        rintro _ w9 ⟨A9, n9, c9, rfl, hl9, hn9, hs9, hi9, hb9'⟩
        have hb9 : Below w7.heap.size w7 w9 := hb77.trans (hb9'.mono hb77.size)
        obtain rfl : n9 = 2 := hl9.symm
        obtain ⟨ad9, rfl, _, hcy⟩ := hs9.at_ HD22.out
        rw [HYV.out] at hcy
        have hi9y : I64 y2 := (by rw [← HYV.out]; exact hi9 _ (List.getElem_mem HD22.out))
        refine hK.out _ _ (by (first | exact KS.out _ (by assumption) | (simp only [Act.put]; exact KS.out _ (by assumption)))) (fun hHeld => ?_)
        clear hK K
        (try simp only [Act.put, List.setIfInBounds_toArray, List.set_cons_zero, List.set_cons_succ])
        refine wpAnyH_ready (rs := [12]) (by kernel_rfl) (by simp) ?_
        refine AllReadyH.cons rfl (fun K hK => ?_) AllReadyH.nil
        go_simp
        refine hK.out _ _ (KS.out _ hb9) (fun hHeld => ?_)
        clear hK K
        (try simp only [Act.put, List.setIfInBounds_toArray, List.set_cons_zero, List.set_cons_succ])
        refine wpAnyH_done (by kernel_rfl) ?_ _
        have hD9 := Blk.below HD47.out hb9 HD47.out.lt
        have HD49 := Lib.hid hD9
        have HD59 := Lib.hid (Blk.below HD57.out hb9 HD57.out.lt)
        have HBB9 := Lib.hid (HBB7.out.trans (hb9.mono HBB7.out.size))
        have HOF : Hid (∀ r : Nat, Calls Tryz.prog 70 #[vi (q : Int), vi y2] (w9.drewN r) fun e' w' => e' = .returned (vi (fv (el q y2))) ∧ ∃ k, w' = w9.drewN k) := Lib.hid fun r => (rof_any q hqm y2 hi9y (w9.drewN r)).mono fun e' w' h => ⟨h.1, r, h.2.symm⟩
        have HHN := Lib.hid HN.out.2.1
        clear hb9 hb9' hl9 hn9 hs9 hi9 hHeld KS hb77 hi9y
        have d0 := (hD9.cell 0).trans (show _ = some (vi (q : Int)) from rfl)
        have d1 := (hD9.cell 1).trans (show _ = some (vi ((nI e (t + 1) : Nat) : Int)) from rfl)
        rw [← HHN.out] at d1
        clear hD9
        by_cases hv : vv = el q y2
        · have tv : (fv vv != fv (el q y2)) = false := by rw [hv]; simp
          have HA := Lib.hid (HALL2.out hv)
          clear hv
          go_wp2
          go_quiet ((go_at_call 70; exact HOF.out _))
          go_wp2
          go_roundw
          case rel => exact ⟨t + 1, (m : Int), Nat.succ_le_of_lt hlt, by go_num, rfl, Int.natCast_nonneg m, HM5.out, HXMR.out, HD49.out, HD59.out, below_drewN HBB9.out _, HA.out⟩
          case measure => simp [intOf]; omega
        · have tv : (fv vv != fv (el q y2)) = true := by rw [bne_iff_ne]; exact fun h => hv (fv_inj h)
          have HG := Lib.hid (HGF.out hv)
          clear hv
          go_wp2
          go_quiet ((go_at_call 70; exact HOF.out _))
          go_wp2
          go_ret
          exact ⟨ret_bool HG.out.symm, below_drewN HBB9.out _⟩
    · have et : t = R := by omega
      have HG : Hid (goesO q s e f.opens dr f.last R place = true) := Lib.hid (goesO_true fun u hu => HALL.out u (by omega))
      clear ht
      go_wp2
      go_ret
      exact ⟨ret_bool HG.out.symm, HB.out⟩
end Go.Proofs.YtflkiddmakeabaaGreatDoor

/- The walk of ref5.Check. -/
set_option linter.unusedVariables false
namespace Go.Proofs.YtflkiddmakeabaaGreatDoor
open Go.RowKit Zp
/-- what a check hands back: is it taken, the places; the chain stands where it stands -/
def CkIs (ok : Bool) (l : List Int) (w : World) (e : Ending) (w' : World) : Prop :=
  ∃ A n c, e = .returned (.tuple #[.slice A n c, .bool ok]) ∧ l.length = n ∧ n * 8 ≤ 140737488351232 ∧ SL w' A l ∧ (∀ x ∈ l, I64 x) ∧ ∀ ad, A = some ad → w.heap.size ≤ ad.block
theorem CkIs.no (w w' : World) : CkIs false [] w (.returned (.tuple #[.slice none 0 0, .bool false])) w' := ⟨none, 0, 0, rfl, rfl, by omega, SL.nil, by simp, fun ad h => by simp at h⟩
/-- what is drawn behind the first roots -/
def drLst (p k : Nat) [NeZero p] (D : List Int) (roots : List (List Int)) (t : Nat) : List Int := (List.range t).map (drR p k D roots)
theorem drLst_succ (p k : Nat) [NeZero p] (D : List Int) (roots : List (List Int)) (t : Nat) : drLst p k D roots (t + 1) = drLst p k D roots t ++ [drR p k D roots t] := by simp [drLst, List.range_succ]
theorem drLst_len (p k : Nat) [NeZero p] (D : List Int) (roots : List (List Int)) (t : Nat) : (drLst p k D roots t).length = t := by simp [drLst]
theorem four_lt {j t : Nat} : 4 < nI j t ↔ t < rndK j := by
  unfold nI rndK
  rw [show (4 : Nat) = 2 ^ 2 from rfl, Nat.pow_lt_pow_iff_right (by omega)]
  omega
theorem grown_keep {w00 w w' : World} {m : Nat} (h : Below w00.heap.size w00 w) (hg : w.grownBy w' (some m)) (hm : w00.heap.size ≤ m) : Below w00.heap.size w00 w' := h.grown hg h.size (fun x hx => by injection hx with hx; omega)
theorem i64_drR {p k : Nat} [NeZero p] (hm : p ≤ 2147483647) (D : List Int) (roots : List (List Int)) (i : Nat) : I64 (drR p k D roots i) := by
  obtain ⟨x, hx⟩ := digL_bounds (p := p) (k := k) (4 :: digL p k (3 :: (dgR p k D roots i ++ roots.getD i []))) (j := 0) (by omega)
  unfold drR
  show I64 ((digL p k (4 :: digL p k (3 :: (dgR p k D roots i ++ roots.getD i [])))).getD 0 0)
  rw [hx]
  exact i64_fv _ hm
set_option maxRecDepth 100000 in
set_option maxHeartbeats 1000000 in
theorem rck_may (q n : Nat) (s r k asked : Int) (hn1 : 1 ≤ n) (hn : n ≤ 65536) (m : Nat) (v4 : Value) (f0 f1 f2 : Value) (h4 : v4 = .agg #[f0, f1, f2]) (hno : fmayB n k asked = false) (w : World) :
    Calls Tryz.prog 9 #[.pointer (some ⟨m, 0, none⟩), .agg #[vi q, vi n, vi s, vi r], vi k, vi asked, v4] w fun e w' => CkIs false [] w e w' ∧ Below w.heap.size w w' := by
  subst h4
  have hb0 : Below w.heap.size w ((w.alloc (.cells #[vi q, vi n, vi s, vi r] 30)).alloc (.cells #[f0, f1, f2] 26)) := ((Below.refl _ _).alloc (Nat.le_refl _) _).alloc (by simp) _
  have hB := (Blk.new w 30 #[vi q, vi n, vi s, vi r]).alloc (.cells #[f0, f1, f2] 26)
  obtain ⟨W, hW⟩ : ∃ W, W = ((w.alloc (.cells #[vi q, vi n, vi s, vi r] 30)).alloc (.cells #[f0, f1, f2] 26)) := ⟨_, rfl⟩
  rw [← hW] at hb0 hB
  have HW := Lib.hid hW
  have HB0 := Lib.hid hb0
  have d0 := (hB.cell 0).trans (show _ = some (vi q) from rfl)
  have d1 := (hB.cell 1).trans (show _ = some (vi n) from rfl)
  have d2 := (hB.cell 2).trans (show _ = some (vi s) from rfl)
  have d3 := (hB.cell 3).trans (show _ = some (vi r) from rfl)
  have hf := rfault5_any q n s r k asked hn1 hn W
  rw [show faultF n k asked = 2 by unfold faultF; rw [hno]; rfl] at hf
  have HF := Lib.hid hf
  clear hW hb0 hB hf hno
  go_enter Tryz.func9, Tryz.ntmps9
  go_upto_region 1 with (fail)
  rw [← HW.out]
  go_wp2_with fail
  refine HF.out.mono ?_
  rintro _ w1 ⟨rfl, hb1⟩
  have HB1 := Lib.hid (HB0.out.trans (hb1.mono HB0.out.size))
  clear hb1 d0 d1 d2 d3
  go_wp2
  exact bodyPost_ret (v := .tuple #[.slice none 0 0, .bool false]) (by simp [results, Tryz.results9, go_sem]) rfl ⟨CkIs.no _ _, HB1.out⟩
end Go.Proofs.YtflkiddmakeabaaGreatDoor

/- The walk of ref5.Check, where the degree and the number of places may be. -/
set_option linter.unusedVariables false
namespace Go.Proofs.YtflkiddmakeabaaGreatDoor
open Go.RowKit Zp
/-- what the check comes to: taken?, the places, the digest -/
noncomputable def okO (p k : Nat) [NeZero p] (s : Fin p) (e j : Nat) (f : FldI) (D : List Int) (a : Nat) : Bool :=
  decide (f.opens.length = rndK j) && (decide (degL (els p f.last) < (nI j (rndK j) : Int)) && checkO p k s e j f (drR p k D f.roots) (placesL p k (dgL p k D f.roots f.last) ((nI e 1 : Nat) : Int) a))
theorem insU_length (a : Int) : ∀ l : List Int, (insU a l).length ≤ l.length + 1 := fun l => by
  induction l with
  | nil => simp [insU]
  | cons b l ih =>
    unfold insU
    split
    · simp
    · split
      · simp
      · simp only [List.length_cons]; omega
theorem onceL_length : ∀ l : List Int, (onceL l).length ≤ l.length
  | [] => by simp [onceL]
  | a :: l => by
    show (insU a (onceL l)).length ≤ _
    have h1 := insU_length a (onceL l)
    have h2 := onceL_length l
    simp only [List.length_cons]
    omega
/-- what is shown is an Opening of those places -/
theorem okO_of {p k : Nat} [NeZero p] {o : OpnI} {root : List Int} {n : Int} {h : Nat} {places : List Int} (hs : showF p k o.l o.rs o.ns root n (onceL (modL places h)) = true) (hlen : places.length ≤ 65536) {x : Int} (hx : x ∈ places) : OkO o (x % (h : Int)) := by
  unfold showF at hs
  rw [Bool.and_eq_true, Bool.and_eq_true] at hs
  obtain ⟨h1, h2, h3⟩ := hs
  have e1 : o.l = onceL (modL places h) := of_decide_eq_true h1
  have ht := takenB_iff.1 h3
  refine ⟨by rw [e1]; exact asc_onceL _, ht.2.2.1, ?_, ?_, fun r hr => ?_⟩
  · rw [e1]
    exact Nat.le_trans (onceL_length _) (by rw [modL_len]; exact hlen)
  · rw [e1, mem_onceL]
    exact List.mem_map.2 ⟨x, hx, rfl⟩
  · exact of_decide_eq_true (List.all_eq_true.1 h2 r hr)
section
variable {p k : Nat} [NeZero p] {s : Fin p} {e j : Nat} {f : FldI} {D : List Int} {a : Nat}
theorem okO_len (h : f.opens.length ≠ rndK j) : okO p k s e j f D a = false := by unfold okO; rw [decide_eq_false h]; rfl
theorem okO_deg (h : ¬ degL (els p f.last) < (nI j (rndK j) : Int)) : okO p k s e j f D a = false := by unfold okO; rw [decide_eq_false h]; simp
theorem okO_show {u : Nat} (hu : u < rndK j) (h : showF p k (opnO f.opens u).l (opnO f.opens u).rs (opnO f.opens u).ns (f.roots.getD u []) ((nI e (u + 1) : Nat) : Int) (onceL (modL (placesL p k (dgL p k D f.roots f.last) ((nI e 1 : Nat) : Int) a) (nI e (u + 1)))) = false) : okO p k s e j f D a = false := by
  have : checkO p k s e j f (drR p k D f.roots) (placesL p k (dgL p k D f.roots f.last) ((nI e 1 : Nat) : Int) a) = false := by
    unfold checkO
    rw [show ((List.range (rndK j)).all fun i => showF p k (opnO f.opens i).l (opnO f.opens i).rs (opnO f.opens i).ns (f.roots.getD i []) ((nI e (i + 1) : Nat) : Int) (onceL (modL (placesL p k (dgL p k D f.roots f.last) ((nI e 1 : Nat) : Int) a) (nI e (i + 1))))) = false from List.all_eq_false.2 ⟨u, List.mem_range.2 hu, by rw [h]; simp⟩]
    rfl
  unfold okO
  rw [this]
  simp
theorem okO_goes {x : Int} (hx : x ∈ placesL p k (dgL p k D f.roots f.last) ((nI e 1 : Nat) : Int) a) (h : goesO p s e f.opens (drR p k D f.roots) f.last (rndK j) x = false) : okO p k s e j f D a = false := by
  have : checkO p k s e j f (drR p k D f.roots) (placesL p k (dgL p k D f.roots f.last) ((nI e 1 : Nat) : Int) a) = false := by
    unfold checkO
    rw [show ((placesL p k (dgL p k D f.roots f.last) ((nI e 1 : Nat) : Int) a).all fun x => goesO p s e f.opens (drR p k D f.roots) f.last (rndK j) x) = false from List.all_eq_false.2 ⟨x, hx, by rw [h]; simp⟩]
    simp
  unfold okO
  rw [this]
  simp
theorem okO_true (h1 : f.opens.length = rndK j) (h2 : degL (els p f.last) < (nI j (rndK j) : Int)) (h3 : ∀ u, u < rndK j → showF p k (opnO f.opens u).l (opnO f.opens u).rs (opnO f.opens u).ns (f.roots.getD u []) ((nI e (u + 1) : Nat) : Int) (onceL (modL (placesL p k (dgL p k D f.roots f.last) ((nI e 1 : Nat) : Int) a) (nI e (u + 1)))) = true)
    (h4 : ∀ x ∈ placesL p k (dgL p k D f.roots f.last) ((nI e 1 : Nat) : Int) a, goesO p s e f.opens (drR p k D f.roots) f.last (rndK j) x = true) : okO p k s e j f D a = true := by
  unfold okO checkO
  rw [decide_eq_true h1, decide_eq_true h2, List.all_eq_true.2 (fun u hu => h3 u (List.mem_range.1 hu)), List.all_eq_true.2 h4]
  rfl
end
/-- what a check comes to, with a chain that grows -/
def RCkIs (q kk m : Nat) [NeZero q] (s : Fin q) (e j : Nat) (f : FldI) (D : List Int) (a : Nat) (w : World) (ee : Ending) (w' : World) : Prop :=
  CkIs (okO q kk s e j f D a) (if okO q kk s e j f D a then placesL q kk (dgL q kk D f.roots f.last) ((nI e 1 : Nat) : Int) a else []) w ee w' ∧ RCh w' m q (iterP q kk (dgL q kk D f.roots f.last) a) ∧ w.grownBy w' (some m)
set_option maxRecDepth 100000 in
set_option maxHeartbeats 2000000 in
theorem rck_roots (q : Nat) [NeZero q] (kk : Nat) (K : Pk q kk) (m : Nat) (D : List Int) (s : Fin q) (e j : Nat) (he : e ≤ 16) (hsz : SizeOk q (nI e 0)) (hje : j + 1 ≤ e) (a : Nat) (ha1 : 1 ≤ a) (ha2 : a ≤ 64) (hmay : fmayB (nI e 0) ((nI j 0 : Nat) : Int) (a : Int) = true) (f : FldI)
    {AR : Option Addr} {nR cR : Nat} {AL : Option Addr} {nL cL : Nat} {AO : Option Addr} {nO cO : Nat} (hno : f.roots.length ≠ rndK j)
    (w00 w : World) (hF : FAt w00 AR nR cR AL nL cL AO nO cO f) (hbw : Below w00.heap.size w00 w) (hm0 : w00.heap.size ≤ m) (hm : RCh w m q D) :
    Calls Tryz.prog 9 #[.pointer (some ⟨m, 0, none⟩), .agg (RDA q s e 0), vi ((nI j 0 : Nat) : Int), vi (a : Int), .agg #[.slice AR nR cR, .slice AL nL cL, .slice AO nO cO]] w fun ee w' => CkIs false [] w ee w' ∧ Below w.heap.size w w' := by
  have hb0 : Below w.heap.size w ((w.alloc (.cells (RDA q s e 0) 30)).alloc (.cells #[.slice AR nR cR, .slice AL nL cL, .slice AO nO cO] 26)) := ((Below.refl _ _).alloc (Nat.le_refl _) _).alloc (by simp) _
  have hB6 := (Blk.new w 30 (RDA q s e 0)).alloc (.cells #[.slice AR nR cR, .slice AL nL cL, .slice AO nO cO] 26)
  have hB9 := Blk.new (w.alloc (.cells (RDA q s e 0) 30)) 26 #[.slice AR nR cR, .slice AL nL cL, .slice AO nO cO]
  rw [show (w.alloc (.cells (RDA q s e 0) 30)).heap.size = w.heap.size + 1 by simp] at hB9
  obtain ⟨W, hW⟩ : ∃ W, W = ((w.alloc (.cells (RDA q s e 0) 30)).alloc (.cells #[.slice AR nR cR, .slice AL nL cL, .slice AO nO cO] 26)) := ⟨_, rfl⟩
  rw [← hW] at hb0 hB6 hB9
  have HW := Lib.hid hW
  have HB0 := Lib.hid hb0
  have d0 := (hB6.cell 0).trans (show _ = some (vi (q : Int)) from rfl)
  have d1 := (hB6.cell 1).trans (show _ = some (vi ((nI e 0 : Nat) : Int)) from rfl)
  have d2 := (hB6.cell 2).trans (show _ = some (vi (fv (sqI s 0))) from rfl)
  have d3 := (hB6.cell 3).trans (show _ = some (vi (fv (rootI q ((nI e 0 : Nat) : Int)))) from rfl)
  have hf := rfault5_any q (nI e 0) (fv (sqI s 0)) (fv (rootI q ((nI e 0 : Nat) : Int))) ((nI j 0 : Nat) : Int) (a : Int) (nI_pos _ _) (nI_le he 0) W
  rw [show faultF (nI e 0) ((nI j 0 : Nat) : Int) (a : Int) = 0 by unfold faultF; rw [hmay]; rfl] at hf
  have HFA := Lib.hid hf
  have HF := Lib.hid hF
  have HBW := Lib.hid hbw
  have HM := Lib.hid hm
  have HK := Lib.hid K
  have HML := Lib.hid hm.lt
  have hj16 : j ≤ 16 := by omega
  have H6 := Lib.hid hB6
  have H9 := Lib.hid hB9
  have HSZ := Lib.hid hsz
  clear hW hb0 hB6 hB9 hf hmay hF hbw hm K hsz
  go_enter Tryz.func9, Tryz.ntmps9
  go_upto_region 1 with (fail)
  rw [← HW.out]
  go_wp2_with fail
  refine HFA.out.mono ?_
  rintro _ w1 ⟨rfl, hb1⟩
  have HB01 := Lib.hid hb1
  have HB1 := Lib.hid (HB0.out.trans (hb1.mono HB0.out.size))
  have HB9 := Lib.hid (Blk.below H9.out hb1 H9.out.lt)
  have HB6 := Lib.hid (Blk.below H6.out hb1 H6.out.lt)
  have HM1 := Lib.hid (HM.out.below HB1.out)
  clear hb1 d0 d1 d2 d3
  go_wp2
  go_loopw [13, 14] (fun r l wr => ∃ t : Nat, t ≤ rndK j ∧ r = vi t ∧ l = vi ((nI j t : Nat) : Int) ∧ w1 = wr) (fun r _ _ => rndK j - (intOf r).toNat)
  case atStart => exact ⟨0, Nat.zero_le _, rfl, rfl, rfl⟩
  case round =>
    obtain ⟨t, ht, rfl, rfl, rfl⟩ := hrel
    by_cases hlt : t < rndK j
    · have t1 : decide ((4 : Int) < ((nI j t : Nat) : Int)) = true := decide_eq_true (by have := four_lt.2 hlt; omega)
      have hst : nI j t = 2 * nI j (t + 1) := nI_step (by unfold rndK at hlt; omega)
      have hq : wrap64 (((nI j t : Nat) : Int) / 2) = ((nI j (t + 1) : Nat) : Int) := half_wrap hst (nI_le hj16 t)
      have hwt : IntKind.i64.wrap ((t : Int) + 1) = (t : Int) + 1 := step_wrap (by unfold rndK at hlt; omega)
      clear hst
      go_wp2
      go_roundw
      case rel => exact ⟨t + 1, Nat.succ_le_of_lt hlt, by go_num, by first | rfl | (rw [hq]), trivial⟩
      case measure => simp [intOf]; omega
    · have t1 : decide ((4 : Int) < ((nI j t : Nat) : Int)) = false := decide_eq_false (by have h4 : ¬ 4 < nI j t := fun h => hlt (four_lt.1 h); omega)
      have et : t = rndK j := by omega
      have t2 : ((nR : Int) != (t : Int)) = true := by rw [bne_iff_ne, ← HF.out.lR]; intro h; exact hno (by omega)
      have f0 := (HB9.out.cell 0).trans (show _ = some (.slice AR nR cR) from rfl)
      clear hno et ht hlt
      go_wp2
      exact bodyPost_ret (v := .tuple #[.slice none 0 0, .bool false]) (by simp [results, Tryz.results9, go_sem]) rfl ⟨CkIs.no _ _, HB1.out⟩
set_option maxRecDepth 100000 in
set_option maxHeartbeats 4000000 in
theorem rck_yes (q : Nat) [NeZero q] (kk : Nat) (K : Pk q kk) (m : Nat) (D : List Int) (s : Fin q) (e j : Nat) (he : e ≤ 16) (hsz : SizeOk q (nI e 0)) (hje : j + 1 ≤ e) (a : Nat) (ha1 : 1 ≤ a) (ha2 : a ≤ 64) (hmay : fmayB (nI e 0) ((nI j 0 : Nat) : Int) (a : Int) = true) (f : FldI)
    {AR : Option Addr} {nR cR : Nat} {AL : Option Addr} {nL cL : Nat} {AO : Option Addr} {nO cO : Nat} (hyes : f.roots.length = rndK j)
    (w00 w : World) (hF : FAt w00 AR nR cR AL nL cL AO nO cO f) (hbw : Below w00.heap.size w00 w) (hm0 : w00.heap.size ≤ m) (hm : RCh w m q D) :
    Calls Tryz.prog 9 #[.pointer (some ⟨m, 0, none⟩), .agg (RDA q s e 0), vi ((nI j 0 : Nat) : Int), vi (a : Int), .agg #[.slice AR nR cR, .slice AL nL cL, .slice AO nO cO]] w (RCkIs q kk m s e j f D a w) := by
  have hqm' := K.pm
  have hq3' := K.p3
  have hb0 : Below w.heap.size w ((w.alloc (.cells (RDA q s e 0) 30)).alloc (.cells #[.slice AR nR cR, .slice AL nL cL, .slice AO nO cO] 26)) := ((Below.refl _ _).alloc (Nat.le_refl _) _).alloc (by simp) _
  have hB6 := (Blk.new w 30 (RDA q s e 0)).alloc (.cells #[.slice AR nR cR, .slice AL nL cL, .slice AO nO cO] 26)
  have hB9 := Blk.new (w.alloc (.cells (RDA q s e 0) 30)) 26 #[.slice AR nR cR, .slice AL nL cL, .slice AO nO cO]
  rw [show (w.alloc (.cells (RDA q s e 0) 30)).heap.size = w.heap.size + 1 by simp] at hB9
  obtain ⟨W, hW⟩ : ∃ W, W = ((w.alloc (.cells (RDA q s e 0) 30)).alloc (.cells #[.slice AR nR cR, .slice AL nL cL, .slice AO nO cO] 26)) := ⟨_, rfl⟩
  rw [← hW] at hb0 hB6 hB9
  have HW := Lib.hid hW
  have HB0 := Lib.hid hb0
  have d0 := (hB6.cell 0).trans (show _ = some (vi (q : Int)) from rfl)
  have d1 := (hB6.cell 1).trans (show _ = some (vi ((nI e 0 : Nat) : Int)) from rfl)
  have d2 := (hB6.cell 2).trans (show _ = some (vi (fv (sqI s 0))) from rfl)
  have d3 := (hB6.cell 3).trans (show _ = some (vi (fv (rootI q ((nI e 0 : Nat) : Int)))) from rfl)
  have hf := rfault5_any q (nI e 0) (fv (sqI s 0)) (fv (rootI q ((nI e 0 : Nat) : Int))) ((nI j 0 : Nat) : Int) (a : Int) (nI_pos _ _) (nI_le he 0) W
  rw [show faultF (nI e 0) ((nI j 0 : Nat) : Int) (a : Int) = 0 by unfold faultF; rw [hmay]; rfl] at hf
  have HFA := Lib.hid hf
  have HF := Lib.hid hF
  have HBW := Lib.hid hbw
  have HM := Lib.hid hm
  have HK := Lib.hid K
  have HML := Lib.hid hm.lt
  have hj16 : j ≤ 16 := by omega
  have H6 := Lib.hid hB6
  have H9 := Lib.hid hB9
  have HSZ := Lib.hid hsz
  clear hW hb0 hB6 hB9 hf hmay hF hbw hm K hsz
  go_enter Tryz.func9, Tryz.ntmps9
  go_upto_region 1 with (fail)
  rw [← HW.out]
  go_wp2_with fail
  refine HFA.out.mono ?_
  rintro _ w1 ⟨rfl, hb1⟩
  have HB01 := Lib.hid hb1
  have HB1 := Lib.hid (HB0.out.trans (hb1.mono HB0.out.size))
  have HB9 := Lib.hid (Blk.below H9.out hb1 H9.out.lt)
  have HB6 := Lib.hid (Blk.below H6.out hb1 H6.out.lt)
  have HM1 := Lib.hid (HM.out.below HB1.out)
  clear hb1 d0 d1 d2 d3
  go_wp2
  go_loopw [13, 14] (fun r l wr => ∃ t : Nat, t ≤ rndK j ∧ r = vi t ∧ l = vi ((nI j t : Nat) : Int) ∧ w1 = wr) (fun r _ _ => rndK j - (intOf r).toNat)
  case atStart => exact ⟨0, Nat.zero_le _, rfl, rfl, rfl⟩
  case round =>
    obtain ⟨t, ht, rfl, rfl, rfl⟩ := hrel
    by_cases hlt : t < rndK j
    · have t1 : decide ((4 : Int) < ((nI j t : Nat) : Int)) = true := decide_eq_true (by have := four_lt.2 hlt; omega)
      have hst : nI j t = 2 * nI j (t + 1) := nI_step (by unfold rndK at hlt; omega)
      have hq : wrap64 (((nI j t : Nat) : Int) / 2) = ((nI j (t + 1) : Nat) : Int) := half_wrap hst (nI_le hj16 t)
      have hwt : IntKind.i64.wrap ((t : Int) + 1) = (t : Int) + 1 := step_wrap (by unfold rndK at hlt; omega)
      clear hst
      go_wp2
      go_roundw
      case rel => exact ⟨t + 1, Nat.succ_le_of_lt hlt, by go_num, by first | rfl | (rw [hq]), trivial⟩
      case measure => simp [intOf]; omega
    · have t1 : decide ((4 : Int) < ((nI j t : Nat) : Int)) = false := decide_eq_false (by have h4 : ¬ 4 < nI j t := fun h => hlt (four_lt.1 h); omega)
      obtain rfl : t = rndK j := by omega
      have eR : nR = rndK j := by rw [← HF.out.lR]; exact hyes
      have HRR := Lib.hid eR
      obtain ⟨R, hR⟩ : ∃ R, R = rndK j := ⟨_, rfl⟩
      have HR := Lib.hid hR
      rw [← hR] at hyes eR ⊢
      rw [← hR] at t1
      have hRe : R + 1 ≤ e := by rw [hR]; unfold rndK; omega
      have hRj : R ≤ j := by rw [hR]; unfold rndK; omega
      subst eR
      have t2 : ((nR : Int) != (nR : Int)) = false := by simp
      have f0 := (HB9.out.cell 0).trans (show _ = some (.slice AR nR cR) from rfl)
      have HG1 : Hid (w.grownBy w1 (some m)) := Lib.hid (grown_of_below HB1.out (some m))
      have HYES := Lib.hid hyes
      clear ht hlt hR hyes
      go_wp2
      go_loopw [15, 16] (fun v i wr => ∃ t : Nat, t ≤ nR ∧ i = vi t ∧ Own wr w1.heap.size v (drLst q kk D f.roots t) ∧ RCh wr m q (dgR q kk D f.roots t) ∧ w1.grownBy wr (some m)) (fun _ i _ => nR - (intOf i).toNat)
      case atStart => exact ⟨0, Nat.zero_le _, rfl, World.ownsRow_nil _ _ _ _, HM1.out, ⟨rfl, rfl, rfl, Nat.le_refl _, fun _ _ _ => rfl⟩⟩
      case round =>
        obtain ⟨t, ht, rfl, ho, hm, hg⟩ := hrel
        have hmw1 : m < w1.heap.size := HM1.out.lt
        have HGR := Lib.hid hg
        have HBR := Lib.hid (grown_keep (HBW.out.trans (HB1.out.mono HBW.out.size)) hg hm0)
        have hB9r := Blk.grown HB9.out hg (fun h => by injection h with h; have := HML.out; omega)
        have hB6r := Blk.grown HB6.out hg (fun h => by injection h with h; have := HML.out; omega)
        have HB9r := Lib.hid hB9r
        have HB6r := Lib.hid hB6r
        by_cases hlt : t < nR
        · have htl : t < f.roots.length := by rw [HYES.out]; exact hlt
          obtain ⟨ar, A1, n1, c1, rfl, hb1, hc1, hl1, hn1, hs1, hi1⟩ := (HF.out.tR.below HBR.out) t htl
          have hr8 := HF.out.rR _ (List.getElem_mem htl)
          have f0 := (hB9r.cell 0).trans (show _ = some (.slice (some ar) nR cR) from rfl)
          have i1 : (0 : Int) ≤ (t : Int) := by omega
          have i2 : (t : Int) < (nR : Int) := by omega
          have hwt : IntKind.i64.wrap ((t : Int) + 1) = (t : Int) + 1 := step_wrap (by omega)
          have HST := Lib.hid (rstep_any q kk HK.out 3 (by constructor <;> omega) m _ A1 n1 c1 f.roots[t] hl1 hi1 (by rw [← hl1]; exact hr8) wr hm hs1)
          have hdd : dgR q kk D f.roots (t + 1) = drawnL q kk (digL q kk (3 :: (dgR q kk D f.roots t ++ f.roots[t]))) := by
            show drawnL q kk (digL q kk (3 :: (dgR q kk D f.roots t ++ f.roots.getD t []))) = _
            rw [List.getD_eq_getElem?_getD, List.getElem?_eq_getElem htl, Option.getD_some]
          have hdr : drR q kk D f.roots t = (drawnL q kk (digL q kk (3 :: (dgR q kk D f.roots t ++ f.roots[t])))).getD 0 0 := by unfold drR; rw [hdd]
          have HDD := Lib.hid (And.intro hdd hdr)
          have HSU := Lib.hid (drLst_succ q kk D f.roots t)
          have HLL := Lib.hid (drLst_len q kk D f.roots t)
          have HO := Lib.hid ho
          have HMW := Lib.hid hmw1
          clear hm hs1 hi1 hl1 hn1 hb1 hr8 hdd hdr ho hg hB9r hB6r hmw1
          go_wp2_with fail
          refine HST.out.mono ?_
          rintro _ w2 ⟨⟨r2, rfl⟩, hm2, hg2, _⟩
          have HDW := Lib.hid (rdraw_any q kk HK.out m _ w2 hm2)
          have HG2 := Lib.hid hg2
          clear hm2 hg2
          go_wp2_with fail
          refine HDW.out.mono ?_
          rintro _ w3 ⟨rfl, hm3, hg3, hn3⟩
          rw [← HDD.out.2]
          have hgr3 := grownBy_trans HG2.out hg3
          have hne : Value.ownBlock u15 ≠ some m := fun e => by have := (World.ownsRow.lt HO.out m e).1; have := HMW.out; omega
          have ho3 := World.ownsRow.kept HO.out hgr3 (by
            rcases hv : Value.ownBlock u15 with _ | g
            · exact .inl rfl
            · exact .inr (by rw [← hv]; exact hne))
          have HO3 := Lib.hid ho3
          have hgw3 := grownBy_trans HGR.out hgr3
          have HX3 := Lib.hid (And.intro hm3 (And.intro hgw3 (And.intro (hn3.less HG2.out.size) hne)))
          have HSZ3 := Lib.hid hgw3.size
          have HSR := Lib.hid hgr3.size
          clear hm3 hg3 hn3 hgr3 hne ho3 hgw3
          go_wp2_with (at_builtin; refine wpList_app1 w3 (drR q kk D f.roots t) rfl _ _ rfl w1.heap.size _ _ rfl rfl HO3.out (by have := HLL.out; omega) HSZ3.out ?_; intro v4 w4 hg4)
          go_roundw
          case rel =>
            obtain ⟨hm2, hgw2, hn2', hne⟩ := HX3.out
            refine ⟨t + 1, Nat.succ_le_of_lt hlt, by go_num, by rw [HSU.out]; exact hg4.own, RCh.keepR (show RCh w3 m q (dgR q kk D f.roots (t + 1)) from by rw [HDD.out.1]; exact hm2) hg4.grown hne (fun g cap hc e => ?_), ?_⟩
            · obtain ⟨g', cap', hc', hlt'⟩ := hn2'
              rw [hc] at hc'
              injection hc' with hc'
              injection hc' with e1 _ _
              injection e1 with e1
              injection e1 with e1 _ _
              have := (World.ownsRow.lt HO.out g e).2
              omega
            · exact ⟨hg4.grown.os.trans hgw2.os, hg4.grown.tape.trans hgw2.tape, hg4.grown.output.trans hgw2.output, Nat.le_trans hgw2.size hg4.grown.size, fun x hx hxm => by
                by_cases hxv : some x = Value.ownBlock u15
                · exact absurd (World.ownsRow.lt HO3.out x hxv.symm).1 (by omega)
                · exact (hg4.grown.block x (Nat.lt_of_lt_of_le hx hgw2.size) hxv).trans (hgw2.block x hx hxm)⟩
          case measure => simp [intOf]; omega
        · have et : t = nR := by omega
          subst et
          have HO := Lib.hid (ho.more (show w.heap.size ≤ w1.heap.size from HB1.out.size))
          obtain ⟨A5, n5, c5, rfl, hl5, _, _, hs5⟩ := ho.shapeN
          have e5 : n5 = t := by rw [← hl5, drLst_len]
          subst e5
          have HGW := Lib.hid (grownBy_trans HG1.out hg)
          have HSTL := Lib.hid (rstep_any q kk HK.out 3 (by constructor <;> omega) m _ AL nL cL f.last HF.out.lL HF.out.iL HF.out.bL wr hm (HF.out.sL.below HBR.out))
          have edg : digL q kk (3 :: (dgR q kk D f.roots n5 ++ f.last)) = dgL q kk D f.roots f.last := by unfold dgL; rw [HYES.out]
          rw [edg] at HSTL
          obtain ⟨D2, hD2⟩ : ∃ D2, D2 = dgL q kk D f.roots f.last := ⟨_, rfl⟩
          rw [← hD2] at HSTL
          have HD2 := Lib.hid hD2
          have f1 := (hB9r.cell 1).trans (show _ = some (.slice AL nL cL) from rfl)
          clear edg hD2 hB9r hB6r f0 ho hm hg hl5 hs5 ht hlt
          go_wp2_with fail
          refine HSTL.out.mono ?_
          rintro _ w2 ⟨⟨r2, rfl⟩, hm2, hg2, _⟩
          have HG2 := Lib.hid hg2
          have hB92 := Blk.grown HB9r.out hg2 (fun h => by injection h with h; have := HML.out; omega)
          have hB62 := Blk.grown HB6r.out hg2 (fun h => by injection h with h; have := HML.out; omega)
          have HB92 := Lib.hid hB92
          have HB62 := Lib.hid hB62
          have HPL := Lib.hid (rplaces_any q kk HK.out m D2 (nI e 0) (nI e 1) (nI_step (by omega)) (nI_pos _ _) (nI_le he 1) (fv (sqI s 0)) (fv (rootI q ((nI e 0 : Nat) : Int))) a (by omega) w2 hm2)
          clear hm2 hg2 f1
          have d0 := (hB62.cell 0).trans (show _ = some (vi (q : Int)) from rfl)
          have d1 := (hB62.cell 1).trans (show _ = some (vi ((nI e 0 : Nat) : Int)) from rfl)
          have d2 := (hB62.cell 2).trans (show _ = some (vi (fv (sqI s 0))) from rfl)
          have d3 := (hB62.cell 3).trans (show _ = some (vi (fv (rootI q ((nI e 0 : Nat) : Int)))) from rfl)
          clear hB92 hB62
          go_wp2_with fail
          refine HPL.out.mono ?_
          rintro _ w3 ⟨v3, rfl, ho3, hm3, hg3⟩
          obtain ⟨A3, n3, c3, rfl, hl3, _, _, hs3⟩ := ho3.shapeN
          obtain ⟨asks, hasks⟩ : ∃ l, l = placesL q kk D2 ((nI e 1 : Nat) : Int) a := ⟨_, rfl⟩
          have hin := placesL_in q kk D2 ((nI e 1 : Nat) : Int) a (by have := nI_pos e 1; omega)
          rw [← hasks] at hl3 hs3 hin
          have HA3 : Hid (∀ ad, A3 = some ad → w.heap.size ≤ ad.block) := Lib.hid fun ad e1 => by
            have h1 := (World.ownsRow.lt ho3 ad.block (by rw [e1]; rfl)).1
            have h2 := HGW.out.size
            have h3 := HG2.out.size
            omega
          have ha3 : n3 = a := by rw [← hl3, hasks, placesL_len]
          subst ha3
          have HAS := Lib.hid hasks
          have HAL := Lib.hid (And.intro hl3 (And.intro hs3 hin))
          have HM3 := Lib.hid hm3
          have HGW3 := Lib.hid (grownBy_trans HGW.out (grownBy_trans HG2.out hg3))
          have hB93 := Blk.grown HB92.out hg3 (fun h => by injection h with h; have := HML.out; omega)
          have hB63 := Blk.grown HB62.out hg3 (fun h => by injection h with h; have := HML.out; omega)
          have HB93 := Lib.hid hB93
          have HB63 := Lib.hid hB63
          have HF3 := Lib.hid (HF.out.below (grown_keep HBW.out HGW3.out hm0))
          -- the list of draws
          have HDL : Hid (SL w3 A5 (drLst q kk D f.roots n5)) := Lib.hid (by
            have ho2 := (World.ownsRow.kept HO.out (grownBy_trans HG2.out hg3) (by
              rcases hv : Value.ownBlock (Value.slice A5 n5 c5) with _ | g
              · exact .inl rfl
              · exact .inr (fun e => by injection e with e; have := (World.ownsRow.lt HO.out g hv).1; have := HML.out; omega)))
            obtain ⟨A', n', c', e', _, _, _, hs'⟩ := Own.shapeN ho2
            injection e' with e1 e2 e3
            subst e1 e2 e3
            exact hs')
          have HDG := Lib.hid (rdegree_n q hqm' AL nL cL f.last HF3.out.lL HF3.out.iL (by have := HF3.out.bL; omega) w3 HF3.out.sL)
          clear d0 d1 d2 d3 ho3 hm3 hg3 hl3 hs3 hin hasks
          have d0 := (hB63.cell 0).trans (show _ = some (vi (q : Int)) from rfl)
          have d1 := (hB63.cell 1).trans (show _ = some (vi ((nI e 0 : Nat) : Int)) from rfl)
          have f1 := (hB93.cell 1).trans (show _ = some (.slice AL nL cL) from rfl)
          have f2 := (hB93.cell 2).trans (show _ = some (.slice AO nO cO) from rfl)
          clear hB93 hB63
          obtain ⟨dg, hdg⟩ : ∃ dg, dg = degL (els q f.last) := ⟨_, rfl⟩
          rw [← hdg] at HDG
          have HDGE := Lib.hid hdg
          clear hdg
          have HNO : Hid (okO q kk s e j f D n3 = false → RCkIs q kk m s e j f D n3 w (.returned (.tuple #[.slice none 0 0, .bool false])) w3) := Lib.hid fun h => by
            unfold RCkIs
            rw [h, ← HD2.out]
            exact ⟨CkIs.no _ _, HM3.out, HGW3.out⟩
          by_cases hlen : nO = n5
          · have u1 : ((nO : Int) != (n5 : Int)) = false := by simp [hlen]
            by_cases hdeg : dg < ((nI j n5 : Nat) : Int)
            · have u2 : decide (((nI j n5 : Nat) : Int) ≤ dg) = false := decide_eq_false (by omega)
              have HLD := Lib.hid (And.intro hlen hdeg)
              clear hlen hdeg
              go_wp2_with fail
              refine HDG.out.mono ?_
              rintro _ _ ⟨rfl, rfl⟩
              go_wp2
              clear d1 f1 f2 HNO
              have HFAIL : Hid (∀ wr, Below w3.heap.size w3 wr → okO q kk s e j f D n3 = false → RCkIs q kk m s e j f D n3 w (.returned (.tuple #[.slice none 0 0, .bool false])) wr) := Lib.hid fun wr hb h => by
                unfold RCkIs
                rw [h, ← HD2.out]
                exact ⟨CkIs.no _ _, HM3.out.below hb, grownBy_trans HGW3.out (grown_of_below hb (some m))⟩
              have HOL : Hid (f.opens.length = n5) := Lib.hid (by rw [HF.out.lO]; exact HLD.out.1)
              have d1 := (HB63.out.cell 1).trans (show _ = some (vi ((nI e 0 : Nat) : Int)) from rfl)
              go_wp2
              clear d0 d1
              go_loopw [20, 21] (fun v i wr => ∃ t : Nat, t ≤ n5 ∧ i = vi t ∧ v = vi ((nI e t : Nat) : Int) ∧ Below w3.heap.size w3 wr ∧ ∀ u, u < t → showF q kk (opnO f.opens u).l (opnO f.opens u).rs (opnO f.opens u).ns (f.roots.getD u []) ((nI e (u + 1) : Nat) : Int) (onceL (modL asks (nI e (u + 1)))) = true) (fun _ i _ => n5 - (intOf i).toNat)
              case atStart => exact ⟨0, Nat.zero_le _, rfl, rfl, Below.refl _ _, fun u hu => absurd hu (Nat.not_lt_zero _)⟩
              case round =>
                obtain ⟨t, ht, rfl, rfl, hb, hall⟩ := hrel
                have HALL := Lib.hid hall
                have HB := Lib.hid hb
                have hB9 := Blk.below HB93.out hb HB93.out.lt
                have hB6 := Blk.below HB63.out hb HB63.out.lt
                have HFB := Lib.hid (HF3.out.below hb)
                clear hall
                by_cases hlt : t < n5
                · have htr : t < f.roots.length := by rw [HYES.out]; exact hlt
                  have hto : t < f.opens.length := by rw [HOL.out]; exact hlt
                  have hst : nI e t = 2 * nI e (t + 1) := nI_step (by omega)
                  have hq : wrap64 (((nI e t : Nat) : Int) / 2) = ((nI e (t + 1) : Nat) : Int) := half_wrap hst (nI_le he t)
                  have hwt : IntKind.i64.wrap ((t : Int) + 1) = (t : Int) + 1 := step_wrap (by omega)
                  have i1 : (0 : Int) ≤ (t : Int) := by omega
                  have i2 : (t : Int) < (n5 : Int) := by omega
                  have i3 : (t : Int) < (nO : Int) := by rw [HLD.out.1]; exact i2
                  have HMO := Lib.hid (rmodulo5_any A3 n3 c3 asks HAL.out.1 (fun x hx => (HAL.out.2.2 x hx).1) (by omega) (nI e (t + 1)) (nI_pos _ _) (nI_le he _) wr (HAL.out.2.1.below hb))
                  have HI3 := Lib.hid i3
                  clear hst i3
                  go_wp2_with fail
                  refine HMO.out.mono ?_
                  rintro _ w7 ⟨v7, rfl, ho7, hb7⟩
                  obtain ⟨A7, n7, c7, rfl, hl7, _, _, hs7⟩ := ho7.shapeN
                  have HF7 := Lib.hid (HFB.out.below hb7)
                  obtain ⟨ar, A1, n1, c1, rfl, hb1', hc1, hl1, hn1, hs1, hi1⟩ := HF7.out.tR t htr
                  obtain ⟨ao, rfl, hE⟩ := HF7.out.tO t hto
                  obtain ⟨X0, x0, y0, XR, xR, yR, XN, xN, yN, q0, q1, q2, hop⟩ := hE.cells
                  have hB97 := Blk.below hB9 hb7 hB9.lt
                  have hB67 := Blk.below hB6 hb7 hB6.lt
                  have i3 := HI3.out
                  have hroot : f.roots.getD t [] = f.roots[t] := by rw [List.getD_eq_getElem?_getD, List.getElem?_eq_getElem htr, Option.getD_some]
                  have hopn : opnO f.opens t = f.opens[t] := by unfold opnO; rw [List.getD_eq_getElem?_getD, List.getElem?_eq_getElem hto, Option.getD_some]
                  have hml7 : n7 * 8 ≤ 140737488351232 := by
                    rw [← hl7]
                    have h1 := onceL_length (modL asks (nI e (t + 1)))
                    rw [modL_len, HAL.out.1] at h1
                    omega
                  have HSW : Hid (∀ W', Below w7.heap.size w7 W' → Calls Tryz.prog 44 #[vi (q : Int), .slice A1 n1 c1, vi ((nI e (t + 1) : Nat) : Int), .agg #[.slice X0 x0 y0, .slice XR xR yR, .slice XN xN yN], .slice A7 n7 c7, vi 2] W' (RCheckIs (showF q kk (opnO f.opens t).l (opnO f.opens t).rs (opnO f.opens t).ns (f.roots.getD t []) ((nI e (t + 1) : Nat) : Int) (onceL (modL asks (nI e (t + 1))))) W')) := Lib.hid fun W' hb' => by
                    rw [hroot, hopn]
                    exact rshows_any q kk HK.out A1 n1 c1 f.roots[t] ⟨hl1, hi1, by omega⟩ _ A7 n7 c7 _ hl7 hml7 W' (hs1.below hb') (hs7.below hb') (hop.below hb')
                  have e0 := (hB67.cell 0).trans (show _ = some (vi (q : Int)) from rfl)
                  have e1 := (hB97.cell 0).trans (show _ = some (.slice (some ar) n5 cR) from rfl)
                  have e2 := (hB97.cell 2).trans (show _ = some (.slice (some ao) nO cO) from rfl)
                  have KS : Hid (∀ W', Below w7.heap.size w7 W' → W'.cell? ⟨w.heap.size, 0, none⟩ = some (vi (q : Int)) ∧ W'.cell? ⟨w.heap.size + 1, 0, none⟩ = some (.slice (some ar) n5 cR) ∧ W'.cell? (ar.add t) = some (.slice A1 n1 c1) ∧ W'.cell? ⟨w.heap.size + 1, 2, none⟩ = some (.slice (some ao) nO cO) ∧ W'.cell? (ao.add (t * 3)) = some (.slice X0 x0 y0) ∧ W'.cell? ⟨(ao.add (t * 3)).block, (ao.add (t * 3)).off + 1, none⟩ = some (.slice XR xR yR) ∧ W'.cell? ⟨(ao.add (t * 3)).block, (ao.add (t * 3)).off + 2, none⟩ = some (.slice XN xN yN)) := Lib.hid fun W' hb' =>
                    ⟨(hb'.cell (block_lt_of_cell e0)).trans e0, (hb'.cell (block_lt_of_cell e1)).trans e1, (hb'.cell (block_lt_of_cell hc1)).trans hc1, (hb'.cell (block_lt_of_cell e2)).trans e2, (hb'.cell (block_lt_of_cell q0)).trans q0, (hb'.cell (block_lt_of_cell q1)).trans q1, (hb'.cell (block_lt_of_cell q2)).trans q2⟩
                  have hb77 : Below w7.heap.size w7 w7.drew := below_drewN (Below.refl _ _) 1
                  have HB7 := Lib.hid (HB.out.trans (hb7.mono HB.out.size))
                  obtain ⟨sB, hsB⟩ : ∃ sB, sB = showF q kk (opnO f.opens t).l (opnO f.opens t).rs (opnO f.opens t).ns (f.roots.getD t []) ((nI e (t + 1) : Nat) : Int) (onceL (modL asks (nI e (t + 1)))) := ⟨_, rfl⟩
                  rw [← hsB] at HSW
                  have HSB := Lib.hid hsB
                  clear hsB hE hop hB97 hB67 hroot hopn hml7 e0 e1 e2 q0 q1 q2 hc1 hl1 hn1 hs1 hi1 hb1' hl7 hs7 ho7 hb7 hb hB9 hB6 htr hto
                  go_wp2_with fail
                  refine wp_region_held_drew (S := fun W' => W'.cell? ⟨w.heap.size, 0, none⟩ = some (vi (q : Int)) ∧ W'.cell? ⟨w.heap.size + 1, 0, none⟩ = some (.slice (some ar) n5 cR) ∧ W'.cell? (ar.add t) = some (.slice A1 n1 c1) ∧ W'.cell? ⟨w.heap.size + 1, 2, none⟩ = some (.slice (some ao) nO cO) ∧ W'.cell? (ao.add (t * 3)) = some (.slice X0 x0 y0) ∧ W'.cell? ⟨(ao.add (t * 3)).block, (ao.add (t * 3)).off + 1, none⟩ = some (.slice XR xR yR) ∧ W'.cell? ⟨(ao.add (t * 3)).block, (ao.add (t * 3)).off + 2, none⟩ = some (.slice XN xN yN)) (by kernel_rfl) (KS.out _ hb77) (fun hHeld => ?_)
                  refine wpAnyH_take_at (i := 0) rfl rfl (by kernel_rfl) (by kernel_rfl) (by kernel_rfl) (fun _ _ _ h => h) (Or.inl ⟨by rfl, by (intro w hSw; (try dsimp only at hSw); go_simp; try with_reducible rfl)⟩) (by assumption) ?_
                  (try simp only [Act.put, List.setIfInBounds_toArray, List.set_cons_zero, List.set_cons_succ])
                  refine wpAnyH_take_at (i := 1) rfl rfl (by kernel_rfl) (by kernel_rfl) (by kernel_rfl) (fun _ _ _ h => h) (Or.inl ⟨by rfl, by (intro w hSw; (try dsimp only at hSw); go_simp; try with_reducible rfl)⟩) (by assumption) ?_
                  (try simp only [Act.put, List.setIfInBounds_toArray, List.set_cons_zero, List.set_cons_succ])
                  refine wpAnyH_take_at (i := 2) rfl rfl (by kernel_rfl) (by kernel_rfl) (by kernel_rfl) (fun _ _ _ h => h) (Or.inl ⟨by rfl, by (intro w hSw; (try dsimp only at hSw); go_simp; try with_reducible rfl)⟩) (by assumption) ?_
                  (try simp only [Act.put, List.setIfInBounds_toArray, List.set_cons_zero, List.set_cons_succ])
                  refine wpAnyH_take_at (i := 3) rfl rfl (by kernel_rfl) (by kernel_rfl) (by kernel_rfl) (fun _ _ _ h => h) (Or.inl ⟨by rfl, by (intro w hSw; (try dsimp only at hSw); go_simp; try with_reducible rfl)⟩) (by assumption) ?_
                  (try simp only [Act.put, List.setIfInBounds_toArray, List.set_cons_zero, List.set_cons_succ])
                  refine wpAnyH_take_at (i := 4) rfl rfl (by kernel_rfl) (by kernel_rfl) (by kernel_rfl) (fun _ _ _ h => h) (Or.inl ⟨by rfl, by (intro w hSw; (try dsimp only at hSw); go_simp; try with_reducible rfl)⟩) (by assumption) ?_
                  (try simp only [Act.put, List.setIfInBounds_toArray, List.set_cons_zero, List.set_cons_succ])
                  refine wpAnyH_take_at (i := 5) rfl rfl (by kernel_rfl) (by kernel_rfl) (by kernel_rfl) (fun _ _ _ h => h) (Or.inl ⟨by rfl, by (intro w hSw; (try dsimp only at hSw); go_simp; try with_reducible rfl)⟩) (by assumption) ?_
                  (try simp only [Act.put, List.setIfInBounds_toArray, List.set_cons_zero, List.set_cons_succ])
                  refine wpAnyH_take_at (i := 6) rfl rfl (by kernel_rfl) (by kernel_rfl) (by kernel_rfl) (fun _ _ _ h => h) (Or.inl ⟨by rfl, by (intro w hSw; (try dsimp only at hSw); go_simp; try with_reducible rfl)⟩) (by assumption) ?_
                  (try simp only [Act.put, List.setIfInBounds_toArray, List.set_cons_zero, List.set_cons_succ])
                  refine wpAnyH_take_at (i := 7) rfl rfl (by kernel_rfl) (by kernel_rfl) (by kernel_rfl) (fun _ _ _ h => h) (Or.inl ⟨by rfl, by (intro w hSw; (try dsimp only at hSw); go_simp; try with_reducible rfl)⟩) (by assumption) ?_
                  (try simp only [Act.put, List.setIfInBounds_toArray, List.set_cons_zero, List.set_cons_succ])
                  refine wpAnyH_take_at (i := 8) rfl rfl (by kernel_rfl) (by kernel_rfl) (by kernel_rfl) (fun _ _ _ h => h) (Or.inl ⟨by rfl, by (intro w hSw; (try dsimp only at hSw); go_simp; try with_reducible rfl)⟩) (by assumption) ?_
                  (try simp only [Act.put, List.setIfInBounds_toArray, List.set_cons_zero, List.set_cons_succ])
                  refine wpAnyH_take_at (i := 9) rfl rfl (by kernel_rfl) (by kernel_rfl) (by kernel_rfl) (fun _ _ _ h => h) (Or.inl ⟨by rfl, by (intro w hSw; (try dsimp only at hSw); go_simp; try with_reducible rfl)⟩) (by assumption) ?_
                  (try simp only [Act.put, List.setIfInBounds_toArray, List.set_cons_zero, List.set_cons_succ])
                  refine wpAnyH_take_at (i := 10) rfl rfl (by kernel_rfl) (by kernel_rfl) (by kernel_rfl) (fun _ _ _ h => h) (Or.inl ⟨by rfl, by (intro w hSw; (try dsimp only at hSw); go_simp; try with_reducible rfl)⟩) (by assumption) ?_
                  (try simp only [Act.put, List.setIfInBounds_toArray, List.set_cons_zero, List.set_cons_succ])
                  refine wpAnyH_take_at (i := 11) rfl rfl (by kernel_rfl) (by kernel_rfl) (by kernel_rfl) (fun _ _ _ h => h) (Or.inl ⟨by rfl, by (intro w hSw; (try dsimp only at hSw); go_simp; try with_reducible rfl)⟩) (by assumption) ?_
                  (try simp only [Act.put, List.setIfInBounds_toArray, List.set_cons_zero, List.set_cons_succ])
                  refine wpAnyH_take_at (i := 12) rfl rfl (by kernel_rfl) (by kernel_rfl) (by kernel_rfl) (fun _ _ _ h => h) (Or.inl ⟨by rfl, by (intro w hSw; (try dsimp only at hSw); go_simp; try with_reducible rfl)⟩) (by assumption) ?_
                  (try simp only [Act.put, List.setIfInBounds_toArray, List.set_cons_zero, List.set_cons_succ])
                  refine wpAnyH_take_at (i := 13) rfl rfl (by kernel_rfl) (by kernel_rfl) (by kernel_rfl) (fun _ _ _ h => h) (Or.inl ⟨by rfl, by (intro w hSw; (try dsimp only at hSw); go_simp; try with_reducible rfl)⟩) (by assumption) ?_
                  (try simp only [Act.put, List.setIfInBounds_toArray, List.set_cons_zero, List.set_cons_succ])
                  refine wpAnyH_ready (rs := [14]) (by kernel_rfl) (by simp) ?_
                  refine AllReadyH.cons rfl (fun K hK => ?_) AllReadyH.nil
                  go_simp
                  refine (HSW.out _ hb77).mono ?_
                  rintro _ w8 ⟨rfl, hb8'⟩
                  have hb8 : Below w7.heap.size w7 w8 := hb77.trans (hb8'.mono hb77.size)
                  refine hK.out _ _ (by (first | exact KS.out _ (by assumption) | (simp only [Act.put]; exact KS.out _ (by assumption)))) (fun hHeld => ?_)
                  clear hK K
                  (try simp only [Act.put, List.setIfInBounds_toArray, List.set_cons_zero, List.set_cons_succ])
                  refine wpAnyH_ready (rs := [15]) (by kernel_rfl) (by simp) ?_
                  refine AllReadyH.cons rfl (fun K hK => ?_) AllReadyH.nil
                  go_simp
                  refine hK.out _ _ (KS.out _ hb8) (fun hHeld => ?_)
                  clear hK K
                  (try simp only [Act.put, List.setIfInBounds_toArray, List.set_cons_zero, List.set_cons_succ])
                  refine wpAnyH_done (by kernel_rfl) ?_ _
                  have HB8 := Lib.hid (HB7.out.trans (hb8.mono HB7.out.size))
                  clear hHeld KS hb77 hb8 hb8'
                  cases sB with
                  | true =>
                    have HALL2 : Hid (∀ u, u < t + 1 → showF q kk (opnO f.opens u).l (opnO f.opens u).rs (opnO f.opens u).ns (f.roots.getD u []) ((nI e (u + 1) : Nat) : Int) (onceL (modL asks (nI e (u + 1)))) = true) := Lib.hid fun u hu => by
                      by_cases hut : u < t
                      · exact HALL.out u hut
                      · obtain rfl : u = t := by omega
                        exact HSB.out.symm
                    go_wp2
                    go_roundw
                    case rel => exact ⟨t + 1, Nat.succ_le_of_lt hlt, by go_num, by first | rfl | (rw [hq]), HB8.out, HALL2.out⟩
                    case measure => simp [intOf]; omega
                  | false =>
                    have HN := Lib.hid (HFAIL.out _ HB8.out (okO_show (u := t) (by rw [← HR.out]; exact hlt) (by rw [← HD2.out, ← HAS.out]; exact HSB.out.symm)))
                    go_wp2
                    exact bodyPost_ret (v := .tuple #[.slice none 0 0, .bool false]) (by simp [results, Tryz.results9, go_sem]) rfl HN.out
                · have et : t = n5 := by omega
                  subst et
                  obtain ⟨w4, hw4⟩ : ∃ w4, w4 = wr := ⟨_, rfl⟩
                  rw [← hw4] at HB ⊢
                  rw [← hw4] at hB9 hB6 HFB
                  have HB94 := Lib.hid hB9
                  have HB64 := Lib.hid hB6
                  clear hB9 hB6 ht hlt hb hw4
                  go_wp2
                  go_loopw [24] (fun i wr => ∃ u : Nat, u ≤ n3 ∧ i = vi u ∧ Below w4.heap.size w4 wr ∧ ∀ k (h : k < asks.length), k < u → goesO q s e f.opens (drR q kk D f.roots) f.last t asks[k] = true) (fun i _ => n3 - (intOf i).toNat)
                  case atStart => exact ⟨0, Nat.zero_le _, rfl, Below.refl _ _, fun k _ hk => absurd hk (Nat.not_lt_zero _)⟩
                  case round =>
                    obtain ⟨u, hu, rfl, hb, hall4⟩ := hrel
                    have HALL4 := Lib.hid hall4
                    have HB4R := Lib.hid hb
                    have HBX := Lib.hid (HB.out.trans (hb.mono HB.out.size))
                    have hB9 := Blk.below HB94.out hb HB94.out.lt
                    have hB6 := Blk.below HB64.out hb HB64.out.lt
                    have HFX := Lib.hid (HFB.out.below hb)
                    clear hall4
                    by_cases hlu : u < n3
                    · have hul : u < asks.length := by rw [HAL.out.1]; exact hlu
                      obtain ⟨ak, rfl, _, hca⟩ := (HAL.out.2.1.below HBX.out).at_ hul
                      have hpin := HAL.out.2.2 _ (List.getElem_mem hul)
                      have hpm : asks[u] ≤ 65536 := by
                        have := nI_le he 1
                        have : ((nI e 1 : Nat) : Int) ≤ 65536 := by omega
                        omega
                      have hok : ∀ i, i < t → OkO (opnO f.opens i) (asks[u] % (nI e (i + 1) : Int)) := fun i hi => okO_of (HALL.out i hi) (by rw [HAL.out.1]; omega) (List.getElem_mem hul)
                      have i1 : (0 : Int) ≤ (u : Int) := by omega
                      have i2 : (u : Int) < (n3 : Int) := by omega
                      have hwu : IntKind.i64.wrap ((u : Int) + 1) = (u : Int) + 1 := step_wrap (by omega)
                      have HPA : Hid (∀ W', Below wr.heap.size wr W' → Calls Tryz.prog 45 #[.agg (RDA q s e 0), .agg #[.slice AR t cR, .slice AL nL cL, .slice AO nO cO], .slice A5 t c5, vi asks[u]] W' fun e' w' => SaysW (.bool (goesO q s e f.opens (drR q kk D f.roots) f.last t asks[u])) W' e' w') := Lib.hid fun W' hb' =>
                        rpath_any q (by omega) hqm' s e he HSZ.out f (drR q kk D f.roots) t (by omega) (by rw [HOL.out]; exact Nat.le_refl _) A5 c5 (drLst q kk D f.roots t) (drLst_len _ _ _ _ _) (fun i h => by simp [drLst]) asks[u] hpin.1 hpm hok (i64_drR hqm' D f.roots) W' (HFX.out.below hb') (HDL.out.below (HBX.out.trans (hb'.mono HBX.out.size)))
                      have e0 := (hB6.cell 0).trans (show _ = some (vi (q : Int)) from rfl)
                      have e1 := (hB6.cell 1).trans (show _ = some (vi ((nI e 0 : Nat) : Int)) from rfl)
                      have e2 := (hB6.cell 2).trans (show _ = some (vi (fv (sqI s 0))) from rfl)
                      have e3 := (hB6.cell 3).trans (show _ = some (vi (fv (rootI q ((nI e 0 : Nat) : Int)))) from rfl)
                      have g0 := (hB9.cell 0).trans (show _ = some (.slice AR t cR) from rfl)
                      have g1 := (hB9.cell 1).trans (show _ = some (.slice AL nL cL) from rfl)
                      have g2 := (hB9.cell 2).trans (show _ = some (.slice AO nO cO) from rfl)
                      have KS : Hid (∀ W', Below wr.heap.size wr W' → W'.cell? ⟨w.heap.size, 0, none⟩ = some (vi (q : Int)) ∧ W'.cell? ⟨w.heap.size, 1, none⟩ = some (vi ((nI e 0 : Nat) : Int)) ∧ W'.cell? ⟨w.heap.size, 2, none⟩ = some (vi (fv (sqI s 0))) ∧ W'.cell? ⟨w.heap.size, 3, none⟩ = some (vi (fv (rootI q ((nI e 0 : Nat) : Int)))) ∧ W'.cell? ⟨w.heap.size + 1, 0, none⟩ = some (.slice AR t cR) ∧ W'.cell? ⟨w.heap.size + 1, 1, none⟩ = some (.slice AL nL cL) ∧ W'.cell? ⟨w.heap.size + 1, 2, none⟩ = some (.slice AO nO cO) ∧ W'.cell? (ak.add u) = some (vi asks[u])) := Lib.hid fun W' hb' =>
                        ⟨(hb'.cell (block_lt_of_cell e0)).trans e0, (hb'.cell (block_lt_of_cell e1)).trans e1, (hb'.cell (block_lt_of_cell e2)).trans e2, (hb'.cell (block_lt_of_cell e3)).trans e3, (hb'.cell (block_lt_of_cell g0)).trans g0, (hb'.cell (block_lt_of_cell g1)).trans g1, (hb'.cell (block_lt_of_cell g2)).trans g2, (hb'.cell (block_lt_of_cell hca)).trans hca⟩
                      have hbr : Below wr.heap.size wr wr.drew := below_drewN (Below.refl _ _) 1
                      obtain ⟨pl, hpl⟩ : ∃ pl, pl = asks[u] := ⟨_, rfl⟩
                      obtain ⟨gB, hgB⟩ : ∃ gB, gB = goesO q s e f.opens (drR q kk D f.roots) f.last t asks[u] := ⟨_, rfl⟩
                      rw [← hgB] at HPA
                      have HGB := Lib.hid hgB
                      rw [← hpl] at KS HPA
                      clear hgB hpl e0 e1 e2 e3 g0 g1 g2 hca hpin hpm hok hb hB9 hB6
                      go_wp2_with fail
                      refine wp_region_held_drew (S := fun W' => W'.cell? ⟨w.heap.size, 0, none⟩ = some (vi (q : Int)) ∧ W'.cell? ⟨w.heap.size, 1, none⟩ = some (vi ((nI e 0 : Nat) : Int)) ∧ W'.cell? ⟨w.heap.size, 2, none⟩ = some (vi (fv (sqI s 0))) ∧ W'.cell? ⟨w.heap.size, 3, none⟩ = some (vi (fv (rootI q ((nI e 0 : Nat) : Int)))) ∧ W'.cell? ⟨w.heap.size + 1, 0, none⟩ = some (.slice AR t cR) ∧ W'.cell? ⟨w.heap.size + 1, 1, none⟩ = some (.slice AL nL cL) ∧ W'.cell? ⟨w.heap.size + 1, 2, none⟩ = some (.slice AO nO cO) ∧ W'.cell? (ak.add u) = some (vi pl)) (by kernel_rfl) (KS.out _ hbr) (fun hHeld => ?_)
                      refine wpAnyH_take_at (i := 0) rfl rfl (by kernel_rfl) (by kernel_rfl) (by kernel_rfl) (fun _ _ _ h => h) (Or.inl ⟨by rfl, by (intro w hSw; (try dsimp only at hSw); go_simp; try with_reducible rfl)⟩) (by assumption) ?_
                      (try simp only [Act.put, List.setIfInBounds_toArray, List.set_cons_zero, List.set_cons_succ])
                      refine wpAnyH_take_at (i := 1) rfl rfl (by kernel_rfl) (by kernel_rfl) (by kernel_rfl) (fun _ _ _ h => h) (Or.inl ⟨by rfl, by (intro w hSw; (try dsimp only at hSw); go_simp; try with_reducible rfl)⟩) (by assumption) ?_
                      (try simp only [Act.put, List.setIfInBounds_toArray, List.set_cons_zero, List.set_cons_succ])
                      refine wpAnyH_take_at (i := 2) rfl rfl (by kernel_rfl) (by kernel_rfl) (by kernel_rfl) (fun _ _ _ h => h) (Or.inl ⟨by rfl, by (intro w hSw; (try dsimp only at hSw); go_simp; try with_reducible rfl)⟩) (by assumption) ?_
                      (try simp only [Act.put, List.setIfInBounds_toArray, List.set_cons_zero, List.set_cons_succ])
                      refine wpAnyH_take_at (i := 3) rfl rfl (by kernel_rfl) (by kernel_rfl) (by kernel_rfl) (fun _ _ _ h => h) (Or.inl ⟨by rfl, by (intro w hSw; (try dsimp only at hSw); go_simp; try with_reducible rfl)⟩) (by assumption) ?_
                      (try simp only [Act.put, List.setIfInBounds_toArray, List.set_cons_zero, List.set_cons_succ])
                      refine wpAnyH_take_at (i := 4) rfl rfl (by kernel_rfl) (by kernel_rfl) (by kernel_rfl) (fun _ _ _ h => h) (Or.inl ⟨by rfl, by (intro w hSw; (try dsimp only at hSw); go_simp; try with_reducible rfl)⟩) (by assumption) ?_
                      (try simp only [Act.put, List.setIfInBounds_toArray, List.set_cons_zero, List.set_cons_succ])
                      refine wpAnyH_take_at (i := 5) rfl rfl (by kernel_rfl) (by kernel_rfl) (by kernel_rfl) (fun _ _ _ h => h) (Or.inl ⟨by rfl, by (intro w hSw; (try dsimp only at hSw); go_simp; try with_reducible rfl)⟩) (by assumption) ?_
                      (try simp only [Act.put, List.setIfInBounds_toArray, List.set_cons_zero, List.set_cons_succ])
                      refine wpAnyH_take_at (i := 6) rfl rfl (by kernel_rfl) (by kernel_rfl) (by kernel_rfl) (fun _ _ _ h => h) (Or.inl ⟨by rfl, by (intro w hSw; (try dsimp only at hSw); go_simp; try with_reducible rfl)⟩) (by assumption) ?_
                      (try simp only [Act.put, List.setIfInBounds_toArray, List.set_cons_zero, List.set_cons_succ])
                      refine wpAnyH_ready (rs := [7]) (by kernel_rfl) (by simp) ?_
                      refine AllReadyH.cons rfl (fun K hK => ?_) AllReadyH.nil
                      go_simp
                      refine (HPA.out _ hbr).mono ?_
                      rintro _ w8 ⟨rfl, hb8'⟩
                      have hb8 : Below wr.heap.size wr w8 := hbr.trans (hb8'.mono hbr.size)
                      refine hK.out _ _ (by (first | exact KS.out _ (by assumption) | (simp only [Act.put]; exact KS.out _ (by assumption)))) (fun hHeld => ?_)
                      clear hK K
                      (try simp only [Act.put, List.setIfInBounds_toArray, List.set_cons_zero, List.set_cons_succ])
                      refine wpAnyH_ready (rs := [8]) (by kernel_rfl) (by simp) ?_
                      refine AllReadyH.cons rfl (fun K hK => ?_) AllReadyH.nil
                      go_simp
                      refine hK.out _ _ (KS.out _ hb8) (fun hHeld => ?_)
                      clear hK K
                      (try simp only [Act.put, List.setIfInBounds_toArray, List.set_cons_zero, List.set_cons_succ])
                      refine wpAnyH_done (by kernel_rfl) ?_ _
                      have HB8 := Lib.hid (HBX.out.trans (hb8.mono HBX.out.size))
                      have HB48 := Lib.hid (hb8)
                      clear hHeld KS hbr hb8 hb8'
                      cases gB with
                      | true =>
                        have HALL5 : Hid (∀ k (h : k < asks.length), k < u + 1 → goesO q s e f.opens (drR q kk D f.roots) f.last t asks[k] = true) := Lib.hid fun k h hk => by
                          by_cases hku : k < u
                          · exact HALL4.out k h hku
                          · obtain rfl : k = u := by omega
                            exact HGB.out.symm
                        have HB4S := Lib.hid (HB4R.out.trans (HB48.out.mono HB4R.out.size))
                        go_wp2
                        go_roundw
                        case rel => exact ⟨u + 1, by omega, by go_num, HB4S.out, HALL5.out⟩
                        case measure => simp [intOf]; omega
                      | false =>
                        have HN := Lib.hid (HFAIL.out _ HB8.out (okO_goes (x := asks[u]) (by rw [← HD2.out, ← HAS.out]; exact List.getElem_mem hul) (by rw [← HR.out]; exact HGB.out.symm)))
                        go_wp2
                        exact bodyPost_ret (v := .tuple #[.slice none 0 0, .bool false]) (by simp [results, Tryz.results9, go_sem]) rfl HN.out
                    · have eu : u = n3 := by omega
                      have hok : okO q kk s e j f D n3 = true := okO_true (by rw [← HR.out, HOL.out]) (by rw [← HR.out, ← HDGE.out]; exact HLD.out.2) (fun v hv => by rw [← HD2.out, ← HAS.out]; exact HALL.out v (by rw [HR.out]; exact hv)) (fun x hx => by
                        rw [← HD2.out, ← HAS.out] at hx
                        obtain ⟨v, hv, rfl⟩ := List.mem_iff_getElem.1 hx
                        rw [← HR.out]
                        exact HALL4.out v hv (by rw [eu, ← HAL.out.1]; exact hv))
                      have HFIN : Hid (RCkIs q kk m s e j f D n3 w (.returned (.tuple #[.slice A3 n3 c3, .bool true])) wr) := Lib.hid (by
                        unfold RCkIs
                        rw [hok, if_pos rfl, ← HD2.out, ← HAS.out]
                        exact ⟨⟨A3, n3, c3, rfl, HAL.out.1, by omega, HAL.out.2.1.below HBX.out, fun x hx => by
                          have h1 := HAL.out.2.2 x hx
                          have := nI_le he 1
                          constructor <;> omega, HA3.out⟩, HM3.out.below HBX.out, grownBy_trans HGW3.out (grown_of_below HBX.out (some m))⟩)
                      clear hok hu hlu hb hB9 hB6
                      go_wp2
                      exact bodyPost_ret (v := .tuple #[.slice A3 n3 c3, .bool true]) (by simp [results, Tryz.results9, go_sem]) rfl HFIN.out
            · have u2 : decide (((nI j n5 : Nat) : Int) ≤ dg) = true := decide_eq_true (by omega)
              have HN := Lib.hid (HNO.out (okO_deg (by rw [← HR.out, ← HDGE.out]; exact hdeg)))
              clear hlen hdeg
              go_wp2_with fail
              refine HDG.out.mono ?_
              rintro _ _ ⟨rfl, rfl⟩
              go_wp2
              exact bodyPost_ret (v := .tuple #[.slice none 0 0, .bool false]) (by simp [results, Tryz.results9, go_sem]) rfl HN.out
          · have u1 : ((nO : Int) != (n5 : Int)) = true := by rw [bne_iff_ne]; omega
            have HN := Lib.hid (HNO.out (okO_len (by rw [← HR.out, HF.out.lO]; exact hlen)))
            clear hlen
            go_wp2_with fail
            refine HDG.out.mono ?_
            rintro _ _ ⟨rfl, rfl⟩
            go_wp2
            exact bodyPost_ret (v := .tuple #[.slice none 0 0, .bool false]) (by simp [results, Tryz.results9, go_sem]) rfl HN.out
end Go.Proofs.YtflkiddmakeabaaGreatDoor

/- Contracts of Go's library, laid at this program: each function of the shelf's beside its own number here. -/
set_option linter.unusedVariables false
namespace Go.Proofs.YtflkiddmakeabaaGreatDoor
open Go.Shelf
def shSort_ren : Go.Shelf.Ren := ⟨fun | 5 => 76 | 8 => 129 | 7 => 128 | 19 => 166 | 20 => 167 | 10 => 157 | 11 => 158 | 12 => 159 | 13 => 160 | 14 => 161 | 15 => 162 | 16 => 163 | 17 => 164 | 18 => 165 | 30 => 182 | 31 => 183 | 32 => 184 | 33 => 185 | 34 => 186 | 35 => 187 | 40 => 189 | n => n, fun | 23 => 22 | 25 => 3 | 3 => 3 | 32 => 161 | 22 => 22 | 0 => 0 | 44 => 204 | 46 => 206 | 4 => 4 | 36 => 198 | 35 => 197 | 41 => 166 | 5 => 5 | 9 => 9 | 53 => 229 | 57 => 233 | 63 => 235 | 64 => 236 | n => n, fun | n => n⟩
theorem shSort : Go.Proofs.SlLaysM.n5 Tryz.prog shSort_ren := {
  mixed := by kernel_rfl
  f5 := ⟨Tryz.f76.name, by decide, Tryz.func76.trans (congrArg some (by kernel_rfl))⟩
  f7 := ⟨Tryz.f128.name, by decide, Tryz.func128.trans (congrArg some (by kernel_rfl))⟩
  f8 := Tryz.func129.trans (congrArg some (by kernel_rfl))
  f10 := ⟨Tryz.f157.name, by decide, Tryz.func157.trans (congrArg some (by kernel_rfl))⟩
  f11 := ⟨Tryz.f158.name, by decide, Tryz.func158.trans (congrArg some (by kernel_rfl))⟩
  f12 := ⟨Tryz.f159.name, by decide, Tryz.func159.trans (congrArg some (by kernel_rfl))⟩
  f13 := ⟨Tryz.f160.name, by decide, Tryz.func160.trans (congrArg some (by kernel_rfl))⟩
  f14 := ⟨Tryz.f161.name, by decide, Tryz.func161.trans (congrArg some (by kernel_rfl))⟩
  f15 := ⟨Tryz.f162.name, by decide, Tryz.func162.trans (congrArg some (by kernel_rfl))⟩
  f16 := ⟨Tryz.f163.name, by decide, Tryz.func163.trans (congrArg some (by kernel_rfl))⟩
  f17 := ⟨Tryz.f164.name, by decide, Tryz.func164.trans (congrArg some (by kernel_rfl))⟩
  f18 := ⟨Tryz.f165.name, by decide, Tryz.func165.trans (congrArg some (by kernel_rfl))⟩
  f19 := Tryz.func166.trans (congrArg some (by kernel_rfl))
  f20 := Tryz.func167.trans (congrArg some (by kernel_rfl))
  f30 := ⟨Tryz.f182.name, by decide, Tryz.func182.trans (congrArg some (by kernel_rfl))⟩
  f31 := Tryz.func183.trans (congrArg some (by kernel_rfl))
  f32 := Tryz.func184.trans (congrArg some (by kernel_rfl))
  f33 := ⟨Tryz.f185.name, by decide, Tryz.func185.trans (congrArg some (by kernel_rfl))⟩
  f34 := ⟨Tryz.f186.name, by decide, Tryz.func186.trans (congrArg some (by kernel_rfl))⟩
  f35 := ⟨Tryz.f187.name, by decide, Tryz.func187.trans (congrArg some (by kernel_rfl))⟩
  f40 := ⟨Tryz.f189.name, by decide, Tryz.func189.trans (congrArg some (by kernel_rfl))⟩
  t0 := Tryz.underlying0
  a0 := Tryz.isAgg0
  z0 := Tryz.sizeOf0
  v0 := Tryz.zeroValue0
  t3 := Tryz.underlying3
  a3 := Tryz.isAgg3
  z3 := Tryz.sizeOf3
  v3 := Tryz.zeroValue3
  t4 := Tryz.underlying4
  a4 := Tryz.isAgg4
  z4 := Tryz.sizeOf4
  v4 := Tryz.zeroValue4
  t5 := Tryz.underlying5
  a5 := Tryz.isAgg5
  z5 := Tryz.sizeOf5
  v5 := Tryz.zeroValue5
  t9 := Tryz.underlying9
  a9 := Tryz.isAgg9
  z9 := Tryz.sizeOf9
  v9 := Tryz.zeroValue9
  t22 := Tryz.underlying22
  a22 := Tryz.isAgg22
  z22 := Tryz.sizeOf22
  v22 := Tryz.zeroValue22
  t23 := Tryz.underlying22
  a23 := Tryz.isAgg22
  z23 := Tryz.sizeOf22
  v23 := Tryz.zeroValue22
  t25 := Tryz.underlying3
  a25 := Tryz.isAgg3
  z25 := Tryz.sizeOf3
  v25 := Tryz.zeroValue3
  t32 := Tryz.underlying161
  a32 := Tryz.isAgg161
  z32 := Tryz.sizeOf161
  v32 := Tryz.zeroValue161
  t35 := Tryz.underlying197
  a35 := Tryz.isAgg197
  z35 := Tryz.sizeOf197
  v35 := Tryz.zeroValue197
  t36 := Tryz.underlying198
  a36 := Tryz.isAgg198
  z36 := Tryz.sizeOf198
  v36 := Tryz.zeroValue198
  t41 := Tryz.underlying166
  a41 := Tryz.isAgg166
  z41 := Tryz.sizeOf166
  v41 := Tryz.zeroValue166
  t44 := Tryz.underlying204
  a44 := Tryz.isAgg204
  z44 := Tryz.sizeOf204
  v44 := Tryz.zeroValue204
  t46 := Tryz.underlying206
  a46 := Tryz.isAgg206
  z46 := Tryz.sizeOf206
  v46 := Tryz.zeroValue206
  t53 := Tryz.underlying229
  a53 := Tryz.isAgg229
  z53 := Tryz.sizeOf229
  v53 := Tryz.zeroValue229
  t57 := Tryz.underlying233
  a57 := Tryz.isAgg233
  z57 := Tryz.sizeOf233
  v57 := Tryz.zeroValue233
  t63 := Tryz.underlying235
  a63 := Tryz.isAgg235
  z63 := Tryz.sizeOf235
  v63 := Tryz.zeroValue235
  t64 := Tryz.underlying236
  a64 := Tryz.isAgg236
  z64 := Tryz.sizeOf236
  v64 := Tryz.zeroValue236 }
def shCompact_ren : Go.Shelf.Ren := ⟨fun | 43 => 78 | n => n, fun | 22 => 22 | 23 => 3 | 3 => 3 | 4 => 4 | 0 => 0 | n => n, fun | n => n⟩
theorem shCompact : Go.Proofs.SlLaysN.n43 Tryz.prog shCompact_ren := {
  mixed := by kernel_rfl
  f43 := ⟨Tryz.f78.name, by decide, Tryz.func78.trans (congrArg some (by kernel_rfl))⟩
  t0 := Tryz.underlying0
  a0 := Tryz.isAgg0
  z0 := Tryz.sizeOf0
  v0 := Tryz.zeroValue0
  t3 := Tryz.underlying3
  a3 := Tryz.isAgg3
  z3 := Tryz.sizeOf3
  v3 := Tryz.zeroValue3
  t4 := Tryz.underlying4
  a4 := Tryz.isAgg4
  z4 := Tryz.sizeOf4
  v4 := Tryz.zeroValue4
  t22 := Tryz.underlying22
  a22 := Tryz.isAgg22
  z22 := Tryz.sizeOf22
  v22 := Tryz.zeroValue22
  t23 := Tryz.underlying3
  a23 := Tryz.isAgg3
  z23 := Tryz.sizeOf3
  v23 := Tryz.zeroValue3
  i23 := by kernel_rfl }
end Go.Proofs.YtflkiddmakeabaaGreatDoor

/- slices.Sort, Compact, Clip at ints of one's own, in this claim's words; sorted and compacted is: each once, ascending. -/
set_option linter.unusedVariables false
namespace Zp
open Go.Lib
theorem compactUpTo_asc (d : Array Int) (hs : ∀ i j, i ≤ j → j < d.size → d[i]! ≤ d[j]!) : ∀ m, m ≤ d.size → Asc (compactUpTo d m) ∧ ∀ x, x ∈ compactUpTo d m ↔ ∃ j, j < m ∧ d[j]! = x
  | 0, _ => ⟨by simp [compactUpTo, Asc], fun x => by simp [compactUpTo]⟩
  | m + 1, hm => by
    obtain ⟨ha, hx⟩ := compactUpTo_asc d hs m (by omega)
    rw [compactUpTo_succ]
    by_cases hk : keeps d m = true
    · rw [if_pos hk]
      constructor
      · refine List.pairwise_append.2 ⟨ha, by simp, fun a h1 b h2 => ?_⟩
        rw [List.mem_singleton] at h2
        subst h2
        obtain ⟨j, hj, rfl⟩ := (hx a).1 h1
        unfold keeps at hk
        have hk' := of_decide_eq_true hk
        rcases hk' with h0 | h0
        · omega
        · have e1 := hs j (m - 1) (by omega) (by omega)
          have e2 := hs (m - 1) m (by omega) (by omega)
          omega
      · intro x
        rw [List.mem_append, hx, List.mem_singleton]
        constructor
        · rintro (⟨j, hj, e⟩ | e)
          · exact ⟨j, by omega, e⟩
          · exact ⟨m, by omega, e.symm⟩
        · rintro ⟨j, hj, e⟩
          by_cases h : j < m
          · exact .inl ⟨j, h, e⟩
          · obtain rfl : j = m := by omega
            exact .inr e.symm
    · rw [if_neg hk, List.append_nil]
      refine ⟨ha, fun x => ?_⟩
      rw [hx]
      constructor
      · rintro ⟨j, hj, e⟩; exact ⟨j, by omega, e⟩
      · rintro ⟨j, hj, e⟩
        by_cases h : j < m
        · exact ⟨j, h, e⟩
        · obtain rfl : j = m := by omega
          unfold keeps at hk
          have hk' : ¬ (j = 0 ∨ d[j]! ≠ d[j - 1]!) := fun h => hk (decide_eq_true h)
          have h0 : j ≠ 0 := fun h => hk' (.inl h)
          have h1 : d[j]! = d[j - 1]! := Classical.byContradiction fun h => hk' (.inr h)
          exact ⟨j - 1, by omega, by rw [← h1]; exact e⟩
theorem compact_sorted {l : List Int} (h : l.Pairwise (· ≤ ·)) : Asc (compact l) ∧ ∀ x, x ∈ compact l ↔ x ∈ l := by
  have hg : ∀ (i : Nat) (hi : i < l.length), l.toArray[i]! = l[i] := fun i hi => by rw [getElem!_pos _ i (by simpa using hi)]; simp
  have hs : ∀ i j, i ≤ j → j < l.toArray.size → l.toArray[i]! ≤ l.toArray[j]! := fun i j hij hj => by
    have hj' : j < l.length := by simpa using hj
    rw [hg i (by omega), hg j hj']
    rcases Nat.lt_or_ge i j with h1 | h1
    · exact List.pairwise_iff_getElem.1 h i j (by omega) hj' h1
    · obtain rfl : i = j := by omega
      exact Int.le_refl _
  obtain ⟨h1, h2⟩ := compactUpTo_asc l.toArray hs l.length (by simp)
  refine ⟨h1, fun x => (h2 x).trans ?_⟩
  constructor
  · rintro ⟨j, hj, e⟩; rw [hg j hj] at e; subst e; exact List.getElem_mem _
  · intro hx
    obtain ⟨j, hj, e⟩ := List.mem_iff_getElem.1 hx
    exact ⟨j, hj, by rw [hg j hj]; exact e⟩
theorem compact_once (l : List Int) : compact (l.mergeSort fun x y => decide (x ≤ y)) = onceL l := by
  have hp : (l.mergeSort fun x y => decide (x ≤ y)).Pairwise (· ≤ ·) := by
    have := List.pairwise_mergeSort (le := fun x y : Int => decide (x ≤ y)) (fun a b c h1 h2 => by simp at *; omega) (fun a b => by simp; omega) l
    exact this.imp (fun h => by simpa using h)
  obtain ⟨h1, h2⟩ := compact_sorted hp
  exact onceL_of h1 fun x => (h2 x).trans List.mem_mergeSort
end Zp
namespace Go.Proofs.YtflkiddmakeabaaGreatDoor
open Go.RowKit Zp
theorem putCells_take {off : Nat} {zs : List Int} {c : Array Value} (hz : zs.length ≤ c.size) : (Go.Sort.putCells (Value.int .i64) 0 zs.toArray c).toList.take zs.length = zs.map vi := by
  apply List.ext_getElem?
  intro j
  rw [List.getElem?_take, List.getElem?_map]
  by_cases hj : j < zs.length
  · rw [if_pos hj]
    have e1 : (Go.Sort.putCells (Value.int .i64) 0 zs.toArray c)[j]? = some (.int .i64 zs.toArray[j]!) := by
      unfold Go.Sort.putCells
      rw [Array.getElem?_mapIdx, Array.getElem?_eq_getElem (by omega)]
      simp [hj]
    rw [Array.getElem?_toList, e1, List.getElem?_eq_getElem hj, getElem!_pos _ j (by simpa using hj)]
    simp
  · rw [if_neg hj, List.getElem?_eq_none (by omega)]
    rfl
/-- the cells of one's own ints turned -/
theorem own_put {w : World} {base g n c : Nat} {l zs : List Int} (h : Own w base (.slice (some ⟨g, 0, none⟩) n c) l) (hz : zs.length = l.length) (q : Nat) (os : Array Obj) :
    Own (Go.Sort.grow (Go.Sort.putRow (Value.int .i64) (Go.Sort.ahead w q) g 0 zs.toArray) os) base (.slice (some ⟨g, 0, none⟩) n c) zs ∧ w.grownBy (Go.Sort.grow (Go.Sort.putRow (Value.int .i64) (Go.Sort.ahead w q) g 0 zs.toArray) os) (some g) := by
  obtain ⟨h1, h2⟩ := h
  rcases h2 with ⟨e, _⟩ | ⟨g', cap, cur, e, hb, hg, hn, hc, hs, ht⟩
  · injection e with e; cases e
  · injection e with e1 e2 e3
    injection e1 with e1
    injection e1 with e1
    subst e1 e2 e3
    have hlt : g < w.heap.size := (Array.getElem?_eq_some_iff.1 hg).1
    refine ⟨⟨by simp, .inr ⟨g, c, Go.Sort.putCells (Value.int .i64) 0 zs.toArray cur, by rw [hz], hb, ?_, by rw [hz]; exact hn, hc, ?_, ?_⟩⟩, ⟨rfl, rfl, rfl, by simp, fun i hi hne => ?_⟩⟩
    · rw [Go.Sort.heap_grow_old _ _ (by simpa using hlt)]
      simp only [Go.Sort.putRow, Go.Sort.mapBlock, Go.Sort.heap_ahead, Array.getElem?_modify, if_true, hg, Option.map_some, Go.Sort.onCells]
    · simpa [Go.Sort.putCells] using hs
    · rw [Nat.mul_one]
      exact putCells_take (off := 0) (by rw [hz]; omega)
    · rw [Go.Sort.heap_grow_old _ _ (by simpa using hi)]
      have : g ≠ i := fun e => hne (by rw [e])
      simp only [Go.Sort.putRow, Go.Sort.mapBlock, Go.Sort.heap_ahead, Array.getElem?_modify, if_neg this]
theorem own_holds {w : World} {base g n c : Nat} {l : List Int} (h : Own w base (.slice (some ⟨g, 0, none⟩) n c) l) (hn : n = l.length) : Go.Sort.Holds (Value.int .i64) w g 0 l.toArray := fun j hj => by
  have hj' : j < l.length := by simpa using hj
  rw [Nat.zero_add, getElem!_pos _ j hj]
  exact ⟨by simpa using h.at_ hn j hj', h.frozen_ hn j⟩
/-- what a turn of the caller's own ints leaves -/
def Turned (base : Nat) (v u : Value) (l : List Int) (w : World) (w' : World) : Prop := Own w' base v l ∧ w.grownBy w' u.ownBlock
theorem sort_any {w : World} {base n c : Nat} {A : Option Addr} {l : List Int} (h : Own w base (.slice A n c) l) (hl : l.length = n) (hn : n ≤ 4000000000000000000) :
    Calls Tryz.prog 76 #[.slice A n c] w fun e w' => e = .returned (.tuple #[]) ∧ Turned base (.slice A n c) (.slice A n c) (l.mergeSort fun x y => decide (x ≤ y)) w w' := by
  rcases h.2 with ⟨e, h0⟩ | ⟨g, cap, cur, e, _, hg, _⟩
  · injection e with e1 e2 e3
    subst e1 e2 e3
    have hle : l = [] := List.eq_nil_of_length_eq_zero h0
    subst hle
    refine (Go.Proofs.AnyM.slices_Sort_int_none shSort none 0 w).mono ?_
    rintro e w' ⟨rfl, rfl⟩
    exact ⟨rfl, by rw [List.mergeSort_nil]; exact h, ⟨rfl, rfl, rfl, Nat.le_refl _, fun _ _ _ => rfl⟩⟩
  · injection e with e1 e2 e3
    subst e1 e3
    have hk := Go.Proofs.AnyM.slices_Sort_int shSort g 0 c l w (own_holds h hl.symm) (Array.getElem?_eq_some_iff.1 hg).1 (by omega)
    rw [hl] at hk
    refine hk.mono ?_
    rintro e w' ⟨rfl, q, os, rfl⟩
    exact ⟨rfl, own_put h (by simp) q os⟩
theorem own_cut {w : World} {base n c k : Nat} {A : Option Addr} {l : List Int} (h : Own w base (.slice A n c) l) (hl : l.length = n) (hk : k ≤ n) : Own w base (.slice A k c) (l.take k) := by
  have hlk : (l.take k).length = k := by rw [List.length_take]; omega
  rcases h.2 with ⟨e, h0⟩ | ⟨g, cap, cur, e, hb, hg, hn, hc, hs, ht⟩
  · injection e with e1 e2 e3
    subst e1 e2 e3
    refine ⟨by simp, .inl ⟨?_, by omega⟩⟩
    have : k = 0 := by omega
    rw [this]
  · injection e with e1 e2 e3
    subst e1 e2 e3
    refine ⟨by simp, .inr ⟨g, c, cur, by rw [hlk], hb, hg, by omega, hc, hs, ?_⟩⟩
    rw [List.map_take, ← ht, List.take_take, hlk]
    congr 1
    omega
theorem compact_any {w : World} {base n c : Nat} {A : Option Addr} {l : List Int} (h : Own w base (.slice A n c) l) (hl : l.length = n) (hn : n ≤ 4000000000000000000) :
    Calls Tryz.prog 78 #[.slice A n c] w fun e w' => e = .returned (.slice A (Go.Lib.compact l).length c) ∧ Turned base (.slice A (Go.Lib.compact l).length c) (.slice A n c) (Go.Lib.compact l) w w' := by
  rcases h.2 with ⟨e, h0⟩ | ⟨g, cap, cur, e, _, hg, hnc, _⟩
  · injection e with e1 e2 e3
    subst e1 e2 e3
    have hle : l = [] := List.eq_nil_of_length_eq_zero h0
    subst hle
    refine (Go.Proofs.AnyG.slices_Compact_int_empty shCompact none 0 w).mono ?_
    rintro e w' ⟨rfl, rfl⟩
    exact ⟨rfl, h, ⟨rfl, rfl, rfl, Nat.le_refl _, fun _ _ _ => rfl⟩⟩
  · injection e with e1 e2 e3
    subst e1 e3
    have hk := Go.Proofs.AnyG.slices_Compact_int shCompact g 0 c l w (own_holds h hl.symm) (by omega) (by omega)
    rw [hl] at hk
    refine hk.mono ?_
    rintro e w' ⟨rfl, q, rfl⟩
    have hcl : (Go.Lib.compact l).length ≤ l.length := by unfold Go.Lib.compact Go.Lib.compactUpTo; rw [List.length_map]; exact Nat.le_trans (List.length_filter_le _ _) (by simp)
    have hp := own_put h (zs := Go.Lib.compact l ++ List.replicate (n - (Go.Lib.compact l).length) 0) (by simp; omega) q #[]
    rw [Go.Sort.grow_empty] at hp
    have hc2 := own_cut hp.1 (k := (Go.Lib.compact l).length) (by simp; omega) (by omega)
    rw [List.take_left' rfl] at hc2
    exact ⟨rfl, hc2, hp.2⟩
end Go.Proofs.YtflkiddmakeabaaGreatDoor
