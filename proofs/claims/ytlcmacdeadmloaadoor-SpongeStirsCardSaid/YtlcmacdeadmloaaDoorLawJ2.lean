/- The walk of law3.SpongeStirs. -/
import Derived.Test.YtlcmacdeadmloaaDoorSs
import Derived.Test.YtlcmacdeadmloaaDoorUp
import Derived.Test.YtlcmacdeadmloaaDoorHr
import Derived.Test.YtlcmacdeadmloaaDoorInts
import Derived.Test.YtlcmacdeadmloaaDoorArg
set_option linter.unusedVariables false
namespace Go.Proofs.YtlcmacdeadmloaaDoor
open Go.RowKit Zp

section
variable {p : Nat} [NeZero p] {w : World} {s b k z : Nat} {oo : Nat → Nat → Fin p}
/-- the power is below p -/
theorem Spg.klt (G : Spg w s b k z oo) (h3 : 4 ≤ p) : k < p := by
  have h1 : k ≤ p - 2 := by
    rcases Nat.lt_or_ge (p - 2) k with h | h
    · refine absurd ?_ (G.least (p - 2) (by omega) h)
      have h2 : Nat.gcd (p - 2) (p - 1) ∣ 1 := by
        have a1 := Nat.gcd_dvd_left (p - 2) (p - 1)
        have a2 := Nat.gcd_dvd_right (p - 2) (p - 1)
        have := Nat.dvd_sub a2 a1
        rwa [show p - 1 - (p - 2) = 1 by omega] at this
      exact Nat.dvd_one.1 h2
    · exact h
  omega
end
set_option maxRecDepth 100000 in
set_option maxHeartbeats 4000000 in
theorem spongeStirs_walk (w : World) (p : Int) (hp : I64 p) (A : Option Addr) (na ca : Nat) (xs : List Int) (ha : ArgS w A na ca xs) (hT : Typed w) :
    Calls Tryd.prog 5 #[vi p, .slice A na ca] w fun e w' => SaysW (.bool true) w e w' := by
  by_cases h : HasSponge p
  · obtain ⟨n, rfl, h23, hm, hpr⟩ := hasSponge_nat h
    haveI := hpr.ne
    have HS := Lib.hid (ssponge_yes n h23 hm hpr w hT)
    have HA := Lib.hid ha
    have HLA := Lib.hid ha.len
    have ra : na * 8 ≤ 140737488351232 := by rw [← ha.len]; exact ha.r8
    have h3 : 3 ≤ n := by omega
    clear h hpr ha hT
    go_enter Tryd.func5, Tryd.ntmps5
    go_wp2_with fail
    refine (HS.out).mono ?_
    rintro _ w1 ⟨s, b, k, z, oo, rfl, F, G, hs1, hs2, hb1⟩
    have hba1 : Below w1.heap.size w1 (w1.alloc (.cells #[] 3)) := (Below.refl _ _).alloc (Nat.le_refl _) _
    have ho1 := own_empty w1 w1.heap.size (Nat.le_refl _)
    have sa1' := (HA.out.sl.below hb1).below hba1
    go_wp2_with (at_builtin; refine wpList_appA _ rfl _ _ rfl w1.heap.size _ [] A na ca xs rfl rfl HLA.out ho1 sa1' (by simp; omega) (by simp) ?_; intro v' w2 hg; have hown := hg.own; have hb2 := hg.below hba1 ho1 (Nat.le_refl _) (by simp); rw [List.nil_append] at hown; clear hg; obtain ⟨AX, n2, cX, rfl, hl2, hcX, hmX, sx2⟩ := hown.shapeN; rw [HLA.out] at hl2; subst hl2; clear hown)
    have F2 := F.below hb2 F.le
    have G2 := G.below hb2 hs2
    have hs3 : s < w2.heap.size := Nat.lt_of_lt_of_le hs2 hb2.size
    have HB2 := Lib.hid (hb1.trans (hb2.mono hb1.size))
    have sa2 := HA.out.sl.below HB2.out
    have klt := G2.klt (by omega)
    have HF := Lib.hid F2
    have HG := Lib.hid G2
    have HSX := Lib.hid sx2
    have HSA := Lib.hid sa2
    clear F G F2 G2 hb2 hba1 ho1 sa1' hb1 sa2 sx2 HS
    by_cases h8 : na = 8
    · subst h8
      have hxI := i64_getD3 HA.out.i64
      obtain ⟨ad, rfl, had, hca⟩ := sl8 HSX.out HLA.out
      have HM1 := Lib.hid (permute_any n _ b s k z oo ad cX (fun i => xs.getD i 0) hxI w2 HF.out HG.out hca)
      have HCA := Lib.hid hca
      clear hca
      refine (HM1.out).mono ?_
      rintro _ w3 ⟨v3, rfl, ho3, hb3⟩
      have HB3 := Lib.hid hb3
      have HO3 := Lib.hid ho3
      have HM2 := Lib.hid (mix_any n _ b s k z oo ad cX (fun i => xs.getD i 0) hxI w3 (HF.out.below hb3 HF.out.le) (HG.out.below hb3 hs3) (Nat.lt_of_lt_of_le had hb3.size) (fun i hi => (hb3.cell (p := ad.add i) (by unfold Addr.add; split <;> exact had)).trans (HCA.out i hi)))
      obtain ⟨A3, n3, c3, rfl, hl3, hc3, hm3, _⟩ := ho3.shapeN
      have e3 : n3 = 8 := by rw [← hl3]; simp
      subst e3
      clear hb3 ho3 hl3 hc3
      go_wp2_with fail
      refine (HM2.out).mono ?_
      rintro _ w4 ⟨v4, rfl, ho4, hb4⟩
      have HB4 := Lib.hid hb4
      have HO4 := Lib.hid ho4
      obtain ⟨A4, n4, c4, rfl, hl4, hc4, hm4, _⟩ := ho4.shapeN
      have e4 : n4 = 8 := by rw [← hl4]; simp
      subst e4
      have HB24 := Lib.hid (HB3.out.trans (hb4.mono HB3.out.size))
      have hi1 := ints_any (some ad) A cX ca xs xs (by have := HLA.out; omega) (by have := HLA.out; omega) w4 (HSX.out.below HB24.out) (HSA.out.below HB24.out)
      rw [eqB_true rfl, HLA.out] at hi1
      have HI1 := Lib.hid hi1
      clear hb4 ho4 hl4 hc4 hi1
      go_wp2_with fail
      refine (HI1.out).mono ?_
      rintro _ _ ⟨rfl, j1, rfl⟩
      have HP := Lib.hid (rpermute_any n k h3 hm HG.out.k2 klt HG.out.least HG.out.cop A ca xs HLA.out HA.out.i64 (w4.drewN j1) ((HSA.out.below HB24.out).drewN j1))
      go_wp2_with fail
      refine (HP.out).mono ?_
      rintro _ w5 ⟨v5, rfl, ho5, hb5⟩
      have hb45 : Below w4.heap.size w4 w5 := (below_drewN (Below.refl _ _) j1).trans hb5
      have HO5 := Lib.hid ho5
      have HB25 := Lib.hid (HB24.out.trans (hb45.mono HB24.out.size))
      have HB45 := Lib.hid hb45
      obtain ⟨A5, n5, c5, rfl, hl5, hc5, hm5, _⟩ := ho5.shapeN
      have e5 : n5 = 8 := by rw [← hl5]; simp
      subst e5
      obtain ⟨bd, rfl, hbd, hcb⟩ := sl8 (HSA.out.below HB25.out) HLA.out
      have HQ := Lib.hid (rmix_any n (by omega) hm bd 8 ca (Nat.le_refl _) (by omega) (fun i => xs.getD i 0) hxI w5 hbd hcb)
      clear ho5 hb5 hb45 hl5 hc5 hcb
      go_wp2_with fail
      refine (HQ.out).mono ?_
      rintro _ w6 ⟨v6, rfl, ho6, hb6⟩
      obtain ⟨A6, n6, c6, rfl, hl6, hc6, hm6, hs6⟩ := ho6.shapeN
      have e6 : n6 = 8 := by rw [← hl6]; simp
      subst e6
      have HB26 := Lib.hid (HB25.out.trans (hb6.mono HB25.out.size))
      have hb46 := HB45.out.trans (hb6.mono HB45.out.size)
      have hs3' : SL w6 A3 _ := (Own.shape (HO3.out.below (HB4.out.trans (hb46.mono HB4.out.size)))).elim fun A h => by
        obtain ⟨c, e, _, _, _, h⟩ := h; injection e with e _ _; subst e; exact h
      have hs4' : SL w6 A4 _ := (Own.shape (HO4.out.below hb46)).elim fun A h => by
        obtain ⟨c, e, _, _, _, h⟩ := h; injection e with e _ _; subst e; exact h
      have hs5' : SL w6 A5 _ := (Own.shape (HO5.out.below hb6)).elim fun A h => by
        obtain ⟨c, e, _, _, _, h⟩ := h; injection e with e _ _; subst e; exact h
      have hj1 := ints_any A3 A5 c3 c5 _ _ (by simp) (by simp) w6 hs3' hs5'
      have hj2 := fun j => ints_any A4 A6 c4 c6 _ _ (by simp) (by simp) (w6.drewN j) (hs4'.drewN j) (hs6.drewN j)
      rw [eqB_true rfl, show ((List.range 8).map fun i => fv (permT (p := n) k (fun j => el n (xs.getD j 0)) 8 i)).length = 8 by simp] at hj1
      rw [eqB_true rfl, show ((List.range 8).map fun i => fv (ap (cauchy n) (fun j => el n (xs.getD j 0)) i)).length = 8 by simp] at hj2
      have HJ1 := Lib.hid hj1
      have HJ2 := Lib.hid hj2
      have HWX := Lib.hid (HB2.out.trans (HB26.out.mono HB2.out.size))
      clear hj1 hj2 hs3' hs4' hs5' hs6 hb46 hb6 ho6 hl6 hc6
      go_wp2_with fail
      refine (HJ1.out).mono ?_
      rintro _ _ ⟨rfl, j3, rfl⟩
      go_wp2_with fail
      refine (HJ2.out j3).mono ?_
      rintro _ _ ⟨rfl, j4, rfl⟩
      go_wp2
      go_ret
      exact ⟨rfl, below_drewN HWX.out _⟩
    · have t1 : ((na : Int) != 8) = true := by rw [bne_iff_ne]; omega
      have H8 := Lib.hid h8
      clear h8
      refine (permute_not AX na cX s H8.out w2 (by omega)).mono ?_
      rintro _ _ ⟨rfl, rfl⟩
      go_wp2_with fail
      refine (mix_not AX na cX s H8.out w2 (by omega)).mono ?_
      rintro _ w3 ⟨rfl, hb3⟩
      have hi1 := ints_any AX A cX ca xs xs (by have := HLA.out; omega) (by have := HLA.out; omega) w3 (HSX.out.below hb3) (HSA.out.below hb3)
      rw [eqB_true rfl, HLA.out] at hi1
      have HI1 := Lib.hid hi1
      have HB3 := Lib.hid (HB2.out.trans (hb3.mono HB2.out.size))
      clear hi1 hb3
      go_wp2_with fail
      refine (HI1.out).mono ?_
      rintro _ _ ⟨rfl, j1, rfl⟩
      go_wp2_with fail
      refine (unpermute_not AX na cX s H8.out _ (by omega)).mono ?_
      rintro _ w4 ⟨rfl, hb4⟩
      go_wp2
      go_ret
      exact ⟨rfl, HB3.out.trans (((below_drewN (Below.refl w3.heap.size w3) j1).trans hb4).mono HB3.out.size)⟩
  · have HS := Lib.hid (ssponge_no p hp h w hT)
    clear h
    go_enter Tryd.func5, Tryd.ntmps5
    go_wp2_with fail
    refine (HS.out).mono ?_
    rintro _ w1 ⟨rfl, hb1⟩
    go_wp2
    go_ret
    exact ⟨rfl, hb1⟩
end Go.Proofs.YtlcmacdeadmloaaDoor
