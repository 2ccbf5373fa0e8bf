/- The walk of law3.SpongePads. -/
import Derived.Test.YtlcmacdeadmloaaDoorSs
import Derived.Test.YtlcmacdeadmloaaDoorRs
import Derived.Test.YtlcmacdeadmloaaDoorHp
import Derived.Test.YtlcmacdeadmloaaDoorArg
set_option linter.unusedVariables false
namespace Go.Proofs.YtlcmacdeadmloaaDoor
open Go.RowKit Zp

theorem eqB_padL (x y : List Int) : eqB (padL x) (padL y) = eqB x y := by
  by_cases h : x = y
  · rw [eqB_true h, eqB_true (by rw [h])]
  · rw [eqB_false h, eqB_false fun e => h (padL_inj e)]
theorem padL_len (l : List Int) : (padL l).length ≤ l.length + 4 := by
  unfold padL padN
  simp only [List.length_append, List.length_cons, List.length_nil, List.length_replicate]
  omega
set_option maxRecDepth 100000 in
set_option maxHeartbeats 2000000 in
theorem spongePads_walk (w : World) (p : Int) (hp : I64 p) (A : Option Addr) (na ca : Nat) (xs : List Int) (ha : ArgS w A na ca xs) (B : Option Addr) (nb cb : Nat) (ys : List Int) (hb : ArgS w B nb cb ys) (hT : Typed w) :
    Calls Tryd.prog 3 #[vi p, .slice A na ca, .slice B nb cb] w fun e w' => SaysW (.bool true) w e w' := by
  by_cases h : HasSponge p
  · obtain ⟨n, rfl, h23, hm, hpr⟩ := hasSponge_nat h
    haveI := hpr.ne
    have HS := Lib.hid (ssponge_yes n h23 hm hpr w hT)
    have HA := Lib.hid ha
    have HB := Lib.hid hb
    have ra : na * 8 ≤ 140737488351232 := by rw [← ha.len]; exact ha.r8
    have rb : nb * 8 ≤ 140737488351232 := by rw [← hb.len]; exact hb.r8
    clear h hpr h23 ha hb hT
    go_enter Tryd.func3, Tryd.ntmps3
    go_wp2_with fail
    refine (HS.out).mono ?_
    rintro _ w1 ⟨s, b, k, z, oo, rfl, F, G, hs1, hs2, hb1⟩
    have HF := Lib.hid F
    have HG := Lib.hid G
    have HB1 := Lib.hid hb1
    have HP1 := Lib.hid (pad_any n _ b s k z oo A na ca xs HA.out.len HA.out.i64 (by omega) w1 F G (HA.out.sl.below hb1))
    clear F G hb1
    go_wp2_with fail
    refine (HP1.out).mono ?_
    rintro _ w2 ⟨A2, c2, rfl, hc2, hm2, hS2, hb2⟩
    have HB12 := Lib.hid (HB1.out.trans (hb2.mono HB1.out.size))
    have HP2 := Lib.hid (pad_any n _ b s k z oo B nb cb ys HB.out.len HB.out.i64 (by omega) w2 (HF.out.below hb2 HF.out.le) (HG.out.below hb2 hs2) (HB.out.sl.below HB12.out))
    have HS2 := Lib.hid hS2
    have lP := padL_len (fvs (els n xs))
    have lQ := padL_len (fvs (els n ys))
    rw [fvs_els_len, HA.out.len] at lP
    rw [fvs_els_len, HB.out.len] at lQ
    obtain ⟨X, hX⟩ : ∃ X, X = padL (fvs (els n xs)) := ⟨_, rfl⟩
    obtain ⟨Y, hY⟩ : ∃ Y, Y = padL (fvs (els n ys)) := ⟨_, rfl⟩
    rw [← hX] at HS2 lP hc2
    rw [← hY] at HP2 lQ
    have HX := Lib.hid hX
    have HY := Lib.hid hY
    obtain ⟨n2, hn2⟩ : ∃ n2, n2 = X.length := ⟨_, rfl⟩
    rw [← hX, ← hn2]
    have HN2 := Lib.hid hn2
    have HC2 := Lib.hid hc2
    clear hX hY hb2 hS2 hn2 hc2
    go_wp2_with fail
    refine (HP2.out).mono ?_
    rintro _ w3 ⟨A3, c3, rfl, hc3, hm3, hS3, hb3⟩
    have HB13 := Lib.hid (HB12.out.trans (hb3.mono HB12.out.size))
    have HS3 := Lib.hid hS3
    have HS23 := Lib.hid (HS2.out.below hb3)
    have HP3 := Lib.hid (rpad_any n hm A na ca xs HA.out.len HA.out.i64 ra w3 (HA.out.sl.below HB13.out))
    rw [← HX.out] at HP3
    obtain ⟨n3, hn3⟩ : ∃ n3, n3 = Y.length := ⟨_, rfl⟩
    rw [← hn3]
    have HN3 := Lib.hid hn3
    clear hb3 hS3 hn3 hc3
    go_wp2_with fail
    refine (HP3.out).mono ?_
    rintro _ w4 ⟨v4, rfl, ho4, hb4⟩
    obtain ⟨A4, n4, c4, rfl, hl4, hc4, hm4, hs4⟩ := ho4.shapeN
    have HB14 := Lib.hid (HB13.out.trans (hb4.mono HB13.out.size))
    have e24 : n4 = n2 := by rw [← hl4, HN2.out]
    subst e24
    have hi1 := ints_any A2 A4 c2 c4 X X (by omega) (by omega) w4 (HS23.out.below hb4) hs4
    have hi2 := fun j => ints_any A2 A3 c2 c3 X Y (by omega) (by omega) (w4.drewN j) ((HS23.out.below hb4).drewN j) ((HS3.out.below hb4).drewN j)
    rw [eqB_true rfl, ← HN2.out] at hi1
    have eXY : eqB X Y = sameE n xs ys := by rw [HX.out, HY.out, eqB_padL]; rfl
    rw [eXY, ← HN2.out, ← HN3.out] at hi2
    have HI1 := Lib.hid hi1
    have HI2 := Lib.hid hi2
    have HI3 := Lib.hid (fun W => fun hx hy => rsame_any n hm A B na nb ca cb xs ys HA.out.len HB.out.len (by omega) (by omega) HA.out.i64 HB.out.i64 W hx hy)
    have hxa := (HA.out.sl.below HB14.out)
    have hxb := (HB.out.sl.below HB14.out)
    have HXA := Lib.hid hxa
    have HXB := Lib.hid hxb
    clear hi1 hi2 eXY hb4 ho4 hs4 hl4 hc4 hxa hxb
    obtain ⟨t, ht⟩ : ∃ t, t = sameE n xs ys := ⟨_, rfl⟩
    rw [← ht] at HI2 HI3
    clear ht
    go_wp2_with fail
    refine (HI1.out).mono ?_
    rintro _ _ ⟨rfl, j1, rfl⟩
    go_wp2_with fail
    refine (HI2.out j1).mono ?_
    rintro _ _ ⟨rfl, j2, rfl⟩
    go_wp2_with fail
    refine (HI3.out _ (HXA.out.drewN _) (HXB.out.drewN _)).mono ?_
    rintro _ _ ⟨rfl, rfl⟩
    cases t <;>
    · go_wp2
      go_ret
      exact ⟨rfl, below_drewN HB14.out _⟩
  · have HS := Lib.hid (ssponge_no p hp h w hT)
    clear h
    go_enter Tryd.func3, Tryd.ntmps3
    go_wp2_with fail
    refine (HS.out).mono ?_
    rintro _ w1 ⟨rfl, hb1⟩
    go_wp2
    go_ret
    exact ⟨rfl, hb1⟩
end Go.Proofs.YtlcmacdeadmloaaDoor
