/- The walk of the law PolyGcds. -/
import Derived.Test.YtiohededmcfhjaaDoorLawH1
import Derived.Test.YtiohededmcfhjaaDoorGc
set_option linter.unusedVariables false
namespace Go.Proofs.YtiohededmcfhjaaDoor
open Go.RowKit Zp

set_option maxRecDepth 100000 in
set_option maxHeartbeats 4000000 in
theorem gcds_walk (w : World) (p : Int) (hp : I64 p) (A : Option Addr) (na ca : Nat) (xs : List Int) (ha : ArgU w A na ca xs) (B : Option Addr) (nb cb : Nat) (ys : List Int) (hb : ArgU w B nb cb ys) (hT : Typed w) :
    Calls Tryd.prog 5 #[vi p, .slice A na ca, .slice B nb cb] w fun e w' => SaysW (.bool true) w e w' := by
  obtain ⟨ha, hca⟩ := ha
  obtain ⟨hb, hcb⟩ := hb
  have hna := ha.cap
  have hnb := hb.cap
  have HLA := Lib.hid ha.len
  have HLB := Lib.hid hb.len
  by_cases hF : HasField p
  · obtain ⟨h3, hm, hpr⟩ := hF
    obtain ⟨q, rfl⟩ := Int.eq_ofNat_of_zero_le (a := p) (by omega)
    rw [Int.toNat_natCast] at hpr
    haveI := hpr.ne
    have hqm : q ≤ 2147483647 := by omega
    have HF := Lib.hid (sfield_yes q (by omega) hqm hpr w hT)
    have hdga := fun W hsW => rdegree_n q hqm A na ca xs HLA.out ha.i64 (by omega) W hsW
    have hdgb := fun W hsW => rdegree_n q hqm B nb cb ys HLB.out hb.i64 (by omega) W hsW
    by_cases hz : trimL (els q xs) = [] ∧ trimL (els q ys) = []
    · have hG := fun b W hcW hsx hsy => gcd_zero q hqm b A B na ca nb cb xs ys HLA.out HLB.out ha.i64 hb.i64 (by omega) (by omega) hna hnb hz.1 hz.2 W hcW hsx hsy
      rw [degL_nil hz.1] at hdga
      rw [degL_nil hz.2] at hdgb
      have HG := Lib.hid hG
      have HDA := Lib.hid hdga
      have HDB := Lib.hid hdgb
      clear hG hdga hdgb hz hpr
      go_enter Tryd.func5, Tryd.ntmps5
      go_wp2_with fail
      refine (HF.out).mono ?_
      rintro e w1 ⟨b, rfl, F1, hb1⟩
      have sa1 := ha.sl.below hb1
      have sb1 := hb.sl.below hb1
      go_wp2_with fail
      refine (HG.out b _ F1.c0 sa1 sb1).mono ?_
      rintro e w2 ⟨rfl, hb2⟩
      have sa2 := sa1.below hb2
      have sb2 := sb1.below hb2
      have bw2 := hb1.trans (hb2.mono hb1.size)
      go_wp2_with fail
      refine (HDA.out _ sa2).mono ?_
      rintro e w' ⟨rfl, rfl⟩
      go_wp2_with fail
      refine (HDB.out _ sb2).mono ?_
      rintro e w' ⟨rfl, rfl⟩
      go_wp2
      go_ret
      exact ⟨rfl, bw2⟩
    · have hG := fun b W hcW hsx hsy => gcd_any q hpr (by omega) hqm b A B na ca nb cb xs ys HLA.out HLB.out ha.i64 hb.i64 (by omega) (by omega) hna hnb hz W hcW hsx hsy
      obtain ⟨M, hM⟩ : ∃ M, M = na + nb + 1 := ⟨_, rfl⟩
      rw [← hM] at hG
      have hM2 : M ≤ 2097153 := by omega
      have hdd : ¬ (degL (els q xs) < 0 ∧ degL (els q ys) < 0) := fun h => hz ⟨by
        false_or_by_contra
        rename_i h'
        have := degL_pos h'
        omega, by
        false_or_by_contra
        rename_i h'
        have := degL_pos h'
        omega⟩
      generalize degL (els q xs) = da at hdga hdd
      generalize degL (els q ys) = db at hdgb hdd
      have HG := Lib.hid hG
      have HDA := Lib.hid hdga
      have HDB := Lib.hid hdgb
      have HDD := Lib.hid hdd
      have HU := Lib.hid (fun a d Q R Q' R' (h : DivOk (p := q) a d Q R) (h' : DivOk a d Q' R') => h.unique hpr h')
      have HP := Lib.hid hpr
      clear hG hdga hdgb hz hpr hdd hM
      go_enter Tryd.func5, Tryd.ntmps5
      go_wp2_with fail
      refine (HF.out).mono ?_
      rintro e w1 ⟨b, rfl, F1, hb1⟩
      have sa1 := ha.sl.below hb1
      have sb1 := hb.sl.below hb1
      go_wp2_with fail
      refine (HG.out b _ F1.c0 sa1 sb1).mono ?_
      rintro e w2 ⟨D, U, V, v1, v2, v3, hg, rfl, hown1, hown2, hown3, hb2⟩
      have sa2 := sa1.below hb2
      have sb2 := sb1.below hb2
      have bw2 := hb1.trans (hb2.mono hb1.size)
      have hpos : 0 < D.length := List.length_pos_iff.2 hg.pos
      have hld := hg.ld
      have hlu := hg.lu
      have hlv := hg.lv
      obtain ⟨gD, cD, hvD, hgD, hgD'⟩ := hown1.block (by rw [List.length_map]; exact hpos)
      obtain ⟨A1, n1, c1, rfl, hl1, hcc1, _, sd2⟩ := hown1.shapeN
      injection hvD with e1 e1b e1c
      subst e1
      clear e1b e1c
      obtain ⟨A2, n2, c2, rfl, hl2, hcc2, _, su2⟩ := hown2.shapeN
      obtain ⟨A3, n3, c3, rfl, hl3, hcc3, _, sv2⟩ := hown3.shapeN
      have hl1' : D.length = n1 := by rw [← hl1, List.length_map]
      have hl2' : U.length = n2 := by rw [← hl2, List.length_map]
      have hl3' : V.length = n3 := by rw [← hl3, List.length_map]
      rw [hl1'] at hld hpos
      rw [hl2'] at hlu
      rw [hl3'] at hlv
      have hcd : w2.cell? ⟨gD, n1 - 1, none⟩ = some (vi 1) := by
        have h := hown1.at_ hl1.symm (n1 - 1) (by rw [hl1]; omega)
        have h2 := hg.top
        rw [hl1'] at h2
        rw [h, List.getElem_map, ← co_of_lt, h2, fv_one (by omega)]
      have hda := hg.da
      have hdb := hg.db
      have htr := fun W hsW => rtrim_n q hqm (some ⟨gD, 0, none⟩) n1 c1 (fvs D) hl1 (i64_fvsR _ hqm) (by omega) hcc1 W hsW
      have hdv1 := fun W hsx hsd => rdivided_n q HP.out (by omega) hqm A (some ⟨gD, 0, none⟩) na ca n1 c1 xs (fvs D) HLA.out hl1 ha.i64 (i64_fvsR _ hqm) (by omega) (by omega) hna hcc1 (by rw [els_fvs, hg.td]; exact hg.pos) W hsx hsd
      have hdv2 := fun W hsx hsd => rdivided_n q HP.out (by omega) hqm B (some ⟨gD, 0, none⟩) nb cb n1 c1 ys (fvs D) HLB.out hl1 hb.i64 (i64_fvsR _ hqm) (by omega) (by omega) hnb hcc1 (by rw [els_fvs, hg.td]; exact hg.pos) W hsx hsd
      have ht1 := fun W hsx hsy => rtimes_n q hqm A2 A n2 c2 na ca (fvs U) xs hl2 HLA.out (i64_fvsR _ hqm) ha.i64 (by omega) W hsx hsy
      have ht2 := fun W hsx hsy => rtimes_n q hqm A3 B n3 c3 nb cb (fvs V) ys hl3 HLB.out (i64_fvsR _ hqm) hb.i64 (by omega) W hsx hsy
      simp only [els_fvs] at htr hdv1 hdv2 ht1 ht2
      rw [hg.td] at htr
      have hmade := hg.made
      have hlT1 : (trimL (mulL U (els q xs))).length ≤ 8388608 := by
        have := mul_len_le U (els q xs)
        rw [hl2', List.length_map, HLA.out] at this; omega
      have hlT2 : (trimL (mulL V (els q ys))).length ≤ 8388608 := by
        have := mul_len_le V (els q ys)
        rw [hl3', List.length_map, HLB.out] at this; omega
      generalize trimL (mulL U (els q xs)) = T1 at ht1 hmade hlT1
      generalize trimL (mulL V (els q ys)) = T2 at ht2 hmade hlT2
      have HTR := Lib.hid htr
      have HV1 := Lib.hid hdv1
      have HV2 := Lib.hid hdv2
      have HT1 := Lib.hid ht1
      have HT2 := Lib.hid ht2
      have HMADE := Lib.hid hmade
      have HDAQ := Lib.hid hda
      have HDBQ := Lib.hid hdb
      have HL1 := Lib.hid hl1
      have HLT1 := Lib.hid hlT1
      have HLT2 := Lib.hid hlT2
      have t2 : ((n1 : Int) == 0) = false := by rw [beq_eq_false_iff_ne]; omega
      have i1 : (0 : Int) ≤ (n1 : Int) - 1 := by omega
      have i1b : (1 : Int) ≤ (n1 : Int) := by omega
      have i2 : (n1 : Int) - 1 < n1 := by omega
      have i3 : ((n1 : Int) - 1).toNat = n1 - 1 := by omega
      have i7 : IntKind.i64.wrap ((n1 : Int) - 1) = (n1 : Int) - 1 := IntWalk.i64_in _ (by omega)
      clear hg htr hdv1 hdv2 ht1 ht2 hmade hda hdb hl1 hl1' hl2 hl2' hl3 hl3' hlT1 hlT2 hown1 hown2 hown3 hb1 hb2 sa1 sb1 F1
      go_wp2_with fail
      refine (HDA.out _ sa2).mono ?_
      rintro e w' ⟨rfl, rfl⟩
      go_wp2_with fail
      refine (HDB.out _ sb2).mono ?_
      rintro e w' ⟨rfl, rfl⟩
      have hcase : ¬ da < 0 ∨ (da < 0 ∧ ¬ db < 0) := by have := HDD.out; omega
      rcases hcase with hda0 | ⟨hda0, hdb0⟩
      all_goals (
        go_wp2_with fail
        refine (HTR.out _ sd2).mono ?_
        rintro e w3 ⟨v4, rfl, hown4, hb3⟩
        obtain ⟨A4, n4, c4, rfl, hl4, _, _, so3⟩ := hown4.shapeN
        have HL4 := Lib.hid hl4
        have bw3 := bw2.trans (hb3.mono bw2.size)
        have sa3 := sa2.below hb3
        have sb3 := sb2.below hb3
        have sd3 := sd2.below hb3
        have su3 := su2.below hb3
        have sv3 := sv2.below hb3
        clear hl4 hown4
        go_wp2_with fail
        refine (ints_same A4 (some ⟨gD, 0, none⟩) n4 c4 n1 c1 _ _ HL4.out HL1.out rfl (by have := HL4.out; rw [HL1.out] at this; omega) _ so3 sd3).mono ?_
        rintro e w' ⟨rfl, k1, rfl⟩
        go_wp2_with fail
        refine (HV1.out _ (by exact sa3.drewN k1) (by exact sd3.drewN k1)).mono ?_
        rintro e w4 ⟨Q, R, v5, v6, hdv, rfl, hown5, hown6, hb4⟩
        obtain ⟨Q0, hq0⟩ := HDAQ.out
        obtain ⟨_, rfl⟩ := HU.out _ _ _ _ _ _ hq0 hdv
        obtain ⟨A6, n6, c6, rfl, hl6, _⟩ := hown6.shapeN
        have e6 : n6 = 0 := by rw [← hl6]; rfl
        subst e6
        have bw4 := (below_drewN bw3 k1).trans (hb4.mono bw3.size)
        have sa4 := (sa3.drewN k1).below hb4
        have sb4 := (sb3.drewN k1).below hb4
        have sd4 := (sd3.drewN k1).below hb4
        have su4 := (su3.drewN k1).below hb4
        have sv4 := (sv3.drewN k1).below hb4
        clear hl6 hown5 hown6 hdv hq0 hb4 sa3 sb3 sd3 su3 sv3 bw3 hb3 so3
        go_wp2_with fail
        refine (HV2.out _ sb4 sd4).mono ?_
        rintro e w5 ⟨Q', R', v7, v8, hdv, rfl, hown7, hown8, hb5⟩
        obtain ⟨Q1, hq1⟩ := HDBQ.out
        obtain ⟨_, rfl⟩ := HU.out _ _ _ _ _ _ hq1 hdv
        obtain ⟨A8, n8, c8, rfl, hl8, _⟩ := hown8.shapeN
        have e8 : n8 = 0 := by rw [← hl8]; rfl
        subst e8
        have bw5 := bw4.trans (hb5.mono bw4.size)
        have sa5 := sa4.below hb5
        have sb5 := sb4.below hb5
        have sd5 := sd4.below hb5
        have su5 := su4.below hb5
        have sv5 := sv4.below hb5
        clear hl8 hown7 hown8 hdv hq1 hb5 sa4 sb4 sd4 su4 sv4 bw4
        go_wp2_with fail
        refine (HT1.out _ su5 sa5).mono ?_
        rintro e w6 ⟨v9, rfl, hown9, hb6⟩
        obtain ⟨A9, n9, c9, rfl, hl9, _, _, sx6⟩ := hown9.shapeN
        have h9 : n9 ≤ 8388608 := by rw [← hl9, List.length_map]; exact HLT1.out
        have HL9 := Lib.hid hl9
        have bw6 := bw5.trans (hb6.mono bw5.size)
        have sb6 := sb5.below hb6
        have sd6 := sd5.below hb6
        have sv6 := sv5.below hb6
        clear hl9 hown9 hb6 sa5 sb5 sd5 su5 sv5 bw5
        go_wp2_with fail
        refine (HT2.out _ sv6 sb6).mono ?_
        rintro e w7 ⟨v10, rfl, hown10, hb7⟩
        obtain ⟨A10, n10, c10, rfl, hl10, _, _, sy7⟩ := hown10.shapeN
        have h10 : n10 ≤ 8388608 := by rw [← hl10, List.length_map]; exact HLT2.out
        have HL10 := Lib.hid hl10
        have bw7 := bw6.trans (hb7.mono bw6.size)
        have sd7 := sd6.below hb7
        have sx7 := sx6.below hb7
        clear hl10 hown10 hb7 sb6 sd6 sv6 bw6 sx6
        have hpl := rplus_n q hqm A9 A10 n9 c9 n10 c10 (fvs T1) (fvs T2) HL9.out HL10.out (i64_fvsR _ hqm) (i64_fvsR _ hqm) h9 h10 w7 sx7 sy7
        simp only [els_fvs] at hpl
        rw [HMADE.out] at hpl
        have HPL := Lib.hid hpl
        clear hpl
        go_wp2_with fail
        refine (HPL.out).mono ?_
        rintro e w8 ⟨v11, rfl, hown11, hb8⟩
        obtain ⟨A11, n11, c11, rfl, hl11, _, _, sz8⟩ := hown11.shapeN
        have HL11 := Lib.hid hl11
        have bw8 := bw7.trans (hb8.mono bw7.size)
        have sd8 := sd7.below hb8
        clear hl11 hown11 hb8 sd7 bw7
        go_wp2_with fail
        refine (ints_same A11 (some ⟨gD, 0, none⟩) n11 c11 n1 c1 _ _ HL11.out HL1.out rfl (by have := HL11.out; rw [HL1.out] at this; omega) _ sz8 sd8).mono ?_
        rintro e w' ⟨rfl, k2, rfl⟩
        go_wp2
        go_ret
        exact ⟨rfl, below_drewN bw8 _⟩)
  · have HN := Lib.hid (sfield_no p hp hF w hT)
    clear hF
    go_enter Tryd.func5, Tryd.ntmps5
    go_wp2_with fail
    refine (HN.out).mono ?_
    rintro e w1 ⟨rfl, hb1⟩
    go_wp2
    go_ret
    exact ⟨rfl, hb1⟩
end Go.Proofs.YtiohededmcfhjaaDoor
