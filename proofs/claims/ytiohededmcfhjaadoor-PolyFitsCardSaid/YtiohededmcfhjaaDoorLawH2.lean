/- The walk of the law PolyFits. -/
import Derived.Test.YtiohededmcfhjaaDoorLawF3
import Derived.Test.YtiohededmcfhjaaDoorRv
import Derived.Test.YtiohededmcfhjaaDoorPg
import Derived.Test.YtiohededmcfhjaaDoorSame
import Derived.Test.YtiohededmcfhjaaDoorArg
set_option linter.unusedVariables false
namespace Go.Proofs.YtiohededmcfhjaaDoor
open Go.RowKit Zp

theorem nodup_fin {p : Nat} {l : List (Fin p)} (h : l.Nodup) : l.length ≤ p := by
  have hs : l ⊆ List.finRange p := fun x _ => List.mem_finRange x
  have h1 := h.length_le_of_subset hs
  rwa [List.length_finRange] at h1
theorem butI_neg {α : Type} (l : List α) : butI l (-1) = l := by unfold butI; rw [if_neg (by decide)]
theorem unlike_nP (p : Nat) [NeZero p] (hp2 : p ≤ 2147483647) (A : Option Addr) (n cap : Nat) (xs : List Int) (hml : xs.length = n) (hxs : ∀ n ∈ xs, I64 n) (hreach : n * 8 ≤ 140737488351232) (w : World) (hs : SL w A xs) :
    Calls Tryd.prog 13 #[vi p, .slice A n cap] w fun e w' => SaysW (.bool (ndB (els p xs))) w e w' := by
  subst hml
  exact unlike_any p hp2 A cap xs hxs hreach w hs
set_option maxRecDepth 100000 in
set_option maxHeartbeats 2000000 in
theorem fits_len (w : World) (q : Nat) [NeZero q] (h3 : 3 ≤ q) (hqm : q ≤ 2147483647) (hpr : IsPrime q) (A : Option Addr) (na ca : Nat) (xs : List Int) (ha : ArgS w A na ca xs) (B : Option Addr) (nb cb : Nat) (ys : List Int) (hb : ArgS w B nb cb ys) (hne : ¬ na = nb) (hT : Typed w) :
    Calls Tryd.prog 4 #[vi q, .slice A na ca, .slice B nb cb] w fun e w' => SaysW (.bool true) w e w' := by
  have hca := ha.reach
  have hcb := hb.reach
  have hna := ha.cap
  have hnb := hb.cap
  have HLA := Lib.hid ha.len
  have HLB := Lib.hid hb.len
  have HF := Lib.hid (sfield_yes q (by omega) hqm hpr w hT)
  have hun := fun W hsW => unlike_nP q hqm A na ca xs HLA.out ha.i64 (by omega) W hsW
  have he := fun W hg => error_any 2 2 W hg
  rw [errV_ne (by decide), show ((2 : Int) == 2) = true from rfl] at he
  have HE := Lib.hid he
  generalize ndB (els q xs) = U at hun
  have HUN := Lib.hid hun
  have HNE := Lib.hid hne
  have t1 : ((na : Int) != (nb : Int)) = true := by rw [bne_iff_ne]; omega
  clear hun he hpr hne
  go_enter Tryd.func4, Tryd.ntmps4
  go_wp2_with fail
  refine (HF.out).mono ?_
  rintro e w1 ⟨b, rfl, F, hb1⟩
  have hs1 := ha.sl.below hb1
  have hba : Below w1.heap.size w1 (w1.alloc (.cells #[] 3)) := (Below.refl _ _).alloc (Nat.le_refl _) _
  go_wp2_with (at_builtin; refine wpList_appA _ rfl _ _ rfl w1.heap.size _ [] A na ca xs rfl rfl HLA.out (own_empty w1 _ (Nat.le_refl _)) (hs1.below hba) (by simp; omega) (by simp) ?_; intro v' w2 hg; have hown := hg.own; have hb2 := hg.below hba (own_empty w1 _ (Nat.le_refl _)) (Nat.le_refl _) (by simp); rw [List.nil_append] at hown; clear hg; obtain ⟨A2, n2, c2, rfl, hl2, hc2, _, hs2⟩ := hown.shapeN; rw [HLA.out] at hl2; subst hl2; clear hown)
  have F2 := F.below hb2 F.le
  have bw2 := hb1.trans (hb2.mono hb1.size)
  have sa2 := hs1.below hb2
  have sb2 := (hb.sl.below hb1).below hb2
  refine (pfit_len b A2 B na c2 nb cb HNE.out (by omega) (by omega) _).mono ?_
  rintro e w3 ⟨rfl, hw3⟩
  have hb3 : Below w2.heap.size w2 w3 := hw3 ▸ Below.refl _ _
  have so3 := hs2.below hb3
  have sa3 := sa2.below hb3
  have bw3 := bw2.trans (hb3.mono bw2.size)
  go_wp2_with fail
  refine (ints_same A2 A na c2 na ca xs xs HLA.out HLA.out rfl (by omega) _ so3 sa3).mono ?_
  rintro e w' ⟨rfl, k1, rfl⟩
  have sa3' := sa3.drewN k1
  have bw3' := below_drewN bw3 k1
  go_wp2_with fail
  refine (HUN.out _ sa3').mono ?_
  rintro e w4 ⟨rfl, hb4⟩
  have bw4 := bw3'.trans (hb4.mono bw3'.size)
  go_wp2_with fail
  refine (HE.out _ (hT.below bw4)).mono ?_
  rintro e w5 ⟨rfl, hb5⟩
  go_wp2
  go_ret
  exact ⟨rfl, bw4.trans (hb5.mono bw4.size)⟩
set_option maxRecDepth 100000 in
set_option maxHeartbeats 2000000 in
theorem fits_unlike (w : World) (q : Nat) [NeZero q] (h3 : 3 ≤ q) (hqm : q ≤ 2147483647) (hpr : IsPrime q) (A : Option Addr) (na ca : Nat) (xs : List Int) (ha : ArgS w A na ca xs) (B : Option Addr) (nb cb : Nat) (ys : List Int) (hb : ArgS w B nb cb ys) (hne : na = nb) (hnd : ¬ (els q xs).Nodup) (hT : Typed w) :
    Calls Tryd.prog 4 #[vi q, .slice A na ca, .slice B nb cb] w fun e w' => SaysW (.bool true) w e w' := by
  have hca := ha.reach
  have hcb := hb.reach
  have hna := ha.cap
  have hnb := hb.cap
  have HLA := Lib.hid ha.len
  have HLB := Lib.hid hb.len
  have HF := Lib.hid (sfield_yes q (by omega) hqm hpr w hT)
  have hun := fun W hsW => unlike_nP q hqm A na ca xs HLA.out ha.i64 (by omega) W hsW
  have he := fun W hg => error_any 4 4 W hg
  rw [errV_ne (by decide), show ((4 : Int) == 4) = true from rfl] at he
  have HE := Lib.hid he
  rw [ndB_false hnd] at hun
  have HUN := Lib.hid hun
  have hfs := fun b A2 c2 W hcW hsW => pfit_same q hqm b A2 B na c2 cb xs HLA.out ha.i64 (by omega) hnd W hcW hsW
  have HFS := Lib.hid hfs
  subst hne
  have t1 : ((na : Int) != (na : Int)) = false := by simp
  clear hun he hpr hnd hfs
  go_enter Tryd.func4, Tryd.ntmps4
  go_wp2_with fail
  refine (HF.out).mono ?_
  rintro e w1 ⟨b, rfl, F, hb1⟩
  have hs1 := ha.sl.below hb1
  have hba : Below w1.heap.size w1 (w1.alloc (.cells #[] 3)) := (Below.refl _ _).alloc (Nat.le_refl _) _
  go_wp2_with (at_builtin; refine wpList_appA _ rfl _ _ rfl w1.heap.size _ [] A na ca xs rfl rfl HLA.out (own_empty w1 _ (Nat.le_refl _)) (hs1.below hba) (by simp; omega) (by simp) ?_; intro v' w2 hg; have hown := hg.own; have hb2 := hg.below hba (own_empty w1 _ (Nat.le_refl _)) (Nat.le_refl _) (by simp); rw [List.nil_append] at hown; clear hg; obtain ⟨A2, n2, c2, rfl, hl2, hc2, _, hs2⟩ := hown.shapeN; rw [HLA.out] at hl2; subst hl2; clear hown)
  have F2 := F.below hb2 F.le
  have bw2 := hb1.trans (hb2.mono hb1.size)
  have sa2 := hs1.below hb2
  have sb2 := (hb.sl.below hb1).below hb2
  refine (HFS.out b A2 c2 _ F2.c0 hs2).mono ?_
  rintro e w3 ⟨rfl, hb3⟩
  have so3 := hs2.below hb3
  have sa3 := sa2.below hb3
  have bw3 := bw2.trans (hb3.mono bw2.size)
  go_wp2_with fail
  refine (ints_same A2 A na c2 na ca xs xs HLA.out HLA.out rfl (by omega) _ so3 sa3).mono ?_
  rintro e w' ⟨rfl, k1, rfl⟩
  have sa3' := sa3.drewN k1
  have bw3' := below_drewN bw3 k1
  go_wp2_with fail
  refine (HUN.out _ sa3').mono ?_
  rintro e w4 ⟨rfl, hb4⟩
  have bw4 := bw3'.trans (hb4.mono bw3'.size)
  go_wp2_with fail
  refine (HE.out _ (hT.below bw4)).mono ?_
  rintro e w5 ⟨rfl, hb5⟩
  go_wp2
  go_ret
  exact ⟨rfl, bw4.trans (hb5.mono bw4.size)⟩
set_option maxRecDepth 100000 in
set_option maxHeartbeats 2000000 in
theorem fits_fine (w : World) (q : Nat) [NeZero q] (h3 : 3 ≤ q) (hqm : q ≤ 2147483647) (hpr : IsPrime q) (A : Option Addr) (na ca : Nat) (xs : List Int) (ha : ArgS w A na ca xs) (B : Option Addr) (nb cb : Nat) (ys : List Int) (hb : ArgS w B nb cb ys) (hne : na = nb) (hnd : (els q xs).Nodup) (hT : Typed w) :
    Calls Tryd.prog 4 #[vi q, .slice A na ca, .slice B nb cb] w fun e w' => SaysW (.bool true) w e w' := by
  have hca := ha.reach
  have hcb := hb.reach
  have hna := ha.cap
  have hnb := hb.cap
  have HLA := Lib.hid ha.len
  have HLB := Lib.hid hb.len
  have HF := Lib.hid (sfield_yes q (by omega) hqm hpr w hT)
  have hun := fun W hsW => unlike_nP q hqm A na ca xs HLA.out ha.i64 (by omega) W hsW
  have he := fun W hg => error_any 0 0 W hg
  rw [errV_zero, show ((0 : Int) == 0) = true from rfl] at he
  have HE := Lib.hid he
  rw [ndB_true hnd] at hun
  have HUN := Lib.hid hun
  subst hne
  have hnq : na ≤ 2147483647 := by
    have h1 := nodup_fin hnd
    rw [List.length_map, HLA.out] at h1
    omega
  have t1 : ((na : Int) != (na : Int)) = false := by simp
  have hfs := fun S b A2 c2 W FW hsx hsy => pfit_any q S b A2 B na c2 cb xs ys HLA.out HLB.out ha.i64 hb.i64 (by omega) hnd W FW hsx hsy
  have hfr := fun W hsx hsy => rfit_n q hpr (by omega) hqm A B na ca cb xs ys HLA.out HLB.out ha.i64 hb.i64 (by omega) hnd W hsx hsy
  have hv := fun b A2 c2 W hcW hsW => pvan_any q hpr (by omega) hqm b A2 na c2 xs HLA.out ha.i64 (by omega) W hcW hsW
  have hvr := fun W hsW => rvanish_n q (by omega) hqm A na ca xs HLA.out ha.i64 (by omega) (-1) (by constructor <;> decide) W hsW
  rw [butI_neg] at hvr
  have HU := Lib.hid (fun o o' (h : Fitted (els q xs) (els q ys) (els q xs).length o) (h' : Fitted (els q xs) (els q ys) (els q xs).length o') => Fitted.unique hpr hnd h h')
  generalize vanL (els q xs) = V at hv hvr
  have HFS := Lib.hid hfs
  have HFR := Lib.hid hfr
  have HV := Lib.hid hv
  have HVR := Lib.hid hvr
  clear hun he hpr hnd hfs hfr hv hvr
  go_enter Tryd.func4, Tryd.ntmps4
  go_wp2_with fail
  refine (HF.out).mono ?_
  rintro e w1 ⟨b, rfl, F, hb1⟩
  have hs1 := ha.sl.below hb1
  have hba : Below w1.heap.size w1 (w1.alloc (.cells #[] 3)) := (Below.refl _ _).alloc (Nat.le_refl _) _
  go_wp2_with (at_builtin; refine wpList_appA _ rfl _ _ rfl w1.heap.size _ [] A na ca xs rfl rfl HLA.out (own_empty w1 _ (Nat.le_refl _)) (hs1.below hba) (by simp; omega) (by simp) ?_; intro v' w2 hg; have hown := hg.own; have hb2 := hg.below hba (own_empty w1 _ (Nat.le_refl _)) (Nat.le_refl _) (by simp); rw [List.nil_append] at hown; clear hg; obtain ⟨A2, n2, c2, rfl, hl2, hc2, _, hs2⟩ := hown.shapeN; rw [HLA.out] at hl2; subst hl2; clear hown)
  have F2 := F.below hb2 F.le
  have bw2 := hb1.trans (hb2.mono hb1.size)
  have sa2 := hs1.below hb2
  have sb2 := (hb.sl.below hb1).below hb2
  refine (HFS.out _ b A2 c2 _ F2 hs2 sb2).mono ?_
  rintro e w3 ⟨o, v3, hfit, rfl, hown3, hb3⟩
  have so3 := hs2.below hb3
  have sa3 := sa2.below hb3
  have sb3 := sb2.below hb3
  have F3 := F2.below hb3 F2.le
  have bw3 := bw2.trans (hb3.mono bw2.size)
  obtain ⟨A3, n3, c3, rfl, hl3, _, hm3, sl3⟩ := hown3.shapeN
  have hn3 : n3 ≤ 9223372036854775807 := by have := hm3; simp only [maxLen] at this; omega
  have HL3 := Lib.hid hl3
  have HFIT := Lib.hid hfit
  clear hl3 hfit hown3 hm3
  go_wp2_with fail
  refine (ints_same A2 A na c2 na ca xs xs HLA.out HLA.out rfl (by omega) _ so3 sa3).mono ?_
  rintro e w' ⟨rfl, k1, rfl⟩
  have so3' := so3.drewN k1
  have sa3' := sa3.drewN k1
  have sb3' := sb3.drewN k1
  have sl3' := sl3.drewN k1
  have F3' := F3.drewN k1
  have bw3' := below_drewN bw3 k1
  go_wp2_with fail
  refine (HUN.out _ sa3').mono ?_
  rintro e w4 ⟨rfl, hb4⟩
  have bw4 := bw3'.trans (hb4.mono bw3'.size)
  have F4 := F3'.below hb4 F3'.le
  have so4 := so3'.below hb4
  have sa4 := sa3'.below hb4
  have sb4 := sb3'.below hb4
  have sl4 := sl3'.below hb4
  go_wp2_with fail
  refine (HE.out _ (hT.below bw4)).mono ?_
  rintro e w5 ⟨rfl, hb5⟩
  have bw5 := bw4.trans (hb5.mono bw4.size)
  have F5 := F4.below hb5 F4.le
  have so5 := so4.below hb5
  have sa5 := sa4.below hb5
  have sb5 := sb4.below hb5
  have sl5 := sl4.below hb5
  clear so3 sa3 sb3 sl3 F3 so3' sa3' sb3' sl3' F3' so4 sa4 sb4 sl4 F4 bw3 bw3' bw4 hb4 hb5
  go_wp2_with fail
  refine (HFR.out _ sa5 sb5).mono ?_
  rintro e w6 ⟨o', hfit', v6, rfl, hown6, hb6⟩
  obtain rfl := HU.out _ _ HFIT.out hfit'
  have bw6 := bw5.trans (hb6.mono bw5.size)
  have F6 := F5.below hb6 F5.le
  have so6 := so5.below hb6
  have sa6 := sa5.below hb6
  have sl6 := sl5.below hb6
  obtain ⟨A6, n6, c6, rfl, hl6, _, hm6, sm6⟩ := hown6.shapeN
  have HL6 := Lib.hid hl6
  clear hl6 hfit' hown6 hm6 so5 sa5 sl5 F5 bw5 hb6
  go_wp2_with fail
  refine (ints_same A3 A6 n3 c3 n6 c6 _ _ HL3.out HL6.out rfl hn3 _ sl6 sm6).mono ?_
  rintro e w' ⟨rfl, k2, rfl⟩
  have so7 := so6.drewN k2
  have sa7 := sa6.drewN k2
  have F7 := F6.drewN k2
  have bw7 := below_drewN bw6 k2
  clear so6 sa6 F6 bw6 sl6 sm6
  go_wp2_with fail
  refine (HV.out b A2 c2 _ F7.c0 so7).mono ?_
  rintro e w8 ⟨v8, rfl, hown8, hb8⟩
  have bw8 := bw7.trans (hb8.mono bw7.size)
  have sa8 := sa7.below hb8
  obtain ⟨A8, n8, c8, rfl, hl8, _, hm8, sl8⟩ := hown8.shapeN
  have hn8 : n8 ≤ 9223372036854775807 := by have := hm8; simp only [maxLen] at this; omega
  have HL8 := Lib.hid hl8
  clear hl8 hown8 hm8 so7 sa7 F7 bw7 hb8
  go_wp2_with fail
  refine (HVR.out _ sa8).mono ?_
  rintro e w9 ⟨v9, rfl, hown9, hb9⟩
  have bw9 := bw8.trans (hb9.mono bw8.size)
  have sl9 := sl8.below hb9
  obtain ⟨A9, n9, c9, rfl, hl9, _, hm9, sm9⟩ := hown9.shapeN
  have HL9 := Lib.hid hl9
  clear hl9 hown9 hm9 sa8 bw8 hb9 sl8
  go_wp2_with fail
  refine (ints_same A8 A9 n8 c8 n9 c9 _ _ HL8.out HL9.out rfl hn8 _ sl9 sm9).mono ?_
  rintro e w' ⟨rfl, k3, rfl⟩
  go_wp2
  go_ret
  exact ⟨rfl, below_drewN bw9 _⟩

theorem fits_walk (w : World) (p : Int) (hp : I64 p) (A : Option Addr) (na ca : Nat) (xs : List Int) (ha : ArgS w A na ca xs) (B : Option Addr) (nb cb : Nat) (ys : List Int) (hb : ArgS w B nb cb ys) (hT : Typed w) :
    Calls Tryd.prog 4 #[vi p, .slice A na ca, .slice B nb cb] w fun e w' => SaysW (.bool true) w e w' := by
  by_cases hF : HasField p
  · obtain ⟨h3, hm, hpr⟩ := hF
    obtain ⟨q, rfl⟩ := Int.eq_ofNat_of_zero_le (a := p) (by omega)
    rw [Int.toNat_natCast] at hpr
    haveI := hpr.ne
    by_cases hne : na = nb
    · by_cases hnd : (els q xs).Nodup
      · exact fits_fine w q (by omega) (by omega) hpr A na ca xs ha B nb cb ys hb hne hnd hT
      · exact fits_unlike w q (by omega) (by omega) hpr A na ca xs ha B nb cb ys hb hne hnd hT
    · exact fits_len w q (by omega) (by omega) hpr A na ca xs ha B nb cb ys hb hne hT
  · have HN := Lib.hid (sfield_no p hp hF w hT)
    clear hF
    go_enter Tryd.func4, Tryd.ntmps4
    go_wp2_with fail
    refine (HN.out).mono ?_
    rintro e w1 ⟨rfl, hb1⟩
    go_wp2
    go_ret
    exact ⟨rfl, hb1⟩
end Go.Proofs.YtiohededmcfhjaaDoor
