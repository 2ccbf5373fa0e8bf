/- The walk of the law PolyDivides. -/
import Derived.Test.YtiohededmcfhjaaDoorLawF5
import Derived.Test.YtiohededmcfhjaaDoorRd
import Derived.Test.YtiohededmcfhjaaDoorDv
import Derived.Test.YtiohededmcfhjaaDoorSame
import Derived.Test.YtiohededmcfhjaaDoorArg
set_option linter.unusedVariables false
namespace Go.Proofs.YtiohededmcfhjaaDoor
open Go.RowKit Zp

theorem degL_nil {p : Nat} [NeZero p] {l : List (Fin p)} (h : trimL l = []) : degL l = -1 := by unfold degL; rw [h]; rfl
theorem degL_pos {p : Nat} [NeZero p] {l : List (Fin p)} (h : trimL l ≠ []) : 0 ≤ degL l := by
  have := List.length_pos_iff.2 h
  unfold degL; omega
theorem degL_lt {p : Nat} [NeZero p] {l : List (Fin p)} {n : Nat} (h : l.length ≤ n) : degL l ≤ n := by
  have := trimL_length_le l
  unfold degL; omega
set_option maxRecDepth 100000 in
set_option maxHeartbeats 2000000 in
theorem divides_walk (w : World) (p : Int) (hp : I64 p) (A : Option Addr) (na ca : Nat) (xs : List Int) (ha : ArgS w A na ca xs) (B : Option Addr) (nb cb : Nat) (ys : List Int) (hb : ArgS w B nb cb ys) (hT : Typed w) :
    Calls Tryd.prog 3 #[vi p, .slice A na ca, .slice B nb cb] w fun e w' => SaysW (.bool true) w e w' := by
  have hca := ha.reach
  have hcb := hb.reach
  have hna := ha.cap
  have hnb := hb.cap
  have HLA := Lib.hid ha.len
  have HLB := Lib.hid hb.len
  by_cases hF : HasField p
  · obtain ⟨h3, hm, hpr⟩ := hF
    obtain ⟨q, rfl⟩ := Int.eq_ofNat_of_zero_le (a := p) (by omega)
    rw [Int.toNat_natCast] at hpr
    haveI := hpr.ne
    have hqm : q ≤ 2147483647 := by omega
    have HF := Lib.hid (sfield_yes q (by omega) hqm hpr w hT)
    have hdg := fun W hsW => rdegree_n q hqm B nb cb ys HLB.out hb.i64 (by omega) W hsW
    by_cases hz : trimL (els q ys) = []
    · have hD := fun b W hcW hsW => pdiv_zero q hqm b A B na ca nb cb ys HLB.out hb.i64 (by omega) hnb hz W hcW hsW
      rw [degL_nil hz] at hdg
      have he := fun W hg => error_any 3 3 W hg
      rw [errV_ne (by decide), show ((3 : Int) == 3) = true from rfl] at he
      have HE := Lib.hid he
      have HD := Lib.hid hD
      have HDG := Lib.hid hdg
      clear he hD hdg hz hpr
      go_enter Tryd.func3, Tryd.ntmps3
      go_wp2_with fail
      refine (HF.out).mono ?_
      rintro e w1 ⟨b, rfl, F1, hb1⟩
      have sb1 := hb.sl.below hb1
      go_wp2_with fail
      refine (HD.out b _ F1.c0 sb1).mono ?_
      rintro e w2 ⟨rfl, hb2⟩
      have sb2 := sb1.below hb2
      have bw2 := hb1.trans (hb2.mono hb1.size)
      go_wp2_with fail
      refine (HDG.out _ sb2).mono ?_
      rintro e w' ⟨rfl, rfl⟩
      go_wp2_with fail
      refine (HE.out _ (hT.below bw2)).mono ?_
      rintro e w3 ⟨rfl, hb3⟩
      go_wp2
      go_ret
      exact ⟨rfl, bw2.trans (hb3.mono bw2.size)⟩
    · have hD := fun b W hcW hsx hsy => pdiv_any q hpr (by omega) hqm b A B na ca nb cb xs ys HLA.out HLB.out ha.i64 hb.i64 (by omega) (by omega) hna hnb hz W hcW hsx hsy
      have hR := fun W hsx hsy => rdivided_n q hpr (by omega) hqm A B na ca nb cb xs ys HLA.out HLB.out ha.i64 hb.i64 (by omega) (by omega) hna hnb hz W hsx hsy
      have hd0 := degL_pos hz
      generalize degL (els q ys) = d at hdg hd0
      have hlR : ∀ Q R, DivOk (els q xs) (els q ys) Q R → R.length < 9223372036854775807 := fun Q R h => by
        have h1 := h.lt
        have h2 := trimL_length_le (els q ys)
        rw [List.length_map, HLB.out] at h2
        omega
      have HU := Lib.hid (fun Q R Q' R' (h : DivOk (els q xs) (els q ys) Q R) (h' : DivOk (els q xs) (els q ys) Q' R') => h.unique hpr h')
      have HLR := Lib.hid hlR
      have HD := Lib.hid hD
      have HR := Lib.hid hR
      have HDG := Lib.hid hdg
      have t1 : ¬ d < 0 := by omega
      clear hD hR hdg hz hpr hlR
      go_enter Tryd.func3, Tryd.ntmps3
      go_wp2_with fail
      refine (HF.out).mono ?_
      rintro e w1 ⟨b, rfl, F1, hb1⟩
      have sa1 := ha.sl.below hb1
      have sb1 := hb.sl.below hb1
      go_wp2_with fail
      refine (HD.out b _ F1.c0 sa1 sb1).mono ?_
      rintro e w2 ⟨Q, R, hdv, v1, v2, rfl, hown1, hown2, hb2⟩
      have sa2 := sa1.below hb2
      have sb2 := sb1.below hb2
      have bw2 := hb1.trans (hb2.mono hb1.size)
      obtain ⟨A1, n1, c1, rfl, hl1, _, hm1, sq1⟩ := hown1.shapeN
      obtain ⟨A2, n2, c2, rfl, hl2, _, hm2, sr1⟩ := hown2.shapeN
      have HL1 := Lib.hid hl1
      have HL2 := Lib.hid hl2
      have HDV := Lib.hid hdv
      have hn1 : n1 ≤ 9223372036854775807 := by simp only [maxLen] at hm1; omega
      have hn2 : n2 ≤ 9223372036854775807 := by simp only [maxLen] at hm2; omega
      clear hl1 hl2 hdv hown1 hown2 hm1 hm2
      go_wp2_with fail
      refine (HDG.out _ sb2).mono ?_
      rintro e w' ⟨rfl, rfl⟩
      go_wp2_with fail
      refine (HR.out _ sa2 sb2).mono ?_
      rintro e w3 ⟨Q', R', v3, v4, hdv', rfl, hown3, hown4, hb3⟩
      obtain ⟨rfl, rfl⟩ := HU.out _ _ _ _ HDV.out hdv'
      have bw3 := bw2.trans (hb3.mono bw2.size)
      obtain ⟨A3, n3, c3, rfl, hl3, _, hm3, sq3⟩ := hown3.shapeN
      obtain ⟨A4, n4, c4, rfl, hl4, _, hm4, sr4⟩ := hown4.shapeN
      have HL3 := Lib.hid hl3
      have HL4 := Lib.hid hl4
      clear hl3 hl4 hdv' hown3 hown4 hm3 hm4
      go_wp2_with fail
      refine (ints_same A1 A3 n1 c1 n3 c3 _ _ HL1.out HL3.out rfl hn1 _ (sq1.below hb3) sq3).mono ?_
      rintro e w4 ⟨rfl, m, rfl⟩
      go_wp2_with fail
      refine (ints_same A2 A4 n2 c2 n4 c4 _ _ HL2.out HL4.out rfl hn2 _ ((sr1.below hb3).drewN m) (sr4.drewN m)).mono ?_
      rintro e w5 ⟨rfl, m2, rfl⟩
      go_wp2
      go_ret
      exact ⟨rfl, below_drewN bw3 _⟩
  · have HN := Lib.hid (sfield_no p hp hF w hT)
    clear hF
    go_enter Tryd.func3, Tryd.ntmps3
    go_wp2_with fail
    refine (HN.out).mono ?_
    rintro e w1 ⟨rfl, hb1⟩
    go_wp2
    go_ret
    exact ⟨rfl, hb1⟩
end Go.Proofs.YtiohededmcfhjaaDoor
