/- The walk of the law CodeApart. -/
import Derived.Test.YtehgeiaglddabaaLv2
import Derived.Test.YtehgeiaglddabaaCode
import Derived.Test.YtehgeiaglddabaaEach
import Derived.Test.YtehgeiaglddabaaArg
set_option linter.unusedVariables false
namespace Go.Proofs.Ytehgeiaglddabaa
open Go.RowKit Zp

theorem distI_same {p : Nat} [NeZero p] (l m : List (Fin p)) (n : Nat) (hl : l.length = n) (hm : m.length = n) : distI p (fvs l) (fvs m) = diffN n (co l) (co m) := by
  unfold distI
  rw [els_fvs, els_fvs, List.length_map, List.length_map, hl, hm, Nat.max_self, Nat.min_self, Nat.sub_self, Nat.zero_add]

set_option maxRecDepth 100000 in
set_option maxHeartbeats 2000000 in
theorem apart_walk (w : World) (p : Int) (hp : I64 p) (size : Int) (hsz : I64 size) (t : Int) (ht : I64 t) (k : Int) (hk : I64 k) (A : Option Addr) (na ca : Nat) (xs : List Int) (ha : ArgS w A na ca xs) (B : Option Addr) (nb cb : Nat) (ys : List Int) (hb : ArgS w B nb cb ys) :
    Calls Try.prog 10 #[vi p, vi size, vi t, vi k, .slice A na ca, .slice B nb cb] w fun e w' => SaysW (.bool true) w e w' := by
  have hra := ha.r8
  have hrb := hb.r8
  have hla := ha.len
  have hlb := hb.len
  rw [hla] at hra
  rw [hlb] at hrb
  have HLA := Lib.hid hla
  have HLB := Lib.hid hlb
  clear hla hlb
  by_cases hF : HasDom p size t
  · obtain ⟨q, n, rfl, rfl, h3, hm, hpr, hsn, h0⟩ := hF.parts
    haveI := hpr.ne
    have hpl := fun w => plain2_yes q n t ht hpr h3 hm hsn h0 w
    have HPL := Lib.hid hpl
    have hn0 := hsn.pos
    have hn1 := hsn.le
    have hord := rootI_ord hpr hn0 hsn.2
    have HORD := Lib.hid hord
    clear hpl hF hord h0
    go_enter Try.func10, Try.ntmps10
    go_wp2_with fail
    refine (lives2_any _).mono ?_
    rintro e w1 ⟨rfl, hb1⟩
    go_wp2_with fail
    refine (HPL.out _).mono ?_
    rintro e w2 ⟨b, D, rfl, hD, hb2⟩
    have hbel2 := hb1.trans (hb2.mono hb1.size)
    clear hb1 hb2
    go_wp2_with fail
    refine (encode_all q _ D b n _ k A na ca xs HLA.out ha.i64 (by omega) _ hD (ha.sl.below hbel2)).mono ?_
    rintro e w3 (⟨_, rfl | rfl, rfl⟩ | ⟨⟨hk1, hdx⟩, A3, c3, hl3, rfl, hc3, hm3, hs3, hb3⟩)
    · go_wp2_with fail
      refine (encode_all q _ D b n _ k B nb cb ys HLB.out hb.i64 (by omega) _ hD (hb.sl.below hbel2)).mono ?_
      rintro e w4 (⟨_, rfl | rfl, rfl⟩ | ⟨_, A4, c4, hl4, rfl, _, _, _, hb4⟩)
      · go_wp2; go_ret; exact ⟨rfl, hbel2⟩
      · go_wp2; go_ret; exact ⟨rfl, hbel2⟩
      · go_wp2; go_ret; exact ⟨rfl, hbel2.trans (hb4.mono hbel2.size)⟩
    · go_wp2_with fail
      refine (encode_all q _ D b n _ k B nb cb ys HLB.out hb.i64 (by omega) _ hD (hb.sl.below hbel2)).mono ?_
      rintro e w4 (⟨_, rfl | rfl, rfl⟩ | ⟨_, A4, c4, hl4, rfl, _, _, _, hb4⟩)
      · go_wp2; go_ret; exact ⟨rfl, hbel2⟩
      · go_wp2; go_ret; exact ⟨rfl, hbel2⟩
      · go_wp2; go_ret; exact ⟨rfl, hbel2.trans (hb4.mono hbel2.size)⟩
    · have hbel3 := hbel2.trans (hb3.mono hbel2.size)
      have hD3 := hD.below hb3 (Nat.le_refl _)
      have HL3 := Lib.hid hl3
      clear hl3
      go_wp2_with fail
      refine (encode_all q _ D b n _ k B nb cb ys HLB.out hb.i64 (by omega) _ hD3 (hb.sl.below hbel3)).mono ?_
      rintro e w4 (⟨_, rfl | rfl, rfl⟩ | ⟨⟨_, hdy⟩, A4, c4, hl4, rfl, hc4, hm4, hs4, hb4⟩)
      · go_wp2; go_ret; exact ⟨rfl, hbel3⟩
      · go_wp2; go_ret; exact ⟨rfl, hbel3⟩
      · have hbel4 := hbel3.trans (hb4.mono hbel3.size)
        have hD4 := hD3.below hb4 hD3.le
        have hs3' := hs3.below hb4
        have HL4 := Lib.hid hl4
        clear hl4 hb3 hb4 hs3
        go_wp2_with fail
        refine (psub_any q hm b A B na ca nb cb xs ys HLA.out HLB.out ha.i64 hb.i64 (by omega) (by omega) _ hD4.fld.c0 (ha.sl.below hbel4) (hb.sl.below hbel4)).mono ?_
        rintro e w5 ⟨v5, rfl, hown, hb5⟩
        have hbel5 := hbel4.trans (hb5.mono hbel4.size)
        have hD5 := hD4.below hb5 hD4.le
        obtain ⟨C, lc, cc, rfl, hlc, _, _, hsc⟩ := hown.shapeN
        rw [List.length_map] at hlc
        clear hown
        have HLC := Lib.hid hlc
        clear hlc
        have hds := distance_any q hm b A3 A4 n c3 n c4 _ _ HL3.out HL4.out (i64_fvs _ hm) (i64_fvs _ hm) (by omega) (by omega) w5 hD5.fld.c0 (hs3'.below hb5) (hs4.below hb5)
        rw [distI_same _ _ n (valL_length _ _ _ _) (valL_length _ _ _ _)] at hds
        obtain ⟨d, hd⟩ : ∃ d, d = diffN n (co (valL (el q t) (rootI q n) n (els q xs))) (co (valL (el q t) (rootI q n) n (els q ys))) := ⟨_, rfl⟩
        rw [← hd] at hds
        have HDS := Lib.hid hds
        have hkI : 0 ≤ (n : Int) - k ∧ (n : Int) - k ≤ 65536 := by omega
        by_cases hl0 : lc = 0
        · have hd0 : d = 0 := by rw [hd, diffN_zero (fun i _ => vals_same (by rw [HLC.out, hl0]) i)]
          have t1 : ((lc : Int) == 0) = true := by rw [hl0]; rfl
          have t2 : ((d : Int) == 0) = true := by rw [hd0]; rfl
          clear hds hd hd0 hl0
          go_wp2_with fail
          refine (HDS.out).mono ?_
          rintro e w6 ⟨rfl, k6, rfl⟩
          go_wp2
          go_ret
          exact ⟨rfl, below_drewN hbel5 _⟩
        · have hsg := singleton hpr HORD.out hn0 hD5.s0 (els q xs) (els q ys) (k := k.toNat) (by unfold degL at hdx; omega) (by unfold degL at hdy; omega) (by rw [HLC.out]; omega)
          rw [← hd] at hsg
          have t1 : ((lc : Int) == 0) = false := by rw [beq_eq_false_iff_ne]; omega
          have t3 : (n : Int) - k + 1 ≤ d := by omega
          clear hds hd hsg
          go_wp2_with fail
          refine (HDS.out).mono ?_
          rintro e w6 ⟨rfl, k6, rfl⟩
          go_wp2
          go_ret
          exact ⟨rfl, below_drewN hbel5 _⟩
  · have hpl := fun w => plain2_no p size t hsz ht hF w
    have HPL := Lib.hid hpl
    clear hpl hF
    go_enter Try.func10, Try.ntmps10
    go_wp2_with fail
    refine (lives2_any _).mono ?_
    rintro e w1 ⟨rfl, hb1⟩
    go_wp2_with fail
    refine (HPL.out _).mono ?_
    rintro e w2 ⟨rfl, hb2⟩
    go_wp2
    go_ret
    exact ⟨rfl, hb1.trans (hb2.mono hb1.size)⟩
end Go.Proofs.Ytehgeiaglddabaa
