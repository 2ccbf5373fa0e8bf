/- The walk of the law DomainValues. -/
import Derived.Test.YtkhkoeibigpdnaaDoorLawG3
import Derived.Test.YtkhkoeibigpdnaaDoorQp
set_option linter.unusedVariables false
namespace Go.Proofs.YtkhkoeibigpdnaaDoor
open Go.RowKit Zp

set_option maxRecDepth 100000 in
set_option maxHeartbeats 2000000 in
theorem dvalues_walk (w : World) (p : Int) (hp : I64 p) (size : Int) (hs : I64 size) (t : Int) (ht : I64 t) (A : Option Addr) (na ca : Nat) (xs : List Int) (ha : ArgS w A na ca xs) (hT : Typed w) :
    Calls Tryd.prog 5 #[vi p, vi size, vi t, .slice A na ca] w fun e w' => SaysW (.bool true) w e w' := by
  have hra := ha.r8
  rw [ha.len] at hra
  have HLA := Lib.hid ha.len
  by_cases hD : HasDom2 p size t
  · obtain ⟨⟨h3, hm, hpr⟩, n, rfl, hsz, h0⟩ := hD
    obtain ⟨q, rfl⟩ := Int.eq_ofNat_of_zero_le (a := p) (by omega)
    rw [Int.toNat_natCast] at hpr hsz
    haveI := hpr.ne
    have hqm : q ≤ 2147483647 := by omega
    have HM := Lib.hid (made2_yes q n (by omega) hqm hpr t ht hsz h0 w hT)
    have hn := hsz.le
    have hn1 := hsz.pos
    have hv1 := fun D b S A2 c2 W hD hsW => values_n q S D b n (el q t) A2 na c2 xs HLA.out ha.i64 (by omega) W hD hsW
    have hv2 := fun W hsW => rvalues_any q (by omega) hqm n hn1 hn (el q t) (rootI q n) A na ca xs HLA.out ha.i64 (by omega) W hsW
    have hvl := valL_length (el q t) (rootI q n) n (els q xs)
    generalize valL (el q t) (rootI q n) n (els q xs) = V at hv1 hv2 hvl
    have HV1 := Lib.hid hv1
    have HV2 := Lib.hid hv2
    have HVL := Lib.hid hvl
    clear h0 hpr hsz hv1 hv2 hvl
    go_enter Tryd.func5, Tryd.ntmps5
    go_wp2_with fail
    refine (HM.out).mono ?_
    rintro e w1 ⟨b, D, rfl, hD, hb1⟩
    have sa1 := ha.sl.below hb1
    have hba : Below w1.heap.size w1 (w1.alloc (.cells #[vi q, vi n, vi (fv (el q t)), vi (fv (rootI q n))] 31)) := (Below.refl _ _).alloc (Nat.le_refl _) _
    have hrd := RD.new w1 31 q n (fv (el q t)) (fv (rootI q n))
    have hltB : w1.heap.size < (w1.alloc (.cells #[vi q, vi n, vi (fv (el q t)), vi (fv (rootI q n))] 31)).heap.size := by simp
    have hD2 := hD.below hba hD.fld.le
    have sa2 := sa1.below hba
    have bw2 := hb1.trans (hba.mono hb1.size)
    have hbe : Below (w1.alloc (.cells #[vi q, vi n, vi (fv (el q t)), vi (fv (rootI q n))] 31)).heap.size (w1.alloc (.cells #[vi q, vi n, vi (fv (el q t)), vi (fv (rootI q n))] 31)) ((w1.alloc (.cells #[vi q, vi n, vi (fv (el q t)), vi (fv (rootI q n))] 31)).alloc (.cells #[] 3)) := (Below.refl _ _).alloc (Nat.le_refl _) _
    have ho2 : Own ((w1.alloc (.cells #[vi q, vi n, vi (fv (el q t)), vi (fv (rootI q n))] 31)).alloc (.cells #[] 3)) (w1.heap.size + 1) (.slice (some ⟨w1.heap.size + 1, 0, none⟩) 0 0) [] := by
      have h := own_empty (w1.alloc (.cells #[vi q, vi n, vi (fv (el q t)), vi (fv (rootI q n))] 31)) _ (Nat.le_refl _)
      rw [World.size_alloc] at h
      exact h
    have sa2' := sa2.below hbe
    go_wp2_with (at_builtin; refine wpList_appA _ rfl _ _ rfl (w1.heap.size + 1) _ [] A na ca xs rfl rfl HLA.out ho2 sa2' (by simp; omega) (by simp) ?_; intro v' w3 hg; have hown := hg.own; have hb3 := hg.below hbe ho2 (by simp) hbe.size; rw [List.nil_append] at hown; clear hg; obtain ⟨AX, n2, cX, rfl, hl2, hcX, _, sx3⟩ := hown.shapeN; rw [HLA.out] at hl2; subst hl2; clear hown)
    have hD3 := hD2.below hb3 hD2.fld.le
    have sa3 := sa2.below hb3
    have hrd3 := hrd.below hb3 hltB
    have hlt3 : w1.heap.size < w3.heap.size := Nat.lt_of_lt_of_le hltB hb3.size
    have bw3 := bw2.trans (hb3.mono bw2.size)
    clear hD hD2 sa1 sa2 sa2' hrd bw2 hba hb3 ho2 hbe hltB
    obtain ⟨B, hB⟩ : ∃ B, B = w1.heap.size := ⟨_, rfl⟩
    rw [← hB] at hrd3 hlt3 ⊢
    clear hB
    refine (HV1.out D b _ AX cX _ hD3 sx3).mono ?_
    rintro e w4 ⟨A4, c4, hl4, rfl, hc4, hm4, sl4, hb4⟩
    have HL4 := Lib.hid hl4
    have sa4 := sa3.below hb4
    have sx4 := sx3.below hb4
    have hrd4 := hrd3.below hb4 hlt3
    have bw4 := bw3.trans (hb4.mono bw3.size)
    have d0 := hrd4.c0
    have d1 := hrd4.c1
    have d2 := hrd4.c2
    have d3 := hrd4.c3
    clear hl4 sa3 sx3 hrd3 bw3 hD3 hb4
    go_wp2_with fail
    refine (HV2.out _ sa4).mono ?_
    rintro e w5 ⟨v5, rfl, hown5, hb5⟩
    have sl5 := sl4.below hb5
    have sa5 := sa4.below hb5
    have sx5 := sx4.below hb5
    have bw5 := bw4.trans (hb5.mono bw4.size)
    obtain ⟨A5, n5, c5, rfl, hl5, hc5, hm5, sr5⟩ := hown5.shapeN
    have HL5 := Lib.hid hl5
    clear hown5 hl5 d0 d1 d2 d3 hrd4
    go_wp2_with fail
    refine (ints_sameH A4 A5 n c4 n5 c5 _ _ HL4.out HL5.out rfl (by omega) _ sl5 sr5).mono ?_
    rintro e w' ⟨rfl, k1, rfl⟩
    go_wp2_with fail
    refine (ints_sameH AX A na cX na ca xs xs HLA.out HLA.out rfl (by omega) _ (by exact sx5) (by exact sa5)).mono ?_
    rintro e w' ⟨rfl, k2, rfl⟩
    go_wp2
    go_ret
    exact ⟨rfl, below_drewN bw5 _⟩
  · have HN := Lib.hid (made2_no p size t hp hs ht hD w hT)
    clear hD
    go_enter Tryd.func5, Tryd.ntmps5
    go_wp2_with fail
    refine (HN.out).mono ?_
    rintro e w1 ⟨rfl, hb1⟩
    go_wp2
    go_ret
    exact ⟨rfl, hb1.alloc hb1.size _⟩
end Go.Proofs.YtkhkoeibigpdnaaDoor
