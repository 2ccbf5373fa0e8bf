/- The walk of the law DomainBack. -/
import Derived.Test.YtkhkoeibigpdnaaDoorMd
import Derived.Test.YtkhkoeibigpdnaaDoorRp
import Derived.Test.YtkhkoeibigpdnaaDoorCoef
import Derived.Test.YtkhkoeibigpdnaaDoorArg
set_option linter.unusedVariables false
namespace Go.Proofs.YtkhkoeibigpdnaaDoor
open Go.RowKit Zp

/-- is there a domain? -/
def HasDom2 (p size t : Int) : Prop := HasField p ∧ ∃ n : Nat, size = n ∧ SizeOk p.toNat n ∧ ¬ t % p = 0
theorem made2_no (p size t : Int) (hp : I64 p) (hs : I64 size) (ht : I64 t) (h : ¬ HasDom2 p size t) (w : World) (hT : Typed w) :
    Calls Tryd.prog 18 #[vi p, vi size, vi t] w fun e w' => SaysW NoMade w e w' := by
  by_cases hF : HasField p
  · have h' : ¬ ∃ n : Nat, size = n ∧ SizeOk p.toNat n ∧ ¬ t % p = 0 := fun h2 => h ⟨hF, h2⟩
    obtain ⟨h3, hm, hpr⟩ := hF
    obtain ⟨q, rfl⟩ := Int.eq_ofNat_of_zero_le (a := p) (by omega)
    rw [Int.toNat_natCast] at hpr h'
    haveI := hpr.ne
    exact made2_nod q (by omega) (by omega) hpr size t hs ht h' w hT
  · exact made2_nof p size t hp hF w hT
theorem ints_sameH (A B : Option Addr) (n c m d : Nat) (xs ys : List Int) (hnx : xs.length = n) (hmy : ys.length = m) (he : xs = ys) (hn : n ≤ 9223372036854775807) (w : World) (hsx : SL w A xs) (hsy : SL w B ys) :
    Calls Tryd.prog 21 #[.slice A n c, .slice B m d] w fun e w' => e = .returned (.bool true) ∧ ∃ k, w' = w.drewN k := by
  subst hnx hmy
  have h := ints_any A B c d xs ys hn (by rw [← he]; exact hn) w hsx hsy
  rw [eqB_true he] at h
  exact h

set_option maxRecDepth 100000 in
set_option maxHeartbeats 2000000 in
theorem back_walk (w : World) (p : Int) (hp : I64 p) (size : Int) (hs : I64 size) (t : Int) (ht : I64 t) (A : Option Addr) (na ca : Nat) (xs : List Int) (ha : ArgS w A na ca xs) (hT : Typed w) :
    Calls Tryd.prog 6 #[vi p, vi size, vi t, .slice A na ca] w fun e w' => SaysW (.bool true) w e w' := by
  have hra := ha.r8
  rw [ha.len] at hra
  have HLA := Lib.hid ha.len
  by_cases hD : HasDom2 p size t
  · obtain ⟨⟨h3, hm, hpr⟩, n, rfl, hsz, h0⟩ := hD
    obtain ⟨q, rfl⟩ := Int.eq_ofNat_of_zero_le (a := p) (by omega)
    rw [Int.toNat_natCast] at hpr hsz
    haveI := hpr.ne
    have hqm : q ≤ 2147483647 := by omega
    have HM := Lib.hid (made2_yes q n (by omega) hqm hpr t ht hsz h0 w hT)
    have hn := hsz.le
    have hn1 := hsz.pos
    have hs0 : el q t ≠ 0 := fun h => h0 (el_eq_zero.1 h)
    have hord := rootI_ord hpr hsz.pos hsz.2
    by_cases hl : na = n
    · subst hl
      have hval : valL (el q t) (rootI q na) na (trimL (coefL (el q t) (rootI q na) na (els q xs))) = els q xs := by
        have h1 := valL_coefL hpr hn1 hsz.2 hord hs0 (l := els q xs) (by rw [List.length_map]; exact HLA.out)
        refine Eq.trans ?_ h1
        unfold valL
        congr 1
        funext j
        rw [ev_trim]
      have hcl : (trimL (coefL (el q t) (rootI q na) na (els q xs))).length ≤ na := by
        have := trimL_length_le (coefL (el q t) (rootI q na) na (els q xs))
        rw [coefL_length] at this; exact this
      have hco := fun D b S W hD hsW => coefs_any q S D b na (el q t) A ca xs HLA.out ha.i64 W hD hsW
      have htt := trimL_trim (coefL (el q t) (rootI q na) na (els q xs))
      generalize trimL (coefL (el q t) (rootI q na) na (els q xs)) = C at hval hcl hco htt
      have hvs := fun D b S B m c hlm hmn W hD hsW => values_n q S D b na (el q t) B m c (fvs C) hlm (i64_fvsR _ hqm) hmn W hD hsW
      simp only [els_fvs] at hvs
      rw [hval] at hvs
      have hal := fun W hsW => rall_n q hqm A na ca xs HLA.out ha.i64 hra W hsW
      have htr := fun B m c hlm hmr hmc W hsW => rtrim_n q hqm B m c (fvs C) hlm (i64_fvsR _ hqm) hmr hmc W hsW
      simp only [els_fvs] at htr
      rw [htt] at htr
      have HCO := Lib.hid hco
      have HVS := Lib.hid hvs
      have HAL := Lib.hid hal
      have HTR := Lib.hid htr
      have HCL := Lib.hid hcl
      clear hval hcl hco htt hvs hal htr hs0 hord h0 hpr hsz
      go_enter Tryd.func6, Tryd.ntmps6
      go_wp2_with fail
      refine (HM.out).mono ?_
      rintro e w1 ⟨b, D, rfl, hD, hb1⟩
      have sa1 := ha.sl.below hb1
      go_wp2_with fail
      have hba : Below w1.heap.size w1 (w1.alloc (.cells #[vi q, vi na, vi (fv (el q t)), vi (fv (rootI q na))] 31)) := (Below.refl _ _).alloc (Nat.le_refl _) _
      generalize w1.alloc (.cells #[vi q, vi na, vi (fv (el q t)), vi (fv (rootI q na))] 31) = w2 at hba ⊢
      have hD2 := hD.below hba hD.fld.le
      have sa2 := sa1.below hba
      have bw2 := hb1.trans (hba.mono hb1.size)
      clear hD sa1 hb1 hba
      refine (HCO.out D b _ w2 hD2 sa2).mono ?_
      rintro e w3 ⟨v3, rfl, hown3, hb3⟩
      have hD3 := hD2.below hb3 hD2.fld.le
      have sa3 := sa2.below hb3
      have bw3 := bw2.trans (hb3.mono bw2.size)
      obtain ⟨A3, n3, c3, rfl, hl3, hc3, hm3, sc3⟩ := hown3.shapeN
      have HL3 := Lib.hid hl3
      have hn3 : n3 ≤ na := by have := HCL.out; rw [List.length_map] at hl3; omega
      clear hown3 hl3 hD2 sa2 bw2 hb3
      go_wp2_with fail
      refine (HTR.out A3 n3 c3 HL3.out (by omega) hc3 _ sc3).mono ?_
      rintro e w4 ⟨v4, rfl, hown4, hb4⟩
      have hD4 := hD3.below hb4 hD3.fld.le
      have sa4 := sa3.below hb4
      have sc4 := sc3.below hb4
      have bw4 := bw3.trans (hb4.mono bw3.size)
      obtain ⟨A4, n4, c4, rfl, hl4, hc4, hm4, st4⟩ := hown4.shapeN
      have HL4 := Lib.hid hl4
      have hn4 : n4 ≤ na := by have := HCL.out; rw [List.length_map] at hl4; omega
      clear hown4 hl4 hD3 sa3 sc3 bw3 hb4
      go_wp2_with fail
      refine (ints_sameH A4 A3 n4 c4 n3 c3 _ _ HL4.out HL3.out rfl (by omega) _ st4 sc4).mono ?_
      rintro e w' ⟨rfl, k1, rfl⟩
      go_wp2_with fail
      refine (HVS.out D b _ A3 n3 c3 HL3.out (by omega) _ (hD4.drewN k1) (by exact sc4)).mono ?_
      rintro e w5 ⟨A5, c5, hl5, rfl, hc5, hm5, sl5, hb5⟩
      have hb45 : Below w4.heap.size w4 w5 := (below_drewN (Below.refl _ w4) k1).trans hb5
      have sa5 := sa4.below hb45
      have bw5 := bw4.trans (hb45.mono bw4.size)
      have HL5 := Lib.hid hl5
      clear hl5 hb5
      go_wp2_with fail
      refine (HAL.out _ sa5).mono ?_
      rintro e w6 ⟨v6, rfl, hown6, hb6⟩
      have sl6 := sl5.below hb6
      have bw6 := bw5.trans (hb6.mono bw5.size)
      obtain ⟨A6, n6, c6, rfl, hl6, hc6, hm6, sw6⟩ := hown6.shapeN
      have HL6 := Lib.hid hl6
      clear hown6 hl6
      go_wp2_with fail
      refine (ints_sameH A5 A6 na c5 n6 c6 _ _ HL5.out HL6.out rfl (by omega) _ sl6 sw6).mono ?_
      rintro e w' ⟨rfl, k2, rfl⟩
      go_wp2
      go_ret
      exact ⟨rfl, below_drewN bw6 _⟩
    · have HB := Lib.hid (fun D W hc => coefs_bad D n A na ca hl W hc)
      have t1 : ((na : Int) != (n : Int)) = true := by rw [bne_iff_ne]; omega
      clear hs0 hord h0 hpr hsz hl
      go_enter Tryd.func6, Tryd.ntmps6
      go_wp2_with fail
      refine (HM.out).mono ?_
      rintro e w1 ⟨b, D, rfl, hD, hb1⟩
      have hT1 := hT.below hb1
      have hal : ∀ o, Below w.heap.size w (w1.alloc o) := fun o => hb1.alloc hb1.size o
      have hTa : ∀ o, Typed (w1.alloc o) := fun o => hT1.below ((Below.refl _ _).alloc (Nat.le_refl _) o)
      have hDa : ∀ o, (w1.alloc o).cell? ⟨D, 1, none⟩ = some (vi n) := fun o => (World.cell?_alloc_lt w1 o ⟨D, 1, none⟩ hD.lt).trans hD.c1
      have HAL := Lib.hid hal
      have HTA := Lib.hid hTa
      have HDA := Lib.hid hDa
      clear hal hTa hDa
      go_wp2_with fail
      refine (HB.out D _ (by exact HDA.out _)).mono ?_
      rintro e w' ⟨rfl, rfl⟩
      go_wp2_with fail
      refine (errIs 2 (by decide) _ (by exact HTA.out _)).mono ?_
      rintro e w2 ⟨rfl, hb2⟩
      go_wp2
      go_ret
      exact ⟨rfl, (HAL.out _).trans (hb2.mono (HAL.out _).size)⟩
  · have HN := Lib.hid (made2_no p size t hp hs ht hD w hT)
    clear hD
    go_enter Tryd.func6, Tryd.ntmps6
    go_wp2_with fail
    refine (HN.out).mono ?_
    rintro e w1 ⟨rfl, hb1⟩
    go_wp2
    go_ret
    exact ⟨rfl, hb1.alloc hb1.size _⟩
end Go.Proofs.YtkhkoeibigpdnaaDoor
