/- The walk of the law FoldCatches. -/
import Derived.Test.YtehgeiaglddabaaLv5
import Derived.Test.YtehgeiaglddabaaCoef
import Derived.Test.YtehgeiaglddabaaFc
import Derived.Test.YtehgeiaglddabaaArg
set_option linter.unusedVariables false
namespace Go.Proofs.Ytehgeiaglddabaa
open Go.RowKit Zp

/-- the law's plain part -/
structure CatchFacts (w u v : Bool) : Prop where
  low : w = true → u = true ∧ v = true
  high : w = false → u = false ∨ v = false
theorem catch_facts {q : Nat} [NeZero q] (hq : IsPrime q) (h3 : 3 ≤ q) {m κ : Nat} (hm : 0 < m) (hsz : SizeOk q (2 * m)) (hk1 : 1 ≤ κ) (hk2 : κ ≤ m) {s : Fin q} (hs : s ≠ 0) {xs : List Int} (hl : xs.length = 2 * m) {c d : Fin q} (hcd : c - d ≠ 0) :
    CatchFacts (cwB q (2 * m) s ((2 * κ : Nat) : Int) xs) (cwB q m (s * s) (κ : Int) (fvs (foldL s (rootI q ((2 * m : Nat) : Int)) m (els q xs) c))) (cwB q m (s * s) (κ : Int) (fvs (foldL s (rootI q ((2 * m : Nat) : Int)) m (els q xs) d))) := by
  have hord := rootI_ord hq hsz.pos hsz.2
  have hrh := rootI_half hm hsz.2 (by omega)
  have hl' : (els q xs).length = 2 * m := by simpa using hl
  have key : ∀ e : Fin q, cwB q m (s * s) (κ : Int) (fvs (foldL s (rootI q ((2 * m : Nat) : Int)) m (els q xs) e)) = decide ((trimL (foldP e (coefL s (rootI q ((2 * m : Nat) : Int)) (2 * m) (els q xs)))).length ≤ κ) := by
    intro e
    unfold cwB
    rw [els_fvs, hrh, fold_coef hq h3 hm hsz.2 hs hord hl' e, List.length_map, foldL_length, decide_eq_decide]
    exact ⟨fun h => by have := h.2.2; omega, fun h => ⟨⟨by omega, by omega⟩, rfl, by omega⟩⟩
  have keyw : cwB q (2 * m) s ((2 * κ : Nat) : Int) xs = decide ((trimL (coefL s (rootI q ((2 * m : Nat) : Int)) (2 * m) (els q xs))).length ≤ 2 * κ) := by
    unfold cwB
    rw [decide_eq_decide]
    exact ⟨fun h => by have := h.2.2; omega, fun h => ⟨⟨by omega, by omega⟩, hl, by omega⟩⟩
  rw [key, key, keyw]
  refine ⟨fun h => ?_, fun h => ?_⟩
  · have h := of_decide_eq_true h
    exact ⟨decide_eq_true (folds_low h c), decide_eq_true (folds_low h d)⟩
  · have h := of_decide_eq_false h
    by_cases h1 : (trimL (foldP c (coefL s (rootI q ((2 * m : Nat) : Int)) (2 * m) (els q xs)))).length ≤ κ
    · right
      exact decide_eq_false fun h2 => h (folds_high hq hcd h1 h2)
    · left
      exact decide_eq_false h1

set_option maxRecDepth 100000 in
set_option maxHeartbeats 2000000 in
theorem catch_walk (w : World) (p : Int) (hp : I64 p) (size : Int) (hsz : I64 size) (t : Int) (ht : I64 t) (k : Int) (hk : I64 k) (A : Option Addr) (na ca : Nat) (xs : List Int) (ha : ArgS w A na ca xs) (r : Int) (hr : I64 r) (s : Int) (hs : I64 s) :
    Calls Try.prog 11 #[vi p, vi size, vi t, vi k, .slice A na ca, vi r, vi s] w fun e w' => SaysW (.bool true) w e w' := by
  have hra := ha.r8
  have hla := ha.len
  rw [hla] at hra
  have HLA := Lib.hid hla
  clear hla
  by_cases hF : HasHalf p size t
  · obtain ⟨q, m, rfl, hm0, rfl, h3, hm, hpr, hsn, h0⟩ := hF.parts
    haveI := hpr.ne
    have hpl := fun w => plain5_yes q m t ht hpr h3 hm hm0 hsn h0 w
    have HPL := Lib.hid hpl
    have hn1 := hsn.le
    have h0' : el q t ≠ 0 := fun h => h0 (el_eq_zero.1 h)
    have H0 := Lib.hid h0'
    have HSN := Lib.hid hsn
    clear hpl hF h0 h0' hsn
    obtain ⟨n, hnn⟩ : ∃ n, n = 2 * m := ⟨_, rfl⟩
    rw [← hnn] at HPL hn1 ⊢
    have HNN := Lib.hid hnn
    clear hnn
    go_enter Try.func11, Try.ntmps11
    go_wp2_with fail
    refine (lives5_any _).mono ?_
    rintro e w1 ⟨rfl, hb1⟩
    go_wp2_with fail
    refine (HPL.out _).mono ?_
    rintro e w2 ⟨b, D, H, rfl, hD, hH, hb2⟩
    have hbel2 := hb1.trans (hb2.mono hb1.size)
    rw [← HNN.out] at hD
    clear hb1 hb2
    go_wp2_with fail
    refine (sub_any q hm b r s hr hs _ hD.fld.c0).mono ?_
    rintro e w' ⟨rfl, rfl⟩
    have hsw := ha.sl.below hbel2
    by_cases hlen : na = n
    · subst hlen
      go_wp2_with fail
      refine (fold_any q _ D b na m HNN.out hm0 (el q t) A ca xs HLA.out ha.i64 r hr _ hD hsw).mono ?_
      rintro e w3 ⟨v3, rfl, hown3, hb3⟩
      have hbel3 := hbel2.trans (hb3.mono hbel2.size)
      have hD3 := hD.below hb3 (Nat.le_refl _)
      have hH3 := hH.below hb3 (Nat.le_refl _)
      obtain ⟨A3, n3, c3, rfl, hl3, _, _, hs3⟩ := hown3.shapeN
      rw [List.length_map, foldL_length] at hl3
      subst hl3
      clear hown3
      go_wp2_with fail
      refine (fold_any q _ D b na m HNN.out hm0 (el q t) A ca xs HLA.out ha.i64 s hs _ hD3 (ha.sl.below hbel3)).mono ?_
      rintro e w4 ⟨v4, rfl, hown4, hb4⟩
      have hbel4 := hbel3.trans (hb4.mono hbel3.size)
      have hD4 := hD3.below hb4 hD3.le
      have hH4 := hH3.below hb4 hH3.le
      have hs3' := hs3.below hb4
      obtain ⟨A4, n4, c4, rfl, hl4, _, _, hs4⟩ := hown4.shapeN
      rw [List.length_map, foldL_length] at hl4
      subst hl4
      clear hown4 hb3 hb4 hs3
      by_cases hx : el q r - el q s = 0
      · have t1 : (fv (el q r - el q s) == 0) = true := by rw [hx]; rfl
        clear hx
        go_wp2
        go_ret
        exact ⟨rfl, hbel4⟩
      · have t1 : (fv (el q r - el q s) == 0) = false := by rw [beq_eq_false_iff_ne]; exact fun h => hx (fv_eq_zero.1 h)
        have HX := Lib.hid hx
        clear hx
        by_cases hk2 : k < 2
        · go_wp2; go_ret; exact ⟨rfl, hbel4⟩
        · by_cases hkn : (na : Int) < k
          · go_wp2; go_ret; exact ⟨rfl, hbel4⟩
          · by_cases hpar : k % 2 = 0
            · obtain ⟨kk, rfl⟩ := Int.eq_ofNat_of_zero_le (a := k) (by omega)
              obtain ⟨κ, hκ⟩ : ∃ κ, κ = kk / 2 := ⟨_, rfl⟩
              have hκ2 : kk = 2 * κ := by omega
              have t2 : ((kk : Int) % 2 != 0) = false := by rw [hpar]; rfl
              have t3 : (kk : Int) / 2 = (κ : Int) := by omega
              have hfacts := catch_facts hpr h3 hm0 HSN.out (κ := κ) (by omega) (by have := HNN.out; omega) H0.out (by rw [HLA.out]; exact HNN.out) HX.out
              rw [← HNN.out, ← hκ2] at hfacts
              obtain ⟨U, hU⟩ : ∃ U, U = cwB q m (el q t * el q t) (κ : Int) (fvs (foldL (el q t) (rootI q (na : Int)) m (els q xs) (el q r))) := ⟨_, rfl⟩
              obtain ⟨V, hV⟩ : ∃ V, V = cwB q m (el q t * el q t) (κ : Int) (fvs (foldL (el q t) (rootI q (na : Int)) m (els q xs) (el q s))) := ⟨_, rfl⟩
              obtain ⟨W, hW⟩ : ∃ W, W = cwB q na (el q t) (kk : Int) xs := ⟨_, rfl⟩
              rw [← hU, ← hV, ← hW] at hfacts
              have hu := is_any q _ H b m (el q t * el q t) (κ : Int) A3 m c3 _ (by rw [List.length_map, foldL_length]) (i64_fvs _ hm) w4 hH4 hs3'
              have hv := fun w hH hs => is_any q w2.heap.size H b m (el q t * el q t) (κ : Int) A4 m c4 _ (by rw [List.length_map, foldL_length]) (i64_fvs (foldL (el q t) (rootI q (na : Int)) m (els q xs) (el q s)) hm) w hH hs
              have hw := fun w hD hs => is_any q w2.heap.size D b na (el q t) (kk : Int) A na ca xs HLA.out ha.i64 w hD hs
              rw [← hU] at hu
              rw [← hV] at hv
              rw [← hW] at hw
              have HU := Lib.hid hu
              have HV := Lib.hid hv
              have HW := Lib.hid hw
              have HFA := Lib.hid hfacts
              clear hu hv hw hU hV hW hfacts hpar hκ hκ2
              go_wp2_with fail
              refine (HU.out).mono ?_
              rintro e w5 ⟨rfl, hb5⟩
              have hbel5 := hbel4.trans (hb5.mono hbel4.size)
              have hH5 := hH4.below hb5 hH4.le
              go_wp2_with fail
              refine (HV.out _ hH5 (hs4.below hb5)).mono ?_
              rintro e w6 ⟨rfl, hb6⟩
              have hbel6 := hbel5.trans (hb6.mono hbel5.size)
              have hD6 := (hD4.below hb5 hD4.le).below hb6 (by have := hD4.le; have := hb5.size; omega)
              go_wp2_with fail
              refine (HW.out _ hD6 (ha.sl.below hbel6)).mono ?_
              rintro e w7 ⟨rfl, hb7⟩
              have hbel7 := hbel6.trans (hb7.mono hbel6.size)
              cases W
              · rcases HFA.out.high rfl with h | h
                · subst h
                  go_wp2; go_ret; exact ⟨rfl, hbel7⟩
                · subst h
                  cases U
                  · go_wp2; go_ret; exact ⟨rfl, hbel7⟩
                  · go_wp2; go_ret; exact ⟨rfl, hbel7⟩
              · obtain ⟨h1, h2⟩ := HFA.out.low rfl
                subst h1 h2
                go_wp2; go_ret; exact ⟨rfl, hbel7⟩
            · have t2 : (k % 2 != 0) = true := by rw [bne_iff_ne]; exact hpar
              clear hpar
              go_wp2; go_ret; exact ⟨rfl, hbel4⟩
    · go_wp2_with fail
      refine (fold_no D n A na ca r (.inr hlen) _ hD.c1).mono ?_
      rintro e w' ⟨rfl, rfl⟩
      go_wp2_with fail
      refine (fold_no D n A na ca s (.inr hlen) _ hD.c1).mono ?_
      rintro e w' ⟨rfl, rfl⟩
      by_cases hx : (fv (el q r - el q s) == 0) = true
      · go_wp2; go_ret; exact ⟨rfl, hbel2⟩
      · have hx' : (fv (el q r - el q s) == 0) = false := by simpa using hx
        clear hx
        go_wp2; go_ret; exact ⟨rfl, hbel2⟩
  · have hpl := fun w => plain5_no p size t hsz ht hF w
    have HPL := Lib.hid hpl
    clear hpl hF
    go_enter Try.func11, Try.ntmps11
    go_wp2_with fail
    refine (lives5_any _).mono ?_
    rintro e w1 ⟨rfl, hb1⟩
    go_wp2_with fail
    refine (HPL.out _).mono ?_
    rintro e w2 ⟨rfl, hb2⟩
    go_wp2
    go_ret
    exact ⟨rfl, hb1.trans (hb2.mono hb1.size)⟩
end Go.Proofs.Ytehgeiaglddabaa
