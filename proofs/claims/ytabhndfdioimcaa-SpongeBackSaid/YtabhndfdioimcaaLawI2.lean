/- The walk of law3.SpongeBack. -/
import Derived.Test.YtabhndfdioimcaaLv3
import Derived.Test.YtabhndfdioimcaaUp
import Derived.Test.YtabhndfdioimcaaArg
import Derived.Test.YtabhndfdioimcaaRa
import Derived.Test.YtabhndfdioimcaaInts
set_option linter.unusedVariables false
namespace Go.Proofs.Ytabhndfdioimcaa
open Go.RowKit Zp

section
variable {p : Nat} [NeZero p]
theorem un_perm (hp : IsPrime p) (h3 : 3 ≤ p) {k z : Nat} (hz : ∃ t : Int, (z : Int) * k = 1 + t * ((p - 1 : Nat) : Int)) {mm oo : Nat → Nat → Fin p} (hu : Undo (cauchy p) mm oo 8) {v u : Nat → Fin p} (huv : ∀ j, j < 8 → u j = permT k v 8 j) :
    ∀ n, n ≤ 8 → ∀ j, j < 8 → unpT z oo u n j = permT k v (8 - n) j := by
  intro n
  induction n with
  | zero => intro _ j hj; exact huv j hj
  | succ n ih =>
    intro hn j hj
    have e8 : 8 - n = (7 - n) + 1 := by omega
    have h1 : ap oo (unpT z oo u n) j = pw (permT k v (7 - n) j + cstT p (7 - n) j) k := by
      rw [ap_congr (m' := oo) (v' := permT k v (8 - n)) (fun _ _ => rfl) (fun i hi => ih (by omega) i hi), e8]
      exact hu.back (fun i => pw (permT k v (7 - n) i + cstT p (7 - n) i) k) hj
    show pw (ap oo (unpT z oo u n) j) z - cstT p (7 - n) j = _
    rw [h1, pw_root hp h3 hz, show 8 - (n + 1) = 7 - n by omega]
    grind
theorem perm_un (hp : IsPrime p) (h3 : 3 ≤ p) {k z : Nat} (hz : ∃ t : Int, (z : Int) * k = 1 + t * ((p - 1 : Nat) : Int)) {mm oo : Nat → Nat → Fin p} (hu : Undo (cauchy p) mm oo 8) {v u : Nat → Fin p} (huv : ∀ j, j < 8 → u j = unpT z oo v 8 j) :
    ∀ r, r ≤ 8 → ∀ j, j < 8 → permT k u r j = unpT z oo v (8 - r) j := by
  have hz' : ∃ t : Int, (k : Int) * z = 1 + t * ((p - 1 : Nat) : Int) := by obtain ⟨t, ht⟩ := hz; exact ⟨t, by rw [Int.mul_comm]; exact ht⟩
  intro r
  induction r with
  | zero => intro _ j hj; exact huv j hj
  | succ r ih =>
    intro hr j hj
    show ap (cauchy p) (fun i => pw (permT k u r i + cstT p r i) k) j = _
    rw [ap_congr (m' := cauchy p) (v' := ap oo (unpT z oo v (7 - r))) (fun _ _ => rfl) (fun i hi => ?_), hu.forth _ hj, show 8 - (r + 1) = 7 - r by omega]
    rw [ih (by omega) i hi, show 8 - r = (7 - r) + 1 by omega]
    show pw (pw (ap oo (unpT z oo v (7 - r)) i) z - cstT p (7 - (7 - r)) i + cstT p r i) k = _
    rw [show 7 - (7 - r) = r by omega, show pw (ap oo (unpT z oo v (7 - r)) i) z - cstT p r i + cstT p r i = pw (ap oo (unpT z oo v (7 - r)) i) z by grind]
    exact pw_root hp h3 hz' _
theorem getD_map8 (R : Nat → Int) {i : Nat} (hi : i < 8) : (((List.range 8).map R).getD i 0) = R i := by simp [List.getD, hi]
theorem all8 {xs : List Int} (h8 : xs.length = 8) {R : Nat → Fin p} (h : ∀ j, j < 8 → R j = el p (xs.getD j 0)) : (List.range 8).map (fun i => fv (R i)) = fvs (els p xs) := by
  apply List.ext_getElem?
  intro i
  by_cases hi : i < 8
  · have hi' : i < xs.length := by omega
    simp [fvs, els, hi, hi', h i hi, List.getD]
  · have hi' : ¬ i < xs.length := by omega
    rw [List.getElem?_eq_none (by simp; omega), List.getElem?_eq_none (by simp [fvs, els]; omega)]
end
theorem i64_map8 {p : Nat} (hm : p ≤ 2147483647) (R : Nat → Fin p) (i : Nat) : I64 (((List.range 8).map fun i => fv (R i)).getD i 0) :=
  i64_getD3 (fun x hx => by obtain ⟨i, _, rfl⟩ := List.mem_map.1 hx; exact i64_fv _ hm) i
set_option maxRecDepth 100000 in
set_option maxHeartbeats 2000000 in
theorem spongeBack_walk (w : World) (p : Int) (hp : I64 p) (A : Option Addr) (na ca : Nat) (xs : List Int) (ha : ArgS w A na ca xs) :
    Calls Try.prog 4 #[vi p, .slice A na ca] w fun e w' => SaysW (.bool true) w e w' := by
  have hl := lives3_any w
  have HL := Lib.hid hl
  have HA := Lib.hid ha
  clear hl ha
  go_enter Try.func4, Try.ntmps4
  go_wp2_with fail
  refine (HL.out).mono ?_
  rintro _ w1 ⟨rfl, hb1⟩
  have HB1 := Lib.hid hb1
  clear hb1
  go_wp2_with fail
  refine (plain3_any p w1).mono ?_
  intro e w2 h
  cases h with
  | no h he hw =>
    subst he
    go_wp2
    go_ret
    exact ⟨rfl, HB1.out.trans (hw.mono HB1.out.size)⟩
  | yes n hn h23 hm hpn hw hF =>
    subst hn
    haveI := hpn.ne
    obtain ⟨S, s, b, k, z, oo, rfl, F, G, hs1, hs2⟩ := hF inferInstance
    have HW := Lib.hid (HB1.out.trans (hw.mono HB1.out.size))
    by_cases h8 : na = 8
    · subst h8
      have HFF := Lib.hid F
      have HGG := Lib.hid G
      clear F G hF
      obtain ⟨ad, rfl, had, hca⟩ := sl8 (HA.out.sl.below HW.out) HA.out.len
      have hxI := i64_getD3 HA.out.i64
      -- a := s.Permute(l)
      have HM1 := Lib.hid (permute_any n S b s k z oo ad ca (fun i => xs.getD i 0) hxI w2 HFF.out HGG.out hca)
      have HCA := Lib.hid hca
      clear hca
      go_wp2_with fail
      refine (HM1.out).mono ?_
      rintro _ w3 ⟨v3, rfl, ho3, hb3⟩
      obtain ⟨A3, n3, c3, rfl, hl3, hc3, _, hs3⟩ := ho3.shapeN
      have e3 : n3 = 8 := by rw [← hl3]; simp
      subst e3
      obtain ⟨a3, rfl, h3b, h3c⟩ := sl8 hs3 (by simp)
      have HB3 := Lib.hid hb3
      -- b := s.Unpermute(a)
      have HM2 := Lib.hid (unpermute_any n S b s k z oo a3 c3 _ (i64_map8 hm _) w3 (HFF.out.below hb3 HFF.out.le) (HGG.out.below hb3 hs2) h3b h3c)
      clear hb3 ho3 hs3 h3c hl3 hc3
      go_wp2_with fail
      refine (HM2.out).mono ?_
      rintro _ w4 ⟨v4, rfl, ho4, hb4⟩
      obtain ⟨A4, n4, c4, rfl, hl4, hc4, _, hs4⟩ := ho4.shapeN
      have HB24 := Lib.hid (HB3.out.trans (hb4.mono HB3.out.size))
      have HO4 := Lib.hid ho4
      -- c := s.Unpermute(l)
      have HM3 := Lib.hid (unpermute_any n S b s k z oo ad ca (fun i => xs.getD i 0) hxI w4 (HFF.out.below HB24.out HFF.out.le) (HGG.out.below HB24.out hs2) (Nat.lt_of_lt_of_le had HB24.out.size) (fun i hi => (HB24.out.cell (p := ad.add i) (by unfold Addr.add; split <;> exact had)).trans (HCA.out i hi)))
      have HL4 := Lib.hid hl4
      clear hb4 ho4 hs4 hl4 hc4
      go_wp2_with fail
      refine (HM3.out).mono ?_
      rintro _ w5 ⟨v5, rfl, ho5, hb5⟩
      obtain ⟨A5, n5, c5, rfl, hl5, hc5, _, hs5⟩ := ho5.shapeN
      have e5 : n5 = 8 := by rw [← hl5]; simp
      subst e5
      obtain ⟨a5, rfl, h5b, h5c⟩ := sl8 hs5 (by simp)
      have HB45 := Lib.hid hb5
      have HB25 := Lib.hid (HB24.out.trans (hb5.mono HB24.out.size))
      -- d := s.Permute(c)
      have HM4 := Lib.hid (permute_any n S b s k z oo a5 c5 _ (i64_map8 hm _) w5 (HFF.out.below HB25.out HFF.out.le) (HGG.out.below HB25.out hs2) h5c)
      clear hb5 ho5 hs5 h5c hl5 hc5
      go_wp2_with fail
      refine (HM4.out).mono ?_
      rintro _ w6 ⟨v6, rfl, ho6, hb6⟩
      obtain ⟨A6, n6, c6, rfl, hl6, hc6, _, hs6⟩ := ho6.shapeN
      have HO6 := Lib.hid ho6
      have HL6 := Lib.hid hl6
      have HB46 := Lib.hid (HB45.out.trans (hb6.mono HB45.out.size))
      have HB26 := Lib.hid (HB25.out.trans (hb6.mono HB25.out.size))
      have HWW := Lib.hid (HW.out.trans (HB26.out.mono HW.out.size))
      -- w := attestref1.All(p, l)
      have hall := rall_any n hm (some ad) ca xs HA.out.i64 HA.out.r8 w6 (HA.out.sl.below HWW.out)
      rw [HA.out.len] at hall
      have HM5 := Lib.hid hall
      clear hall hb6 ho6 hs6 hl6 hc6
      go_wp2_with fail
      refine (HM5.out).mono ?_
      rintro _ w7 ⟨v7, rfl, ho7, hb7⟩
      obtain ⟨A7, n7, c7, rfl, hl7, hc7, _, hs7⟩ := ho7.shapeN
      have HL7 := Lib.hid hl7
      have HS7 := Lib.hid hs7
      have HWX := Lib.hid (HWW.out.trans (hb7.mono HWW.out.size))
      have hs4 : SL w7 A4 _ := (Own.shape (HO4.out.below (HB46.out.trans (hb7.mono HB46.out.size)))).elim fun A h => by
        obtain ⟨c, e, _, _, _, h⟩ := h; injection e with e _ _; subst e; exact h
      have hs6 : SL w7 A6 _ := (Own.shape (HO6.out.below hb7)).elim fun A h => by
        obtain ⟨c, e, _, _, _, h⟩ := h; injection e with e _ _; subst e; exact h
      have h3p : 3 ≤ n := by omega
      obtain ⟨mm, hu⟩ := HGG.out.undo
      have q4 : (List.range 8).map (fun i => fv (unpT z oo (fun j => el n (((List.range 8).map fun i => fv (permT (p := n) k (fun j => el n (xs.getD j 0)) 8 i)).getD j 0)) 8 i)) = fvs (els n xs) := all8 HA.out.len fun j hj => un_perm (v := fun j => el n (xs.getD j 0)) hpn h3p HGG.out.root hu (fun i hi => by show el n (((List.range 8).map _).getD i 0) = _; rw [getD_map8 _ hi, el_fv]) 8 (Nat.le_refl _) j hj
      have q6 : (List.range 8).map (fun i => fv (permT (p := n) k (fun j => el n (((List.range 8).map fun i => fv (unpT z oo (fun j => el n (xs.getD j 0)) 8 i)).getD j 0)) 8 i)) = fvs (els n xs) := all8 HA.out.len fun j hj => perm_un (v := fun j => el n (xs.getD j 0)) hpn h3p HGG.out.root hu (fun i hi => by show el n (((List.range 8).map _).getD i 0) = _; rw [getD_map8 _ hi, el_fv]) 8 (Nat.le_refl _) j hj
      rw [q4] at hs4 HL4
      rw [q6] at hs6 HL6
      obtain ⟨L, hL⟩ : ∃ L, L = fvs (els n xs) := ⟨_, rfl⟩
      rw [← hL] at hs4 hs6 HL4 HL6 HL7 HS7
      have hLl : L.length ≤ 9223372036854775807 := by have := HA.out.len; simp [hL, fvs, els]; omega
      have hi1 := ints_any A4 A7 c4 c7 L L hLl hLl w7 hs4 HS7.out
      have hi2 := fun j => ints_any A6 A7 c6 c7 L L hLl hLl (w7.drewN j) (hs6.drewN j) (HS7.out.drewN j)
      rw [eqB_true rfl] at hi1 hi2
      rw [HL4.out] at hi1
      rw [HL6.out] at hi2
      have e46 : n6 = n4 := by rw [← HL6.out, ← HL4.out]
      have e47 : n7 = n4 := by rw [← HL7.out, ← HL4.out]
      subst e46 e47
      have HI1 := Lib.hid hi1
      have HI2 := Lib.hid hi2
      clear hi1 hi2 q4 q6 hs4 hs6 hL hLl hl7 hs7 hc7 ho7 hb7 hu
      go_wp2_with fail
      refine (HI1.out).mono ?_
      rintro _ _ ⟨rfl, j1, rfl⟩
      go_wp2_with fail
      refine (HI2.out j1).mono ?_
      rintro _ _ ⟨rfl, j2, rfl⟩
      go_wp2
      go_ret
      exact ⟨rfl, below_drewN HWX.out _⟩
    · have t1 : ((na : Int) != 8) = true := by rw [bne_iff_ne]; omega
      clear h8 F G hF
      go_wp2
      go_ret
      exact ⟨rfl, HW.out⟩
end Go.Proofs.Ytabhndfdioimcaa
