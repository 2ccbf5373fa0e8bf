/- A bundle of texts: Ro, Qd, Rf, Rp, Rq, Lv2, Md, Coef, LawG3, Spo, Qp, Sp. -/
import Derived.Test.YtflkiddmakeabaaGreatDoorQ07
import Derived.Test.YtflkiddmakeabaaGreatDoorQ00
import Derived.Test.YtflkiddmakeabaaGreatDoorQ01
import Derived.Test.YtflkiddmakeabaaGreatDoorQ04
import Derived.BigQuiet
import Derived.IntWalk
import Derived.Test.YtflkiddmakeabaaGreatDoorQ03
import Derived.RegionTactic
import Derived.ChangeAlike
import Derived.Deep.RegionHeld3
import Derived.Deep.DeepCutAuto
/- Walks: the reference's Order, Generator, Root. -/
set_option linter.unusedVariables false
namespace Go.Proofs.YtflkiddmakeabaaGreatDoor
open Go.RowKit Zp

theorem rpow_fv (p : Nat) [NeZero p] (hp1 : 2 ≤ p) (hp2 : p ≤ 2147483647) (X : Fin p) (k : Nat) (hk : (k : Int) ≤ 9223372036854775807) (w : World) :
    Calls Tryz.prog 125 #[vi p, vi (fv X), vi k] w fun e w' => e = .returned (vi (fv (pw X k))) ∧ w = w' := by
  have h := rpow_nn p hp1 hp2 (fv X) k (i64_fv _ hp2) (by constructor <;> omega) (by omega) w
  rw [el_fv, Int.natAbs_natCast] at h
  exact h
theorem sq_lt {i p : Nat} (h : i * i ≤ p - 1) (hp : p ≤ 2147483647) : i ≤ 46340 := by
  rcases Nat.lt_or_ge 46340 i with hlt | hge
  · have := Nat.mul_le_mul (show 46341 ≤ i from hlt) (show 46341 ≤ i from hlt); omega
  · exact hge
def OrdRel {p : Nat} [NeZero p] (X : Fin p) (b i : Value) : Prop := ∃ (I B : Nat), 1 ≤ I ∧ I ≤ 46341 ∧ b = vi B ∧ i = vi I ∧ BestQ (Tried p I) X B
theorem fv1 {p : Nat} [NeZero p] (hp1 : 2 ≤ p) {x : Fin p} (h : x = 1) : (fv x == 1) = true := by rw [beq_iff_eq, fv_eq_one hp1]; exact h
theorem fv1n {p : Nat} [NeZero p] (hp1 : 2 ≤ p) {x : Fin p} (h : ¬ x = 1) : (fv x == 1) = false := by rw [beq_eq_false_iff_ne]; intro h2; exact h ((fv_eq_one hp1).1 h2)
set_option maxRecDepth 100000 in
set_option maxHeartbeats 4000000 in
theorem rorder_any (p : Nat) [NeZero p] (hp : IsPrime p) (hp1 : 2 ≤ p) (hp2 : p ≤ 2147483647) (m : Int) (hm : I64 m) (w : World) :
    Calls Tryz.prog 152 #[vi p, vi m] w fun e w' => e = .returned (vi ((ordN (el p m) : Nat) : Int)) ∧ w = w' := by
  have hof := rof_any p hp2 m hm
  generalize el p m = X at hof ⊢
  have HOF := Lib.hid hof
  clear hof
  by_cases hx : X = 0
  · have t1 : (fv X == 0) = true := by rw [hx]; rfl
    have ho : ((ordN X : Nat) : Int) = 0 := by rw [hx, ordN_zero hp]; rfl
    have HO := Lib.hid ho
    clear hx ho hp
    go_enter Tryz.func152, Tryz.ntmps152
    go_wp2_with fail
    refine (HOF.out _).mono ?_
    rintro e w' ⟨rfl, rfl⟩
    go_wp2
    go_ret
    exact ⟨ret_int HO.out.symm, rfl⟩
  · have t1 : (fv X == 0) = false := by rw [beq_eq_false_iff_ne]; exact fun h => hx (fv_eq_zero.1 h)
    have HX := Lib.hid hx
    have HP := Lib.hid hp
    clear hx hp
    go_enter Tryz.func152, Tryz.ntmps152
    go_wp2_with fail
    refine (HOF.out _).mono ?_
    rintro e w' ⟨rfl, rfl⟩
    go_wp2
    go_loop [5, 6, 7, 8] (fun b i _ _ => OrdRel X b i) (fun _ i _ _ => 46342 - (intOf i).toNat)
    case atStart => exact ⟨1, p - 1, Nat.le_refl _, by omega, by congr 1; omega, rfl, BestQ.start HP.out HX.out⟩
    case round =>
      obtain ⟨I, B, hI, hI2, rfl, rfl, hB⟩ := hrel
      have HB := Lib.hid hB
      clear hB
      have ec : (I : Int) * I = ((I * I : Nat) : Int) := by rw [Int.natCast_mul]
      by_cases hii : I * I ≤ p - 1
      · have hIl := sq_lt hii hp2
        have q1 : (I : Int) * I ≤ (p : Int) - 1 := by rw [ec]; omega
        have q0 : (0 : Int) ≤ (I : Int) * I := by rw [ec]; omega
        obtain ⟨r, hr⟩ : ∃ r, r = (p - 1) % I := ⟨_, rfl⟩
        obtain ⟨k, hk⟩ : ∃ k, k = (p - 1) / I := ⟨_, rfl⟩
        have ep : (p : Int) - 1 = ((p - 1 : Nat) : Int) := by omega
        have hkp : k ≤ p - 1 := by rw [hk]; exact Nat.div_le_self _ _
        have e1 : ((p : Int) - 1).tmod I = (r : Int) := by rw [ep, Int.tmod_eq_emod_of_nonneg (by omega), hr]; omega
        have e2 : ((p : Int) - 1) % I = (r : Int) := by rw [ep, hr]; omega
        have e3 : ((p : Int) - 1).tdiv I = (k : Int) := by rw [ep, Int.tdiv_eq_ediv_of_nonneg (by omega), hk]; omega
        have e4 : ((p : Int) - 1) / I = (k : Int) := by rw [ep, hk]; omega
        have hdv : r = 0 ↔ I ∣ p - 1 := by rw [hr]; exact (Nat.dvd_iff_mod_eq_zero).symm
        have hkd : I ∣ p - 1 → k ∣ p - 1 := fun h => by rw [hk]; exact Nat.div_dvd_of_dvd h
        have hk1 : I ∣ p - 1 → 1 ≤ k := fun h => by rw [hk]; exact Nat.div_pos (Nat.le_of_dvd (by omega) h) (by omega)
        have HK := Lib.hid hk
        have HKD := Lib.hid hkd
        have HK1 := Lib.hid hk1
        have h0I : ((I : Int) == 0) = false := by rw [beq_eq_false_iff_ne]; omega
        clear ep hr hk hkd hk1 ec hii
        by_cases hr0 : r = 0
        · have hd := hdv.1 hr0
          have t2 : ((r : Int) != 0) = false := by rw [hr0]; rfl
          have hp1' := fun w => rpow_fv p hp1 hp2 X I (by omega) w
          have hp2' := fun w => rpow_fv p hp1 hp2 X k (by omega) w
          obtain ⟨Z, hZ⟩ : ∃ Z, Z = pw X I := ⟨_, rfl⟩
          obtain ⟨Y, hY⟩ : ∃ Y, Y = pw X k := ⟨_, rfl⟩
          rw [← hZ] at hp1'
          rw [← hY] at hp2'
          have HP1 := Lib.hid hp1'
          have HP2 := Lib.hid hp2'
          have HZ := Lib.hid hZ
          have HY := Lib.hid hY
          have HD := Lib.hid hd
          clear hp1' hp2' hZ hY hdv hd hr0
          by_cases hz : Z = 1
          · have a1 : (fv Z == 1) = true := fv1 hp1 hz
            have HZN := Lib.hid hz
            clear hz
            by_cases hi2 : I < B
            · have M1 := Lib.hid (HB.out.hit (i := I) (R := fun j => Tried p I j ∨ j = I) hI HD.out (HZ.out.symm.trans HZN.out) hi2 (fun j _ h => h))
              by_cases hy : Y = 1
              · have a2 : (fv Y == 1) = true := fv1 hp1 hy
                have HYN := Lib.hid hy
                clear hy
                by_cases hk2 : k < I
                · have M2 := Lib.hid (M1.out.hit (i := k) (R := Tried p (I + 1)) (HK1.out HD.out) (HKD.out HD.out) (HY.out.symm.trans HYN.out) hk2 (fun j hj h => by rcases tried_pair hp1 HD.out hj h with h | h; exact .inl h; exact .inr (h.trans HK.out.symm)))
                  clear M1
                  go_wp2_with fail
                  refine (HP1.out _).mono ?_
                  rintro e w' ⟨rfl, rfl⟩
                  go_wp2_with fail
                  refine (HP2.out _).mono ?_
                  rintro e w' ⟨rfl, rfl⟩
                  go_wp2
                  go_round
                  case rel => exact ⟨I + 1, k, by omega, by omega, rfl, by go_num, M2.out⟩
                  case measure => simp [intOf]; omega
                · have M2 := Lib.hid (M1.out.miss (i := k) (R := Tried p (I + 1)) (fun _ => hk2) (fun j hj h => by rcases tried_pair hp1 HD.out hj h with h | h; exact .inl h; exact .inr (h.trans HK.out.symm)))
                  clear M1
                  go_wp2_with fail
                  refine (HP1.out _).mono ?_
                  rintro e w' ⟨rfl, rfl⟩
                  go_wp2_with fail
                  refine (HP2.out _).mono ?_
                  rintro e w' ⟨rfl, rfl⟩
                  go_wp2
                  go_round
                  case rel => exact ⟨I + 1, I, by omega, by omega, rfl, by go_num, M2.out⟩
                  case measure => simp [intOf]; omega
              · have a2 : (fv Y == 1) = false := fv1n hp1 hy
                have HYN := Lib.hid hy
                clear hy
                have M2 := Lib.hid (M1.out.miss (i := k) (R := Tried p (I + 1)) (fun h => absurd (HY.out.trans h) HYN.out) (fun j hj h => by rcases tried_pair hp1 HD.out hj h with h | h; exact .inl h; exact .inr (h.trans HK.out.symm)))
                clear M1
                go_wp2_with fail
                refine (HP1.out _).mono ?_
                rintro e w' ⟨rfl, rfl⟩
                go_wp2_with fail
                refine (HP2.out _).mono ?_
                rintro e w' ⟨rfl, rfl⟩
                go_wp2
                go_round
                case rel => exact ⟨I + 1, I, by omega, by omega, rfl, by go_num, M2.out⟩
                case measure => simp [intOf]; omega
            · have M1 := Lib.hid (HB.out.miss (i := I) (R := fun j => Tried p I j ∨ j = I) (fun _ => hi2) (fun j _ h => h))
              by_cases hy : Y = 1
              · have a2 : (fv Y == 1) = true := fv1 hp1 hy
                have HYN := Lib.hid hy
                clear hy
                by_cases hk2 : k < B
                · have M2 := Lib.hid (M1.out.hit (i := k) (R := Tried p (I + 1)) (HK1.out HD.out) (HKD.out HD.out) (HY.out.symm.trans HYN.out) hk2 (fun j hj h => by rcases tried_pair hp1 HD.out hj h with h | h; exact .inl h; exact .inr (h.trans HK.out.symm)))
                  clear M1
                  go_wp2_with fail
                  refine (HP1.out _).mono ?_
                  rintro e w' ⟨rfl, rfl⟩
                  go_wp2_with fail
                  refine (HP2.out _).mono ?_
                  rintro e w' ⟨rfl, rfl⟩
                  go_wp2
                  go_round
                  case rel => exact ⟨I + 1, k, by omega, by omega, rfl, by go_num, M2.out⟩
                  case measure => simp [intOf]; omega
                · have M2 := Lib.hid (M1.out.miss (i := k) (R := Tried p (I + 1)) (fun _ => hk2) (fun j hj h => by rcases tried_pair hp1 HD.out hj h with h | h; exact .inl h; exact .inr (h.trans HK.out.symm)))
                  clear M1
                  go_wp2_with fail
                  refine (HP1.out _).mono ?_
                  rintro e w' ⟨rfl, rfl⟩
                  go_wp2_with fail
                  refine (HP2.out _).mono ?_
                  rintro e w' ⟨rfl, rfl⟩
                  go_wp2
                  go_round
                  case rel => exact ⟨I + 1, B, by omega, by omega, rfl, by go_num, M2.out⟩
                  case measure => simp [intOf]; omega
              · have a2 : (fv Y == 1) = false := fv1n hp1 hy
                have HYN := Lib.hid hy
                clear hy
                have M2 := Lib.hid (M1.out.miss (i := k) (R := Tried p (I + 1)) (fun h => absurd (HY.out.trans h) HYN.out) (fun j hj h => by rcases tried_pair hp1 HD.out hj h with h | h; exact .inl h; exact .inr (h.trans HK.out.symm)))
                clear M1
                go_wp2_with fail
                refine (HP1.out _).mono ?_
                rintro e w' ⟨rfl, rfl⟩
                go_wp2_with fail
                refine (HP2.out _).mono ?_
                rintro e w' ⟨rfl, rfl⟩
                go_wp2
                go_round
                case rel => exact ⟨I + 1, B, by omega, by omega, rfl, by go_num, M2.out⟩
                case measure => simp [intOf]; omega
          · have a1 : (fv Z == 1) = false := fv1n hp1 hz
            have HZN := Lib.hid hz
            clear hz
            have M1 := Lib.hid (HB.out.miss (i := I) (R := fun j => Tried p I j ∨ j = I) (fun h => absurd (HZ.out.trans h) HZN.out) (fun j _ h => h))
            by_cases hy : Y = 1
            · have a2 : (fv Y == 1) = true := fv1 hp1 hy
              have HYN := Lib.hid hy
              clear hy
              by_cases hk2 : k < B
              · have M2 := Lib.hid (M1.out.hit (i := k) (R := Tried p (I + 1)) (HK1.out HD.out) (HKD.out HD.out) (HY.out.symm.trans HYN.out) hk2 (fun j hj h => by rcases tried_pair hp1 HD.out hj h with h | h; exact .inl h; exact .inr (h.trans HK.out.symm)))
                clear M1
                go_wp2_with fail
                refine (HP1.out _).mono ?_
                rintro e w' ⟨rfl, rfl⟩
                go_wp2_with fail
                refine (HP2.out _).mono ?_
                rintro e w' ⟨rfl, rfl⟩
                go_wp2
                go_round
                case rel => exact ⟨I + 1, k, by omega, by omega, rfl, by go_num, M2.out⟩
                case measure => simp [intOf]; omega
              · have M2 := Lib.hid (M1.out.miss (i := k) (R := Tried p (I + 1)) (fun _ => hk2) (fun j hj h => by rcases tried_pair hp1 HD.out hj h with h | h; exact .inl h; exact .inr (h.trans HK.out.symm)))
                clear M1
                go_wp2_with fail
                refine (HP1.out _).mono ?_
                rintro e w' ⟨rfl, rfl⟩
                go_wp2_with fail
                refine (HP2.out _).mono ?_
                rintro e w' ⟨rfl, rfl⟩
                go_wp2
                go_round
                case rel => exact ⟨I + 1, B, by omega, by omega, rfl, by go_num, M2.out⟩
                case measure => simp [intOf]; omega
            · have a2 : (fv Y == 1) = false := fv1n hp1 hy
              have HYN := Lib.hid hy
              clear hy
              have M2 := Lib.hid (M1.out.miss (i := k) (R := Tried p (I + 1)) (fun h => absurd (HY.out.trans h) HYN.out) (fun j hj h => by rcases tried_pair hp1 HD.out hj h with h | h; exact .inl h; exact .inr (h.trans HK.out.symm)))
              clear M1
              go_wp2_with fail
              refine (HP1.out _).mono ?_
              rintro e w' ⟨rfl, rfl⟩
              go_wp2_with fail
              refine (HP2.out _).mono ?_
              rintro e w' ⟨rfl, rfl⟩
              go_wp2
              go_round
              case rel => exact ⟨I + 1, B, by omega, by omega, rfl, by go_num, M2.out⟩
              case measure => simp [intOf]; omega
        · have t2 : ((r : Int) != 0) = true := by rw [bne_iff_ne]; omega
          have hs := HB.out.skip hp1 (fun h => hr0 (hdv.2 h))
          have HS := Lib.hid hs
          clear hs hdv hr0
          go_wp2
          go_round
          case rel => exact ⟨I + 1, B, by omega, by omega, rfl, by go_num, HS.out⟩
          case measure => simp [intOf]; omega
      · have q1 : (p : Int) - 1 < (I : Int) * I := by rw [ec]; omega
        have hI4 : I * I ≤ 46341 * 46341 := Nat.mul_le_mul hI2 hI2
        have q2 : (I : Int) * I ≤ 2147488281 := by rw [ec]; omega
        have q0 : (0 : Int) ≤ (I : Int) * I := by rw [ec]; omega
        have hb := HB.out.done HP.out HX.out (by omega)
        have HBB := Lib.hid hb
        clear ec hii hb hI4
        go_wp2
        go_ret
        exact ⟨ret_int (by rw [HBB.out]), rfl⟩

set_option maxHeartbeats 1000000 in
theorem rgen_any (p : Nat) [NeZero p] (hp : IsPrime p) (hp1 : 3 ≤ p) (hp2 : p ≤ 2147483647) (w : World) :
    Calls Tryz.prog 124 #[vi p] w fun e w' => e = .returned (vi ((genN p : Nat) : Int)) ∧ w = w' := by
  obtain ⟨G, hG⟩ : ∃ G, G = genN p := ⟨_, rfl⟩
  have hg := genN_is hp
  rw [← hG] at hg ⊢
  obtain ⟨g1, g2, g3⟩ := hg.ord_iff hp
  have HP := Lib.hid hp
  have H2 := Lib.hid g3
  clear hG hg hp g3
  go_enter Tryz.func124, Tryz.ntmps124
  go_wp2
  go_loop [3, 4] (fun i _ => ∃ k : Nat, 1 ≤ k ∧ k ≤ G ∧ i = vi k) (fun i _ => G + 1 - (intOf i).toNat)
  case atStart => exact ⟨1, Nat.le_refl _, g1, rfl⟩
  case round =>
    obtain ⟨k, hk1, hk2, rfl⟩ := hrel
    have ho := fun w => rorder_any p HP.out (by omega) hp2 k (by constructor <;> omega) w
    have hor := H2.out k hk1 hk2
    generalize ordN (el p (k : Int)) = O at ho hor
    have HO := Lib.hid ho
    clear ho
    by_cases hkG : k = G
    · have hO : O = p - 1 := hor.2 hkG
      have t1 : ((O : Int) == (p : Int) - 1) = true := by rw [beq_iff_eq]; omega
      obtain rfl := hkG
      clear hO hor
      go_wp2_with fail
      refine (HO.out _).mono ?_
      rintro e w' ⟨rfl, rfl⟩
      go_wp2
      go_ret
      exact ⟨rfl, rfl⟩
    · have t1 : ((O : Int) == (p : Int) - 1) = false := by
        rw [beq_eq_false_iff_ne]; intro h; exact hkG (hor.1 (by omega))
      clear hor
      go_wp2_with fail
      refine (HO.out _).mono ?_
      rintro e w' ⟨rfl, rfl⟩
      go_wp2
      go_round
      case rel => exact ⟨k + 1, by omega, by omega, by go_num⟩
      case measure => simp [intOf]; omega

set_option maxHeartbeats 400000 in
theorem rroot1_any (p : Nat) [NeZero p] (hp : IsPrime p) (hp1 : 3 ≤ p) (hp2 : p ≤ 2147483647) (n : Int) (hn : I64 n) (w : World) :
    Calls Tryz.prog 72 #[vi p, vi n] w fun e w' => e = .returned (vi (fv (rootI p n))) ∧ w = w' := by
  have hg := genN_lt hp
  obtain ⟨hn1, hn2⟩ := hn
  have hgen := rgen_any p hp hp1 hp2 w
  obtain ⟨g, hgg⟩ : ∃ g, g = genN p := ⟨_, rfl⟩
  rw [← hgg] at hg hgen
  have HG := Lib.hid hgg
  have HGEN := Lib.hid hgen
  clear hgg hgen hp
  by_cases h0 : n < 1
  · have hr := rootI_no (p := p) (n := n) (by omega)
    have HR := Lib.hid hr
    clear hr
    go_enter Tryz.func72, Tryz.ntmps72
    go_wp2
    go_ret
    exact ⟨ret_int (by rw [HR.out, fv_zero]), rfl⟩
  · have hnz : ¬ n = 0 := by omega
    have hp0 : (0 : Int) ≤ (p : Int) - 1 := by omega
    have et : ((p : Int) - 1).tmod n = ((p : Int) - 1) % n := Int.tmod_eq_emod_of_nonneg hp0
    have eq_ : ((p : Int) - 1).tdiv n = ((p : Int) - 1) / n := Int.tdiv_eq_ediv_of_nonneg hp0
    by_cases hd : ((p : Int) - 1) % n = 0
    · have t1 : (((p : Int) - 1) % n != 0) = false := by rw [hd]; rfl
      have hr : rootI p n = pw (el p (g : Int)) (((p : Int) - 1) / n).toNat := by rw [rootI, if_pos ⟨by omega, hd⟩, HG.out]
      have d1 : 0 ≤ ((p : Int) - 1) / n := Int.ediv_nonneg hp0 (by omega)
      have d2 : ((p : Int) - 1) / n ≤ (p : Int) - 1 := Int.ediv_le_self _ hp0
      have hdI : I64 (((p : Int) - 1) / n) := ⟨by omega, by omega⟩
      have hgI : I64 (g : Int) := ⟨by omega, by omega⟩
      have hpw := rpow_nn p (by omega) hp2 g (((p : Int) - 1) / n) hgI hdI d1 w
      rw [show (((p : Int) - 1) / n).natAbs = (((p : Int) - 1) / n).toNat by omega, ← hr] at hpw
      have HPW := Lib.hid hpw
      have d3 : IntKind.i64.wrap (((p : Int) - 1) / n) = ((p : Int) - 1) / n := IntWalk.i64_in _ hdI
      clear hd hr hpw
      go_enter Tryz.func72, Tryz.ntmps72
      go_wp2_with fail
      refine (HGEN.out).mono ?_
      rintro e w' ⟨rfl, rfl⟩
      go_wp2_with fail
      refine (HPW.out).mono ?_
      rintro e w' ⟨rfl, rfl⟩
      go_wp2
      go_ret
      exact ⟨rfl, rfl⟩
    · have t1 : (((p : Int) - 1) % n != 0) = true := by rw [bne_iff_ne]; exact hd
      have hr := rootI_no (p := p) (n := n) (by rintro ⟨_, h⟩; exact hd h)
      have HR := Lib.hid hr
      clear hr hd eq_
      go_enter Tryz.func72, Tryz.ntmps72
      go_wp2
      go_ret
      exact ⟨ret_int (by rw [HR.out, fv_zero]), rfl⟩
end Go.Proofs.YtflkiddmakeabaaGreatDoor

/- Walks of the reference's domains: Fault, New; law2.made. -/
set_option linter.unusedVariables false
namespace Go.Proofs.YtflkiddmakeabaaGreatDoor
open Go.RowKit Zp

/-- the fault of a domain by its number -/
noncomputable def faultI (q : Nat) (size t : Int) : Int := open Classical in if ∃ n : Nat, size = n ∧ SizeOk q n then (if t % (q : Int) = 0 then 3 else 0) else 2
theorem faultI_size {q : Nat} {size t : Int} (h : ¬ ∃ n : Nat, size = n ∧ SizeOk q n) : faultI q size t = 2 := by unfold faultI; rw [if_neg h]
theorem faultI_shift {q n : Nat} {t : Int} (h : SizeOk q n) (h0 : t % (q : Int) = 0) : faultI q n t = 3 := by unfold faultI; rw [if_pos ⟨n, rfl, h⟩, if_pos h0]
theorem faultI_ok {q n : Nat} {t : Int} (h : SizeOk q n) (h0 : ¬ t % (q : Int) = 0) : faultI q n t = 0 := by unfold faultI; rw [if_pos ⟨n, rfl, h⟩, if_neg h0]

def TwoRel (size : Int) (a b : Value) : Prop := ∃ (j N : Nat) (B : Bool), j ≤ 17 ∧ N = 2 ^ j ∧ a = .bool B ∧ b = vi N ∧ (B = true ↔ ∃ i, i < j ∧ size = ((2 ^ i : Nat) : Int))
set_option maxRecDepth 100000 in
set_option maxHeartbeats 2000000 in
theorem rfault_any (q : Nat) [NeZero q] (hq2 : 2 ≤ q) (hqm : q ≤ 2147483647) (size t : Int) (hs : I64 size) (ht : I64 t) (w : World) :
    Calls Tryz.prog 20 #[vi q, vi size, vi t] w fun e w' => e = .returned (vi (faultI q size t)) ∧ w = w' := by
  obtain ⟨F, hF⟩ : ∃ F, F = faultI q size t := ⟨_, rfl⟩
  rw [← hF]
  have HF := Lib.hid hF
  clear hF
  go_enter Tryz.func20, Tryz.ntmps20
  go_wp2
  go_loop [7, 8] (fun a b => TwoRel size a b) (fun _ b => 131073 - (intOf b).toNat)
  case atStart => exact ⟨0, 1, false, by omega, rfl, rfl, rfl, by simp⟩
  case round =>
    obtain ⟨j, N, tw, hj, hN, rfl, rfl, htw⟩ := hrel
    have HTW := Lib.hid htw
    clear htw
    by_cases hj16 : j ≤ 16
    · have hN2 : N ≤ 65536 := by rw [hN]; exact Nat.pow_le_pow_right (n := 2) (by omega) hj16
      have hN1 : 1 ≤ N := by rw [hN]; exact Nat.pow_pos (by omega)
      have hN3 : N * 2 = 2 ^ (j + 1) := by rw [hN, Nat.pow_succ]
      have HN3 := Lib.hid hN3
      have hiff : ∀ B : Bool, (B = true ↔ (tw = true ∨ (N : Int) = size)) → (B = true ↔ ∃ i, i < j + 1 ∧ size = ((2 ^ i : Nat) : Int)) := fun B hB => by
        rw [hB, HTW.out]
        constructor
        · rintro (⟨i, h1, h2⟩ | h1)
          · exact ⟨i, by omega, h2⟩
          · exact ⟨j, by omega, by rw [← hN]; exact h1.symm⟩
        · rintro ⟨i, h1, h2⟩
          by_cases hij : i = j
          · exact .inr (by rw [h2, hij, hN])
          · exact .inl ⟨i, by omega, h2⟩
      have HI := Lib.hid hiff
      clear hiff hN hN3
      cases tw with
      | true =>
        go_wp2
        go_round
        case rel => exact ⟨j + 1, N * 2, true, by omega, HN3.out, rfl, by go_num, HI.out true (by simp)⟩
        case measure => (simp [intOf] <;> omega)
      | false =>
        by_cases he : (N : Int) = size
        · have t1 : ((N : Int) == size) = true := by rw [beq_iff_eq]; exact he
          have HE := Lib.hid he
          clear he
          go_wp2
          go_round
          case rel => exact ⟨j + 1, N * 2, true, by omega, HN3.out, rfl, by go_num, HI.out true (by simp [HE.out])⟩
          case measure => (simp [intOf] <;> omega)
        · have t1 : ((N : Int) == size) = false := by rw [beq_eq_false_iff_ne]; exact he
          have HE := Lib.hid he
          clear he
          go_wp2
          go_round
          case rel => exact ⟨j + 1, N * 2, false, by omega, HN3.out, rfl, by go_num, HI.out false (by simp [HE.out])⟩
          case measure => (simp [intOf] <;> omega)
    · obtain rfl : j = 17 := by omega
      have hN17 : N = 131072 := by rw [hN]
      clear hN
      subst hN17
      cases tw with
      | false =>
        have hf : F = 2 := by
          rw [HF.out]
          refine faultI_size fun ⟨n, h1, ⟨⟨k, hk, h2⟩, _⟩⟩ => ?_
          have := HTW.out.2 ⟨k, by omega, by rw [h1, h2]⟩
          cases this
        have HF2 := Lib.hid hf
        clear hf
        go_wp2
        go_ret
        exact ⟨ret_int HF2.out.symm, rfl⟩
      | true =>
        have hex := HTW.out.1 rfl
        have hpos : ∃ n k : Nat, size = n ∧ n = 2 ^ k ∧ k ≤ 16 := by
          obtain ⟨i, h1, h2⟩ := hex
          exact ⟨_, i, h2, rfl, by omega⟩
        clear hex
        obtain ⟨n, k, rfl, hnk, hk⟩ := hpos
        have hn1 : 1 ≤ n := by rw [hnk]; exact Nat.pow_pos (by omega)
        have hn2 : n ≤ 65536 := by rw [hnk]; exact Nat.pow_le_pow_right (n := 2) (by omega) hk
        obtain ⟨r, hr⟩ : ∃ r, r = (q - 1) % n := ⟨_, rfl⟩
        have ep : (q : Int) - 1 = ((q - 1 : Nat) : Int) := by omega
        have e1 : ((q : Int) - 1).tmod n = (r : Int) := by rw [ep, Int.tmod_eq_emod_of_nonneg (by omega), hr]; omega
        have e2 : ((q : Int) - 1) % n = (r : Int) := by rw [ep, hr]; omega
        clear ep
        by_cases hr0 : r = 0
        · have hok : SizeOk q n := ⟨⟨k, hk, hnk⟩, Nat.dvd_of_mod_eq_zero (by omega)⟩
          have t1 : ((r : Int) != 0) = false := by rw [hr0]; rfl
          have hof := fun W => rof_any q hqm t ht W
          by_cases h0 : el q t = 0
          · have hf : F = 3 := by rw [HF.out]; exact faultI_shift hok (el_eq_zero.1 h0)
            have t2 : (fv (el q t) == 0) = true := by rw [h0]; rfl
            have HF2 := Lib.hid hf
            have HOF := Lib.hid hof
            clear hf hof hok hnk hr hr0 h0
            go_wp2_with fail
            refine (HOF.out _).mono ?_
            rintro e w' ⟨rfl, rfl⟩
            go_wp2
            go_ret
            exact ⟨ret_int HF2.out.symm, rfl⟩
          · have hf : F = 0 := by rw [HF.out]; exact faultI_ok hok (fun h => h0 (el_eq_zero.2 h))
            have t2 : (fv (el q t) == 0) = false := by rw [beq_eq_false_iff_ne]; exact fun h => h0 (fv_eq_zero.1 h)
            have HF2 := Lib.hid hf
            have HOF := Lib.hid hof
            clear hf hof hok hnk hr hr0 h0
            go_wp2_with fail
            refine (HOF.out _).mono ?_
            rintro e w' ⟨rfl, rfl⟩
            go_wp2
            go_ret
            exact ⟨ret_int HF2.out.symm, rfl⟩
        · have hf : F = 2 := by
            rw [HF.out]
            refine faultI_size fun ⟨m, h1, _, h2⟩ => ?_
            obtain rfl : n = m := by omega
            have := Nat.mod_eq_zero_of_dvd h2
            omega
          have t1 : ((r : Int) != 0) = true := by rw [bne_iff_ne]; omega
          have HF2 := Lib.hid hf
          clear hf hnk hr hr0
          go_wp2
          go_ret
          exact ⟨ret_int HF2.out.symm, rfl⟩

/-- a reference's domain -/
abbrev RDom (q n : Nat) (s r : Int) : Value := .agg #[vi q, vi n, vi s, vi r]

def GivesV (v : Value) (w : World) (e : Ending) (w' : World) : Prop := e = .returned v ∧ Below w.heap.size w w'
set_option maxHeartbeats 1000000 in
theorem rnew_any (q : Nat) [NeZero q] (hpr : IsPrime q) (h3 : 3 ≤ q) (hqm : q ≤ 2147483647) (n : Nat) (hn : n ≤ 65536) (t : Int) (ht : I64 t) (w : World) :
    Calls Tryz.prog 22 #[vi q, vi n, vi t] w fun e w' => GivesV (RDom q n (fv (el q t)) (fv (rootI q n))) w e w' := by
  have HR := Lib.hid (fun w => rroot1_any q hpr h3 hqm n (by constructor <;> omega) w)
  have HO := Lib.hid (fun w => rof_any q hqm t ht w)
  generalize fv (rootI q n) = R at HR ⊢
  generalize fv (el q t) = T at HO ⊢
  clear hpr
  go_enter Tryz.func22, Tryz.ntmps22
  go_wp2_with fail
  refine (HR.out _).mono ?_
  rintro e w' ⟨rfl, rfl⟩
  go_wp2_with fail
  refine (HO.out _).mono ?_
  rintro e w' ⟨rfl, rfl⟩
  go_wp2
  exact bodyPost_ret (v := RDom q n T R) (by simp [results, Tryz.results22, go_sem]) rfl ⟨rfl, (Below.refl _ _).alloc (Nat.le_refl _) _⟩
end Go.Proofs.YtflkiddmakeabaaGreatDoor

/- Walks of the reference's Point, Pair, Fold of a word. -/
set_option linter.unusedVariables false
namespace Go.Proofs.YtflkiddmakeabaaGreatDoor
open Go.RowKit Zp

theorem pair_eq {p : Nat} [NeZero p] (a b r x : Fin p) : (a + b) * Zp.inv (el p 2) + (a - b) * Zp.inv (x * el p 2) * r = foldE a b r x := by
  unfold foldE half2
  have e : Zp.inv (x * el p 2) = Zp.inv x * Zp.inv (el p 2) := mul_pw _ _ _
  rw [e]; grind
set_option maxRecDepth 100000 in
set_option maxHeartbeats 1000000 in
theorem rpoint_any (q : Nat) [NeZero q] (hq2 : 2 ≤ q) (hqm : q ≤ 2147483647) (n i : Nat) (hi : i ≤ 65536) (s r : Fin q) (w : World) :
    Calls Tryz.prog 93 #[RDom q n (fv s) (fv r), vi i] w fun e w' => SaysW (vi (fv (s * pw r i))) w e w' := by
  have h1 := fun w => rpow_nn q hq2 hqm (fv r) i (i64_fv _ hqm) ⟨by omega, by omega⟩ (by omega) w
  have h2 := fun w => rmul_any q hqm (fv (pw r i)) (fv s) (i64_fv _ hqm) (i64_fv _ hqm) w
  simp only [el_fv, Int.natAbs_natCast] at h1 h2
  rw [show pw r i * s = s * pw r i by grind] at h2
  generalize fv (s * pw r i) = S at h2 ⊢
  generalize fv (pw r i) = R at h1 h2
  have H1 := Lib.hid h1
  have H2 := Lib.hid h2
  clear h1 h2
  go_enter Tryz.func93, Tryz.ntmps93
  go_wp2_with fail
  refine (H1.out _).mono ?_
  rintro e w' ⟨rfl, rfl⟩
  go_wp2_with fail
  refine (H2.out _).mono ?_
  rintro e w' ⟨rfl, rfl⟩
  go_wp2
  go_ret
  exact ⟨rfl, (Below.refl _ _).alloc (Nat.le_refl _) _⟩
set_option maxRecDepth 100000 in
set_option maxHeartbeats 2000000 in
theorem rpair_any (q : Nat) [NeZero q] (hq2 : 2 ≤ q) (hqm : q ≤ 2147483647) (n i : Nat) (hi : i ≤ 65536) (s r : Fin q) (x y c : Int) (hx : I64 x) (hy : I64 y) (hc : I64 c) (w : World) :
    Calls Tryz.prog 92 #[RDom q n (fv s) (fv r), vi i, vi x, vi y, vi c] w fun e w' => SaysW (vi (fv (foldE (el q x) (el q y) (el q c) (s * pw r i)))) w e w' := by
  have hI2 : I64 2 := by constructor <;> decide
  have h0 := fun w => rpoint_any q hq2 hqm n i hi s r w
  have h1 := fun w => radd_any q hqm x y hx hy w
  have h2 := fun w => rdiv_any q hq2 hqm (fv (el q x + el q y)) 2 (i64_fv _ hqm) hI2 w
  have h3 := fun w => rsub_any q hqm x y hx hy w
  have h4 := fun w => rmul_any q hqm (fv (s * pw r i)) 2 (i64_fv _ hqm) hI2 w
  have h5 := fun w => rdiv_any q hq2 hqm (fv (el q x - el q y)) (fv (s * pw r i * el q 2)) (i64_fv _ hqm) (i64_fv _ hqm) w
  have h6 := fun w => rmul_any q hqm (fv ((el q x - el q y) * Zp.inv (s * pw r i * el q 2))) c (i64_fv _ hqm) hc w
  have h7 := fun w => radd_any q hqm (fv ((el q x + el q y) * Zp.inv (el q 2))) (fv ((el q x - el q y) * Zp.inv (s * pw r i * el q 2) * el q c)) (i64_fv _ hqm) (i64_fv _ hqm) w
  simp only [el_fv] at h2 h4 h5 h6 h7
  rw [pair_eq] at h7
  generalize fv (foldE (el q x) (el q y) (el q c) (s * pw r i)) = Z at h7 ⊢
  generalize fv ((el q x - el q y) * Zp.inv (s * pw r i * el q 2) * el q c) = V6 at h6 h7
  generalize fv ((el q x - el q y) * Zp.inv (s * pw r i * el q 2)) = V5 at h5 h6
  generalize fv (s * pw r i * el q 2) = V4 at h4 h5
  generalize fv (s * pw r i) = V0 at h0 h4
  generalize fv ((el q x + el q y) * Zp.inv (el q 2)) = V2 at h2 h7
  generalize fv (el q x + el q y) = V1 at h1 h2
  generalize fv (el q x - el q y) = V3 at h3 h5
  have H0 := Lib.hid h0
  have H1 := Lib.hid h1
  have H2 := Lib.hid h2
  have H3 := Lib.hid h3
  have H4 := Lib.hid h4
  have H5 := Lib.hid h5
  have H6 := Lib.hid h6
  have H7 := Lib.hid h7
  have hbA : Below w.heap.size w (w.alloc (.cells #[vi q, vi n, vi (fv s), vi (fv r)] 30)) := (Below.refl _ _).alloc (Nat.le_refl _) _
  clear h0 h1 h2 h3 h4 h5 h6 h7
  go_enter Tryz.func92, Tryz.ntmps92
  go_wp2_with fail
  refine (H0.out _).mono ?_
  rintro e w1 ⟨rfl, hb1⟩
  have hbw := hbA.trans (hb1.mono hbA.size)
  have hB1 := (Blk.new w 30 #[vi q, vi n, vi (fv s), vi (fv r)]).below hb1 (by simp)
  have e0 := (hB1.cell 0).trans (show _ = some (vi q) from rfl)
  clear hB1 hbA
  go_wp2_with fail
  refine (H1.out _).mono ?_
  rintro e w' ⟨rfl, rfl⟩
  go_wp2_with fail
  refine (H2.out _).mono ?_
  rintro e w' ⟨rfl, rfl⟩
  go_wp2_with fail
  refine (H3.out _).mono ?_
  rintro e w' ⟨rfl, rfl⟩
  go_wp2_with fail
  refine (H4.out _).mono ?_
  rintro e w' ⟨rfl, rfl⟩
  go_wp2_with fail
  refine (H5.out _).mono ?_
  rintro e w' ⟨rfl, rfl⟩
  go_wp2_with fail
  refine (H6.out _).mono ?_
  rintro e w' ⟨rfl, rfl⟩
  go_wp2_with fail
  refine (H7.out _).mono ?_
  rintro e w' ⟨rfl, rfl⟩
  go_wp2
  go_ret
  exact ⟨rfl, hbw⟩
end Go.Proofs.YtflkiddmakeabaaGreatDoor

/- Walks of the reference's polynomials: Degree, Trim, At, Plus, Scaled, Times, Eval. -/
set_option linter.unusedVariables false
namespace Go.Proofs.YtflkiddmakeabaaGreatDoor
open Go.RowKit Zp

theorem SL.take {w : World} {A : Option Addr} {xs : List Int} (h : SL w A xs) (k : Nat) : SL w A (xs.take k) := by
  refine ⟨by simp, fun hn => ?_⟩
  have hl : (xs.take k).length = min k xs.length := List.length_take
  obtain ⟨ad, e, hb, hc⟩ := h.2 (by omega)
  refine ⟨ad, e, hb, fun j u hu => hc j u ?_⟩
  rw [List.map_take, List.getElem?_take] at hu
  split at hu
  · exact hu
  · cases hu

set_option maxHeartbeats 1000000 in
theorem rdegree_n (p : Nat) [NeZero p] (hp2 : p ≤ 2147483647) (A : Option Addr) (len cap : Nat) (xs : List Int) (hml : xs.length = len) (hxs : ∀ n ∈ xs, I64 n) (hreach : len * 8 ≤ 281474976710656) (w : World) (hs : SL w A xs) :
    Calls Tryz.prog 42 #[vi p, .slice A len cap] w fun e w' => e = .returned (vi (degL (els p xs))) ∧ w = w' := by
  have HL := Lib.hid hml.symm
  clear hml
  go_enter Tryz.func42, Tryz.ntmps42
  go_wp2
  go_loop [5, 6] (fun i _ => DegRel p xs i) (fun i _ => (intOf i + 1).toNat)
  case atStart => exact ⟨len, by rw [HL.out]; exact Nat.le_refl _, rfl, by rw [HL.out]; exact ZeroFrom.start p xs⟩
  case round =>
    obtain ⟨k, hk, rfl, hz⟩ := hrel
    rw [← HL.out] at hk
    have HZ := Lib.hid hz
    clear hz
    by_cases h0 : k = 0
    · subst h0
      have t1 : decide ((0 : Int) ≤ (((0 : Nat) : Int) - 1)) = false := by simp
      go_wp2
      go_ret
      exact ⟨ret_int (HZ.out.done (.inl rfl)).symm, rfl⟩
    · have i0 : (0 : Int) ≤ (k : Int) - 1 := by omega
      have i1 : (1 : Int) ≤ (k : Int) := by omega
      have i2 : ((k : Int) - 1).toNat = k - 1 := by omega
      have hkx : k - 1 < xs.length := by rw [← HL.out]; omega
      obtain ⟨ad, rfl, hab, hcell⟩ := hs.at_ hkx
      have hI := hxs _ (List.getElem_mem hkx)
      have hco : co (els p xs) (k - 1) = el p xs[k - 1] := by rw [co_of_lt (by simpa using hkx)]; simp
      obtain ⟨x, hx⟩ : ∃ x, x = xs[k - 1] := ⟨_, rfl⟩
      rw [← hx] at hI hcell hco
      have hcell' : w.cell? (ad.add ((k : Int) - 1).toNat) = some (vi x) := by rw [i2]; exact hcell
      have HC := Lib.hid hco
      clear hx hco i2
      by_cases hx0 : el p x = 0
      · have t1 : (fv (el p x) != 0) = false := by rw [hx0]; rfl
        have hz2 : ZeroFrom p xs (k - 1) := ZeroFrom.next (by rw [show k - 1 + 1 = k from by omega]; exact HZ.out) (by rw [HC.out]; exact hx0)
        have HZ2 := Lib.hid hz2
        clear hz2 hx0
        go_wp2_with (go_at_call 70; refine (rof_any p hp2 x hI _).mono ?_; rintro e w' ⟨rfl, rfl⟩)
        go_round
        case rel => exact ⟨k - 1, by rw [← HL.out]; omega, by congr 1; omega, HZ2.out⟩
        case measure => simp [intOf]; omega
      · have t1 : (fv (el p x) != 0) = true := by rw [bne_iff_ne]; exact fun h => hx0 (fv_eq_zero.1 h)
        have hd := HZ.out.done (.inr (by rw [HC.out]; exact hx0))
        have HD := Lib.hid hd
        clear hd hx0
        go_wp2_with (go_at_call 70; refine (rof_any p hp2 x hI _).mono ?_; rintro e w' ⟨rfl, rfl⟩)
        go_ret
        exact ⟨ret_int HD.out.symm, rfl⟩

end Go.Proofs.YtflkiddmakeabaaGreatDoor

/- Walks of the reference's polynomials: Plus, Scaled, Minus, Times, Eval. -/
set_option linter.unusedVariables false
namespace Go.Proofs.YtflkiddmakeabaaGreatDoor
open Go.RowKit Zp

def EvalRel {p : Nat} [NeZero p] (l : List (Fin p)) (X : Fin p) (s q i : Value) : Prop := ∃ k : Nat, k ≤ l.length ∧ i = vi k ∧ s = vi (fv (ev (l.take k) X)) ∧ q = vi (fv (pw X k))
set_option maxRecDepth 100000 in
set_option maxHeartbeats 1000000 in
theorem reval_n (p : Nat) [NeZero p] (hp1 : 2 ≤ p) (hp2 : p ≤ 2147483647) (A : Option Addr) (na ca : Nat) (xs : List Int) (hna : xs.length = na) (hxs : ∀ n ∈ xs, I64 n) (hr : na * 8 ≤ 281474976710656) (x : Int) (hx : I64 x) (w : World) (hsx : SL w A xs) :
    Calls Tryz.prog 94 #[vi p, .slice A na ca, vi x] w fun e w' => e = .returned (vi (fv (ev (els p xs) (el p x)))) ∧ w = w' := by
  obtain ⟨l, hl⟩ : ∃ l, l = els p xs := ⟨_, rfl⟩
  rw [← hl]
  have hll : l.length = na := by rw [hl]; simp [hna]
  have hco : ∀ k (hk : k < xs.length) (hk' : k < l.length), l[k] = el p xs[k] := fun k hk hk' => by simp [hl]
  have HLL := Lib.hid hll
  have HCO := Lib.hid hco
  have HNA := Lib.hid hna
  clear hl hll hna hco
  go_enter Tryz.func94, Tryz.ntmps94
  go_wp2
  go_loop [7, 8, 9, 10] (fun s q i _ => EvalRel l (el p x) s q i) (fun _ _ i _ => na - (intOf i).toNat)
  case atStart => exact ⟨0, Nat.zero_le _, rfl, rfl, by rw [pw_zero, fv_one hp1]⟩
  case round =>
    obtain ⟨k, hk, rfl, rfl, rfl⟩ := hrel
    rw [HLL.out] at hk
    by_cases hkn : k < na
    · have hkx : k < xs.length := by rw [HNA.out]; exact hkn
      have hkl : k < l.length := by rw [HLL.out]; exact hkn
      obtain ⟨ad, rfl, hab, hcell⟩ := hsx.at_ hkx
      have hI := hxs _ (List.getElem_mem hkx)
      have hst : ev (l.take (k + 1)) (el p x) = ev (l.take k) (el p x) + el p xs[k] * pw (el p x) k := by
        rw [List.take_succ_eq_append_getElem hkl, ev_snoc, HCO.out k hkx hkl, List.length_take]
        congr 3; omega
      have hpw := pw_succ (el p x) k
      have hmul := fun W => rmul_any p hp2 xs[k] (fv (pw (el p x) k)) hI (i64_fv _ hp2) W
      have hmul2 := fun W => rmul_any p hp2 (fv (pw (el p x) k)) x (i64_fv _ hp2) hx W
      rw [el_fv] at hmul hmul2
      rw [← hpw] at hmul2
      generalize xs[k] = c at hcell hI hst hmul
      generalize el p c * pw (el p x) k = Z at hst hmul
      have h1 := fv_nonneg Z
      have h2 := fv_lt Z
      have h3 := fv_nonneg (ev (l.take k) (el p x))
      have h4 := fv_lt (ev (l.take k) (el p x))
      have hsum := fv_add (ev (l.take k) (el p x)) Z
      rw [← hst] at hsum
      have HMUL := Lib.hid hmul
      have HMUL2 := Lib.hid hmul2
      have HSUM := Lib.hid hsum
      clear hmul hmul2 hsum hst hpw
      go_wp2_with fail
      refine (HMUL.out _).mono ?_
      rintro e w' ⟨rfl, rfl⟩
      go_wp2_with fail
      refine (HMUL2.out _).mono ?_
      rintro e w' ⟨rfl, rfl⟩
      go_wp2
      go_round
      case rel => exact ⟨k + 1, by rw [HLL.out]; omega, by go_num, by rw [HSUM.out], rfl⟩
      case measure => simp [intOf]; omega
    · obtain rfl : k = na := by omega
      have he : l.take k = l := List.take_of_length_le (by rw [HLL.out]; exact Nat.le_refl _)
      have HE := Lib.hid he
      clear he
      go_wp2
      go_ret
      exact ⟨ret_int (by rw [HE.out]), rfl⟩
end Go.Proofs.YtflkiddmakeabaaGreatDoor

/- Walks: attestlaw2's plain and lives. -/
set_option linter.unusedVariables false
namespace Go.Proofs.YtflkiddmakeabaaGreatDoor
open Go.RowKit Zp

/-- is there a domain? -/
def HasDom (p size t : Int) : Prop := HasField p ∧ ∃ n : Nat, size = n ∧ SizeOk p.toNat n ∧ ¬ t % p = 0

/-- the parts of HasDom -/
theorem HasDom.parts {p size t : Int} (h : HasDom p size t) : ∃ q n : Nat, p = q ∧ size = n ∧ 3 ≤ q ∧ q ≤ 2147483647 ∧ IsPrime q ∧ SizeOk q n ∧ ¬ t % (q : Int) = 0 := by
  obtain ⟨⟨h3, hm, hpr⟩, n, rfl, hs, h0⟩ := h
  obtain ⟨q, rfl⟩ := Int.eq_ofNat_of_zero_le (a := p) (by omega)
  rw [Int.toNat_natCast] at hpr hs
  exact ⟨q, n, rfl, rfl, by omega, by omega, hpr, hs, h0⟩

end Go.Proofs.YtflkiddmakeabaaGreatDoor

/- Walk: law2.made. -/
set_option linter.unusedVariables false
namespace Go.Proofs.YtflkiddmakeabaaGreatDoor
open Go.RowKit Zp

theorem blk4 {w w1 : World} {t : TypeId} {a b c d : Value} (hb : Below (w.alloc (.cells #[a, b, c, d] t)).heap.size (w.alloc (.cells #[a, b, c, d] t)) w1) :
    w1.cell? ⟨w.heap.size, 0, none⟩ = some a ∧ w1.cell? ⟨w.heap.size, 1, none⟩ = some b ∧ w1.cell? ⟨w.heap.size, 2, none⟩ = some c ∧ w1.cell? ⟨w.heap.size, 3, none⟩ = some d ∧ ∀ i, w1.frozen? ⟨w.heap.size, i, none⟩ = false := by
  have h := (Blk.new w t #[a, b, c, d]).below hb (by simp)
  exact ⟨(h.cell 0).trans rfl, (h.cell 1).trans rfl, (h.cell 2).trans rfl, (h.cell 3).trans rfl, fun i => h.frozen i⟩
/-- a block of zeros -/
def ZeroBlk (w : World) (B : Nat) : Prop := ∀ a : Addr, a.block = B → ∀ v, w.cell? a = some v → v = vi 0
theorem zeroBlk {w : World} {B : Nat} {t : TypeId} (h : Blk w B t #[vi 0, vi 0, vi 0, vi 0]) : ZeroBlk w B := fun a ha v hv => by
  unfold Blk at h
  subst ha
  unfold World.cell? at hv
  rw [h] at hv
  simp only at hv
  split at hv
  · cases hv
  · have : a.off < 4 := by
      false_or_by_contra
      rename_i hge
      rw [Array.getElem?_eq_none (by simpa using hge)] at hv
      cases hv
    match a.off, hv, this with
    | 0, hv, _ => simpa using hv.symm
    | 1, hv, _ => simpa using hv.symm
    | 2, hv, _ => simpa using hv.symm
    | 3, hv, _ => simpa using hv.symm
theorem Fld.keepZ {w w' : World} {S b p B : Nat} [NeZero p] (h : Fld w S b p) (hz : ZeroBlk w B) (hk : ∀ q : Addr, q.block < S → q.block ≠ B → w'.cell? q = w.cell? q) (hs : w.heap.size ≤ w'.heap.size) : Fld w' S b p := by
  have h3 := h.three
  have hb : b ≠ B := fun e => by
    have := hz ⟨b, 0, none⟩ e _ h.c0
    injection this with _ h1
    omega
  obtain ⟨A, c, fs, a1, a2, a3, a4⟩ := h.c1
  refine ⟨h.prime, h.three, h.max, h.lt, Nat.le_trans h.le hs, (hk _ h.lt hb).trans h.c0, ⟨A, c, fs, (hk _ h.lt hb).trans a1, a2, a3, a4.1, fun hn => ?_⟩, (hk _ h.lt hb).trans h.c2⟩
  obtain ⟨ad, e, hlt, hc⟩ := a4.2 hn
  refine ⟨ad, e, hlt, fun j u hu => ?_⟩
  have hcj := hc j u hu
  have hne : ad.block ≠ B := fun e2 => by
    have h1 := hz (ad.add j) (by rw [block_of_add]; exact e2) _ hcj
    rw [List.getElem?_map, List.getElem?_map] at hu
    cases hq : fs[j]? with
    | none => rw [hq] at hu; cases hu
    | some q =>
      rw [hq] at hu
      have h2 := a3.two q (List.mem_of_getElem? hq)
      simp only [Option.map_some, Option.some.injEq] at hu
      rw [← hu] at h1
      injection h1 with _ h4
      omega
  exact (hk _ (by rw [block_of_add]; exact hlt) (by rw [block_of_add]; exact hne)).trans hcj
theorem Dom.keepZ {w w' : World} {S D b p n B : Nat} [NeZero p] {s : Fin p} (h : Dom w S D b p n s) (hz : ZeroBlk w B) (hk : ∀ q : Addr, q.block < S → q.block ≠ B → w'.cell? q = w.cell? q) (hs : w.heap.size ≤ w'.heap.size) : Dom w' S D b p n s := by
  have hD : D ≠ B := fun e => by have := hz ⟨D, 0, none⟩ e _ h.c0; cases this
  exact ⟨h.fld.keepZ hz hk hs, h.lt, (hk _ h.lt hD).trans h.c0, (hk _ h.lt hD).trans h.c1, (hk _ h.lt hD).trans h.c2, (hk _ h.lt hD).trans h.c3, h.s0, h.size⟩

theorem Dom.upS {w : World} {S S' D b p n : Nat} [NeZero p] {s : Fin p} (h : Dom w S D b p n s) (h1 : S ≤ S') (h2 : S' ≤ w.heap.size) : Dom w S' D b p n s :=
  ⟨h.fld.moreS h1 h2, Nat.lt_of_lt_of_le h.lt h1, h.c0, h.c1, h.c2, h.c3, h.s0, h.size⟩
theorem errNil (w : World) (hg : Typed w) : Calls Tryz.prog 16 #[.nilIface, vi 0] w fun x w' => SaysW (.bool true) w x w' := error_any 0 0 w hg
theorem errIs (k : Int) (h : k ≠ 0) (w : World) (hg : Typed w) : Calls Tryz.prog 16 #[.iface 98 (.int .i64 k), vi k] w fun x w' => SaysW (.bool true) w x w' := by
  have h1 := error_any k k w hg
  rw [errV_ne h, show (k == k) = true from by simp] at h1
  exact h1

/-- there is no domain of this field: both sides say why -/
theorem dnew_fault (q S b : Nat) [NeZero q] (size t : Int) (ht : I64 t) (w : World) (F : Fld w S b q) (h : ¬ ∃ n : Nat, size = n ∧ SizeOk q n ∧ ¬ t % (q : Int) = 0) :
    ∃ k : Int, k ≠ 0 ∧ faultI q size t = k ∧ Calls Tryz.prog 19 #[.pointer (some ⟨b, 0, none⟩), vi size, vi t] w fun e w' => e = NoDom k ∧ w = w' := by
  have hc := F.c0
  by_cases h1 : size < 1 ∨ 65536 < size
  · exact ⟨2, by decide, faultI_size (fun ⟨n, e, hn⟩ => by have := hn.pos; have := hn.le; omega), dnew_size1 b size t h1 w⟩
  · obtain ⟨n, rfl⟩ := Int.eq_ofNat_of_zero_le (a := size) (by omega)
    by_cases h2 : SizeOk q n
    · have h3 : t % (q : Int) = 0 := by
        false_or_by_contra
        rename_i h3
        exact h ⟨n, rfl, h2, h3⟩
      exact ⟨3, by decide, faultI_shift h2 h3, dnew_shift q b n t ht F.two F.max h2 (el_eq_zero.2 h3) w hc⟩
    · have h4 : faultI q n t = 2 := faultI_size (by
        rintro ⟨m, e, hm⟩
        have e2 : n = m := by omega
        exact h2 (e2 ▸ hm))
      exact ⟨2, by decide, h4, dnew_size2 q b n t (by omega) (by omega) F.two F.max h2 w hc⟩
end Go.Proofs.YtflkiddmakeabaaGreatDoor

/- Walks: powers, Coefficients, code.Is. -/
set_option linter.unusedVariables false
namespace Go.Proofs.YtflkiddmakeabaaGreatDoor
open Go.RowKit Zp

def lenOf : Value → Nat
  | .slice _ n _ => n
  | _ => 0

end Go.Proofs.YtflkiddmakeabaaGreatDoor

/- The walk of the law DomainBack. -/
set_option linter.unusedVariables false
namespace Go.Proofs.YtflkiddmakeabaaGreatDoor
open Go.RowKit Zp

/-- is there a domain? -/
def HasDom2 (p size t : Int) : Prop := HasField p ∧ ∃ n : Nat, size = n ∧ SizeOk p.toNat n ∧ ¬ t % p = 0
theorem ints_sameH (A B : Option Addr) (n c m d : Nat) (xs ys : List Int) (hnx : xs.length = n) (hmy : ys.length = m) (he : xs = ys) (hn : n ≤ 9223372036854775807) (w : World) (hsx : SL w A xs) (hsy : SL w B ys) :
    Calls Tryz.prog 10 #[.slice A n c, .slice B m d] w fun e w' => e = .returned (.bool true) ∧ ∃ k, w' = w.drewN k := by
  subst hnx hmy
  have h := ints_any A B c d xs ys hn (by rw [← he]; exact hn) w hsx hsy
  rw [eqB_true he] at h
  exact h

end Go.Proofs.YtflkiddmakeabaaGreatDoor

/- Walk: same.Spoil. -/
set_option linter.unusedVariables false
namespace Go.Proofs.YtflkiddmakeabaaGreatDoor
open Go.RowKit Zp

end Go.Proofs.YtflkiddmakeabaaGreatDoor

/- Walks of the reference's Points and Values. -/
set_option linter.unusedVariables false
namespace Go.Proofs.YtflkiddmakeabaaGreatDoor
open Go.RowKit Zp

/-- a reference's domain lies at a block -/
structure RD (w : World) (B q n : Nat) (s r : Int) : Prop where
  c0 : w.cell? ⟨B, 0, none⟩ = some (vi q)
  c1 : w.cell? ⟨B, 1, none⟩ = some (vi n)
  c2 : w.cell? ⟨B, 2, none⟩ = some (vi s)
  c3 : w.cell? ⟨B, 3, none⟩ = some (vi r)
theorem RD.new (w : World) (t : TypeId) (q n : Nat) (s r : Int) : RD (w.alloc (.cells #[vi q, vi n, vi s, vi r] t)) w.heap.size q n s r := by
  have h := Blk.new w t #[vi q, vi n, vi s, vi r]
  exact ⟨(h.cell 0).trans rfl, (h.cell 1).trans rfl, (h.cell 2).trans rfl, (h.cell 3).trans rfl⟩
theorem RD.below {w w' : World} {B q n : Nat} {s r : Int} (h : RD w B q n s r) {X : Nat} (hb : Below X w w') (hB : B < X) : RD w' B q n s r :=
  ⟨(hb.cell (p := ⟨B, 0, none⟩) hB).trans h.c0, (hb.cell (p := ⟨B, 1, none⟩) hB).trans h.c1, (hb.cell (p := ⟨B, 2, none⟩) hB).trans h.c2, (hb.cell (p := ⟨B, 3, none⟩) hB).trans h.c3⟩
end Go.Proofs.YtflkiddmakeabaaGreatDoor

/- Walks: same.Spoil; Domain.Points; the reference's Half. -/
set_option linter.unusedVariables false
namespace Go.Proofs.YtflkiddmakeabaaGreatDoor
open Go.RowKit Zp



set_option maxHeartbeats 1000000 in
theorem rhalf_any (q : Nat) [NeZero q] (hqm : q ≤ 2147483647) (n h : Nat) (hn : n = 2 * h) (hn2 : n ≤ 65536) (s r : Fin q) (w : World) :
    Calls Tryz.prog 63 #[RDom q n (fv s) (fv r)] w fun e w' => GivesV (RDom q h (fv (s * s)) (fv (r * r))) w e w' := by
  have h1 := fun w => rmul_any q hqm (fv s) (fv s) (i64_fv _ hqm) (i64_fv _ hqm) w
  have h2 := fun w => rmul_any q hqm (fv r) (fv r) (i64_fv _ hqm) (i64_fv _ hqm) w
  simp only [el_fv] at h1 h2
  have t2 : (n : Int).tdiv 2 = (h : Int) := by rw [Int.tdiv_eq_ediv_of_nonneg (by omega)]; omega
  have t3 : (n : Int) / 2 = (h : Int) := by omega
  generalize fv (s * s) = S at h1 ⊢
  generalize fv (r * r) = R at h2 ⊢
  have H1 := Lib.hid h1
  have H2 := Lib.hid h2
  clear h1 h2 hn
  go_enter Tryz.func63, Tryz.ntmps63
  go_wp2_with fail
  refine (H1.out _).mono ?_
  rintro e w' ⟨rfl, rfl⟩
  go_wp2_with fail
  refine (H2.out _).mono ?_
  rintro e w' ⟨rfl, rfl⟩
  go_wp2
  exact bodyPost_ret (v := RDom q h S R) (by simp [results, Tryz.results63, go_sem]) rfl ⟨rfl, ((Below.refl _ _).alloc (Nat.le_refl _) _).alloc (by simp) _⟩
end Go.Proofs.YtflkiddmakeabaaGreatDoor
