/- A bundle of texts: Ro, Qd, Rf, Rp, Rq, Lv2, Md, Coef, LawG3, Spo, Qp, Sp. -/
import Derived.Test.YtflkiddmakeabaaGreatDoorR07
import Derived.Test.YtflkiddmakeabaaGreatDoorR00
import Derived.Test.YtflkiddmakeabaaGreatDoorR01
import Derived.Test.YtflkiddmakeabaaGreatDoorR04
import Derived.BigQuiet
import Derived.IntWalk
import Derived.Test.YtflkiddmakeabaaGreatDoorR03
import Derived.RegionTactic
import Derived.ChangeAlike
import Derived.Deep.RegionHeld3
import Derived.Deep.DeepCutAuto
/- Walks: the reference's Order, Generator, Root. -/
set_option linter.unusedVariables false
namespace Go.Proofs.YtflkiddmakeabaaGreatDoor
open Go.RowKit Zp

theorem rpow_fv (p : Nat) [NeZero p] (hp1 : 2 ≤ p) (hp2 : p ≤ 2147483647) (X : Fin p) (k : Nat) (hk : (k : Int) ≤ 9223372036854775807) (w : World) :
    Calls Tryz.prog 125 #[vi p, vi (fv X), vi k] w fun e w' => e = .returned (vi (fv (pw X k))) ∧ w = w' := by
  have h := rpow_nn p hp1 hp2 (fv X) k (i64_fv _ hp2) (by constructor <;> omega) (by omega) w
  rw [el_fv, Int.natAbs_natCast] at h
  exact h
theorem sq_lt {i p : Nat} (h : i * i ≤ p - 1) (hp : p ≤ 2147483647) : i ≤ 46340 := by
  rcases Nat.lt_or_ge 46340 i with hlt | hge
  · have := Nat.mul_le_mul (show 46341 ≤ i from hlt) (show 46341 ≤ i from hlt); omega
  · exact hge
def OrdRel {p : Nat} [NeZero p] (X : Fin p) (b i : Value) : Prop := ∃ (I B : Nat), 1 ≤ I ∧ I ≤ 46341 ∧ b = vi B ∧ i = vi I ∧ BestQ (Tried p I) X B
theorem fv1 {p : Nat} [NeZero p] (hp1 : 2 ≤ p) {x : Fin p} (h : x = 1) : (fv x == 1) = true := by rw [beq_iff_eq, fv_eq_one hp1]; exact h
theorem fv1n {p : Nat} [NeZero p] (hp1 : 2 ≤ p) {x : Fin p} (h : ¬ x = 1) : (fv x == 1) = false := by rw [beq_eq_false_iff_ne]; intro h2; exact h ((fv_eq_one hp1).1 h2)
set_option maxRecDepth 100000 in
set_option maxHeartbeats 4000000 in
theorem rorder_any (p : Nat) [NeZero p] (hp : IsPrime p) (hp1 : 2 ≤ p) (hp2 : p ≤ 2147483647) (m : Int) (hm : I64 m) (w : World) :
    Calls Tryz.prog 152 #[vi p, vi m] w fun e w' => e = .returned (vi ((ordN (el p m) : Nat) : Int)) ∧ w = w' := by
  have hof := rof_any p hp2 m hm
  generalize el p m = X at hof ⊢
  have HOF := Lib.hid hof
  clear hof
  by_cases hx : X = 0
  · have t1 : (fv X == 0) = true := by rw [hx]; rfl
    have ho : ((ordN X : Nat) : Int) = 0 := by rw [hx, ordN_zero hp]; rfl
    have HO := Lib.hid ho
    clear hx ho hp
    go_enter Tryz.func152, Tryz.ntmps152
    go_wp2_with fail
    refine (HOF.out _).mono ?_
    rintro e w' ⟨rfl, rfl⟩
    go_wp2
    go_ret
    exact ⟨ret_int HO.out.symm, rfl⟩
  · have t1 : (fv X == 0) = false := by rw [beq_eq_false_iff_ne]; exact fun h => hx (fv_eq_zero.1 h)
    have HX := Lib.hid hx
    have HP := Lib.hid hp
    clear hx hp
    go_enter Tryz.func152, Tryz.ntmps152
    go_wp2_with fail
    refine (HOF.out _).mono ?_
    rintro e w' ⟨rfl, rfl⟩
    go_wp2
    go_loop [5, 6, 7, 8] (fun b i _ _ => OrdRel X b i) (fun _ i _ _ => 46342 - (intOf i).toNat)
    case atStart => exact ⟨1, p - 1, Nat.le_refl _, by omega, by congr 1; omega, rfl, BestQ.start HP.out HX.out⟩
    case round =>
      obtain ⟨I, B, hI, hI2, rfl, rfl, hB⟩ := hrel
      have HB := Lib.hid hB
      clear hB
      have ec : (I : Int) * I = ((I * I : Nat) : Int) := by rw [Int.natCast_mul]
      by_cases hii : I * I ≤ p - 1
      · have hIl := sq_lt hii hp2
        have q1 : (I : Int) * I ≤ (p : Int) - 1 := by rw [ec]; omega
        have q0 : (0 : Int) ≤ (I : Int) * I := by rw [ec]; omega
        obtain ⟨r, hr⟩ : ∃ r, r = (p - 1) % I := ⟨_, rfl⟩
        obtain ⟨k, hk⟩ : ∃ k, k = (p - 1) / I := ⟨_, rfl⟩
        have ep : (p : Int) - 1 = ((p - 1 : Nat) : Int) := by omega
        have hkp : k ≤ p - 1 := by rw [hk]; exact Nat.div_le_self _ _
        have e1 : ((p : Int) - 1).tmod I = (r : Int) := by rw [ep, Int.tmod_eq_emod_of_nonneg (by omega), hr]; omega
        have e2 : ((p : Int) - 1) % I = (r : Int) := by rw [ep, hr]; omega
        have e3 : ((p : Int) - 1).tdiv I = (k : Int) := by rw [ep, Int.tdiv_eq_ediv_of_nonneg (by omega), hk]; omega
        have e4 : ((p : Int) - 1) / I = (k : Int) := by rw [ep, hk]; omega
        have hdv : r = 0 ↔ I ∣ p - 1 := by rw [hr]; exact (Nat.dvd_iff_mod_eq_zero).symm
        have hkd : I ∣ p - 1 → k ∣ p - 1 := fun h => by rw [hk]; exact Nat.div_dvd_of_dvd h
        have hk1 : I ∣ p - 1 → 1 ≤ k := fun h => by rw [hk]; exact Nat.div_pos (Nat.le_of_dvd (by omega) h) (by omega)
        have HK := Lib.hid hk
        have HKD := Lib.hid hkd
        have HK1 := Lib.hid hk1
        have h0I : ((I : Int) == 0) = false := by rw [beq_eq_false_iff_ne]; omega
        clear ep hr hk hkd hk1 ec hii
        by_cases hr0 : r = 0
        · have hd := hdv.1 hr0
          have t2 : ((r : Int) != 0) = false := by rw [hr0]; rfl
          have hp1' := fun w => rpow_fv p hp1 hp2 X I (by omega) w
          have hp2' := fun w => rpow_fv p hp1 hp2 X k (by omega) w
          obtain ⟨Z, hZ⟩ : ∃ Z, Z = pw X I := ⟨_, rfl⟩
          obtain ⟨Y, hY⟩ : ∃ Y, Y = pw X k := ⟨_, rfl⟩
          rw [← hZ] at hp1'
          rw [← hY] at hp2'
          have HP1 := Lib.hid hp1'
          have HP2 := Lib.hid hp2'
          have HZ := Lib.hid hZ
          have HY := Lib.hid hY
          have HD := Lib.hid hd
          clear hp1' hp2' hZ hY hdv hd hr0
          by_cases hz : Z = 1
          · have a1 : (fv Z == 1) = true := fv1 hp1 hz
            have HZN := Lib.hid hz
            clear hz
            by_cases hi2 : I < B
            · have M1 := Lib.hid (HB.out.hit (i := I) (R := fun j => Tried p I j ∨ j = I) hI HD.out (HZ.out.symm.trans HZN.out) hi2 (fun j _ h => h))
              by_cases hy : Y = 1
              · have a2 : (fv Y == 1) = true := fv1 hp1 hy
                have HYN := Lib.hid hy
                clear hy
                by_cases hk2 : k < I
                · have M2 := Lib.hid (M1.out.hit (i := k) (R := Tried p (I + 1)) (HK1.out HD.out) (HKD.out HD.out) (HY.out.symm.trans HYN.out) hk2 (fun j hj h => by rcases tried_pair hp1 HD.out hj h with h | h; exact .inl h; exact .inr (h.trans HK.out.symm)))
                  clear M1
                  go_wp2_with fail
                  refine (HP1.out _).mono ?_
                  rintro e w' ⟨rfl, rfl⟩
                  go_wp2_with fail
                  refine (HP2.out _).mono ?_
                  rintro e w' ⟨rfl, rfl⟩
                  go_wp2
                  go_round
                  case rel => exact ⟨I + 1, k, by omega, by omega, rfl, by go_num, M2.out⟩
                  case measure => simp [intOf]; omega
                · have M2 := Lib.hid (M1.out.miss (i := k) (R := Tried p (I + 1)) (fun _ => hk2) (fun j hj h => by rcases tried_pair hp1 HD.out hj h with h | h; exact .inl h; exact .inr (h.trans HK.out.symm)))
                  clear M1
                  go_wp2_with fail
                  refine (HP1.out _).mono ?_
                  rintro e w' ⟨rfl, rfl⟩
                  go_wp2_with fail
                  refine (HP2.out _).mono ?_
                  rintro e w' ⟨rfl, rfl⟩
                  go_wp2
                  go_round
                  case rel => exact ⟨I + 1, I, by omega, by omega, rfl, by go_num, M2.out⟩
                  case measure => simp [intOf]; omega
              · have a2 : (fv Y == 1) = false := fv1n hp1 hy
                have HYN := Lib.hid hy
                clear hy
                have M2 := Lib.hid (M1.out.miss (i := k) (R := Tried p (I + 1)) (fun h => absurd (HY.out.trans h) HYN.out) (fun j hj h => by rcases tried_pair hp1 HD.out hj h with h | h; exact .inl h; exact .inr (h.trans HK.out.symm)))
                clear M1
                go_wp2_with fail
                refine (HP1.out _).mono ?_
                rintro e w' ⟨rfl, rfl⟩
                go_wp2_with fail
                refine (HP2.out _).mono ?_
                rintro e w' ⟨rfl, rfl⟩
                go_wp2
                go_round
                case rel => exact ⟨I + 1, I, by omega, by omega, rfl, by go_num, M2.out⟩
                case measure => simp [intOf]; omega
            · have M1 := Lib.hid (HB.out.miss (i := I) (R := fun j => Tried p I j ∨ j = I) (fun _ => hi2) (fun j _ h => h))
              by_cases hy : Y = 1
              · have a2 : (fv Y == 1) = true := fv1 hp1 hy
                have HYN := Lib.hid hy
                clear hy
                by_cases hk2 : k < B
                · have M2 := Lib.hid (M1.out.hit (i := k) (R := Tried p (I + 1)) (HK1.out HD.out) (HKD.out HD.out) (HY.out.symm.trans HYN.out) hk2 (fun j hj h => by rcases tried_pair hp1 HD.out hj h with h | h; exact .inl h; exact .inr (h.trans HK.out.symm)))
                  clear M1
                  go_wp2_with fail
                  refine (HP1.out _).mono ?_
                  rintro e w' ⟨rfl, rfl⟩
                  go_wp2_with fail
                  refine (HP2.out _).mono ?_
                  rintro e w' ⟨rfl, rfl⟩
                  go_wp2
                  go_round
                  case rel => exact ⟨I + 1, k, by omega, by omega, rfl, by go_num, M2.out⟩
                  case measure => simp [intOf]; omega
                · have M2 := Lib.hid (M1.out.miss (i := k) (R := Tried p (I + 1)) (fun _ => hk2) (fun j hj h => by rcases tried_pair hp1 HD.out hj h with h | h; exact .inl h; exact .inr (h.trans HK.out.symm)))
                  clear M1
                  go_wp2_with fail
                  refine (HP1.out _).mono ?_
                  rintro e w' ⟨rfl, rfl⟩
                  go_wp2_with fail
                  refine (HP2.out _).mono ?_
                  rintro e w' ⟨rfl, rfl⟩
                  go_wp2
                  go_round
                  case rel => exact ⟨I + 1, B, by omega, by omega, rfl, by go_num, M2.out⟩
                  case measure => simp [intOf]; omega
              · have a2 : (fv Y == 1) = false := fv1n hp1 hy
                have HYN := Lib.hid hy
                clear hy
                have M2 := Lib.hid (M1.out.miss (i := k) (R := Tried p (I + 1)) (fun h => absurd (HY.out.trans h) HYN.out) (fun j hj h => by rcases tried_pair hp1 HD.out hj h with h | h; exact .inl h; exact .inr (h.trans HK.out.symm)))
                clear M1
                go_wp2_with fail
                refine (HP1.out _).mono ?_
                rintro e w' ⟨rfl, rfl⟩
                go_wp2_with fail
                refine (HP2.out _).mono ?_
                rintro e w' ⟨rfl, rfl⟩
                go_wp2
                go_round
                case rel => exact ⟨I + 1, B, by omega, by omega, rfl, by go_num, M2.out⟩
                case measure => simp [intOf]; omega
          · have a1 : (fv Z == 1) = false := fv1n hp1 hz
            have HZN := Lib.hid hz
            clear hz
            have M1 := Lib.hid (HB.out.miss (i := I) (R := fun j => Tried p I j ∨ j = I) (fun h => absurd (HZ.out.trans h) HZN.out) (fun j _ h => h))
            by_cases hy : Y = 1
            · have a2 : (fv Y == 1) = true := fv1 hp1 hy
              have HYN := Lib.hid hy
              clear hy
              by_cases hk2 : k < B
              · have M2 := Lib.hid (M1.out.hit (i := k) (R := Tried p (I + 1)) (HK1.out HD.out) (HKD.out HD.out) (HY.out.symm.trans HYN.out) hk2 (fun j hj h => by rcases tried_pair hp1 HD.out hj h with h | h; exact .inl h; exact .inr (h.trans HK.out.symm)))
                clear M1
                go_wp2_with fail
                refine (HP1.out _).mono ?_
                rintro e w' ⟨rfl, rfl⟩
                go_wp2_with fail
                refine (HP2.out _).mono ?_
                rintro e w' ⟨rfl, rfl⟩
                go_wp2
                go_round
                case rel => exact ⟨I + 1, k, by omega, by omega, rfl, by go_num, M2.out⟩
                case measure => simp [intOf]; omega
              · have M2 := Lib.hid (M1.out.miss (i := k) (R := Tried p (I + 1)) (fun _ => hk2) (fun j hj h => by rcases tried_pair hp1 HD.out hj h with h | h; exact .inl h; exact .inr (h.trans HK.out.symm)))
                clear M1
                go_wp2_with fail
                refine (HP1.out _).mono ?_
                rintro e w' ⟨rfl, rfl⟩
                go_wp2_with fail
                refine (HP2.out _).mono ?_
                rintro e w' ⟨rfl, rfl⟩
                go_wp2
                go_round
                case rel => exact ⟨I + 1, B, by omega, by omega, rfl, by go_num, M2.out⟩
                case measure => simp [intOf]; omega
            · have a2 : (fv Y == 1) = false := fv1n hp1 hy
              have HYN := Lib.hid hy
              clear hy
              have M2 := Lib.hid (M1.out.miss (i := k) (R := Tried p (I + 1)) (fun h => absurd (HY.out.trans h) HYN.out) (fun j hj h => by rcases tried_pair hp1 HD.out hj h with h | h; exact .inl h; exact .inr (h.trans HK.out.symm)))
              clear M1
              go_wp2_with fail
              refine (HP1.out _).mono ?_
              rintro e w' ⟨rfl, rfl⟩
              go_wp2_with fail
              refine (HP2.out _).mono ?_
              rintro e w' ⟨rfl, rfl⟩
              go_wp2
              go_round
              case rel => exact ⟨I + 1, B, by omega, by omega, rfl, by go_num, M2.out⟩
              case measure => simp [intOf]; omega
        · have t2 : ((r : Int) != 0) = true := by rw [bne_iff_ne]; omega
          have hs := HB.out.skip hp1 (fun h => hr0 (hdv.2 h))
          have HS := Lib.hid hs
          clear hs hdv hr0
          go_wp2
          go_round
          case rel => exact ⟨I + 1, B, by omega, by omega, rfl, by go_num, HS.out⟩
          case measure => simp [intOf]; omega
      · have q1 : (p : Int) - 1 < (I : Int) * I := by rw [ec]; omega
        have hI4 : I * I ≤ 46341 * 46341 := Nat.mul_le_mul hI2 hI2
        have q2 : (I : Int) * I ≤ 2147488281 := by rw [ec]; omega
        have q0 : (0 : Int) ≤ (I : Int) * I := by rw [ec]; omega
        have hb := HB.out.done HP.out HX.out (by omega)
        have HBB := Lib.hid hb
        clear ec hii hb hI4
        go_wp2
        go_ret
        exact ⟨ret_int (by rw [HBB.out]), rfl⟩

set_option maxHeartbeats 1000000 in
theorem rgen_any (p : Nat) [NeZero p] (hp : IsPrime p) (hp1 : 3 ≤ p) (hp2 : p ≤ 2147483647) (w : World) :
    Calls Tryz.prog 124 #[vi p] w fun e w' => e = .returned (vi ((genN p : Nat) : Int)) ∧ w = w' := by
  obtain ⟨G, hG⟩ : ∃ G, G = genN p := ⟨_, rfl⟩
  have hg := genN_is hp
  rw [← hG] at hg ⊢
  obtain ⟨g1, g2, g3⟩ := hg.ord_iff hp
  have HP := Lib.hid hp
  have H2 := Lib.hid g3
  clear hG hg hp g3
  go_enter Tryz.func124, Tryz.ntmps124
  go_wp2
  go_loop [3, 4] (fun i _ => ∃ k : Nat, 1 ≤ k ∧ k ≤ G ∧ i = vi k) (fun i _ => G + 1 - (intOf i).toNat)
  case atStart => exact ⟨1, Nat.le_refl _, g1, rfl⟩
  case round =>
    obtain ⟨k, hk1, hk2, rfl⟩ := hrel
    have ho := fun w => rorder_any p HP.out (by omega) hp2 k (by constructor <;> omega) w
    have hor := H2.out k hk1 hk2
    generalize ordN (el p (k : Int)) = O at ho hor
    have HO := Lib.hid ho
    clear ho
    by_cases hkG : k = G
    · have hO : O = p - 1 := hor.2 hkG
      have t1 : ((O : Int) == (p : Int) - 1) = true := by rw [beq_iff_eq]; omega
      obtain rfl := hkG
      clear hO hor
      go_wp2_with fail
      refine (HO.out _).mono ?_
      rintro e w' ⟨rfl, rfl⟩
      go_wp2
      go_ret
      exact ⟨rfl, rfl⟩
    · have t1 : ((O : Int) == (p : Int) - 1) = false := by
        rw [beq_eq_false_iff_ne]; intro h; exact hkG (hor.1 (by omega))
      clear hor
      go_wp2_with fail
      refine (HO.out _).mono ?_
      rintro e w' ⟨rfl, rfl⟩
      go_wp2
      go_round
      case rel => exact ⟨k + 1, by omega, by omega, by go_num⟩
      case measure => simp [intOf]; omega

set_option maxHeartbeats 400000 in
theorem rroot1_any (p : Nat) [NeZero p] (hp : IsPrime p) (hp1 : 3 ≤ p) (hp2 : p ≤ 2147483647) (n : Int) (hn : I64 n) (w : World) :
    Calls Tryz.prog 72 #[vi p, vi n] w fun e w' => e = .returned (vi (fv (rootI p n))) ∧ w = w' := by
  have hg := genN_lt hp
  obtain ⟨hn1, hn2⟩ := hn
  have hgen := rgen_any p hp hp1 hp2 w
  obtain ⟨g, hgg⟩ : ∃ g, g = genN p := ⟨_, rfl⟩
  rw [← hgg] at hg hgen
  have HG := Lib.hid hgg
  have HGEN := Lib.hid hgen
  clear hgg hgen hp
  by_cases h0 : n < 1
  · have hr := rootI_no (p := p) (n := n) (by omega)
    have HR := Lib.hid hr
    clear hr
    go_enter Tryz.func72, Tryz.ntmps72
    go_wp2
    go_ret
    exact ⟨ret_int (by rw [HR.out, fv_zero]), rfl⟩
  · have hnz : ¬ n = 0 := by omega
    have hp0 : (0 : Int) ≤ (p : Int) - 1 := by omega
    have et : ((p : Int) - 1).tmod n = ((p : Int) - 1) % n := Int.tmod_eq_emod_of_nonneg hp0
    have eq_ : ((p : Int) - 1).tdiv n = ((p : Int) - 1) / n := Int.tdiv_eq_ediv_of_nonneg hp0
    by_cases hd : ((p : Int) - 1) % n = 0
    · have t1 : (((p : Int) - 1) % n != 0) = false := by rw [hd]; rfl
      have hr : rootI p n = pw (el p (g : Int)) (((p : Int) - 1) / n).toNat := by rw [rootI, if_pos ⟨by omega, hd⟩, HG.out]
      have d1 : 0 ≤ ((p : Int) - 1) / n := Int.ediv_nonneg hp0 (by omega)
      have d2 : ((p : Int) - 1) / n ≤ (p : Int) - 1 := Int.ediv_le_self _ hp0
      have hdI : I64 (((p : Int) - 1) / n) := ⟨by omega, by omega⟩
      have hgI : I64 (g : Int) := ⟨by omega, by omega⟩
      have hpw := rpow_nn p (by omega) hp2 g (((p : Int) - 1) / n) hgI hdI d1 w
      rw [show (((p : Int) - 1) / n).natAbs = (((p : Int) - 1) / n).toNat by omega, ← hr] at hpw
      have HPW := Lib.hid hpw
      have d3 : IntKind.i64.wrap (((p : Int) - 1) / n) = ((p : Int) - 1) / n := IntWalk.i64_in _ hdI
      clear hd hr hpw
      go_enter Tryz.func72, Tryz.ntmps72
      go_wp2_with fail
      refine (HGEN.out).mono ?_
      rintro e w' ⟨rfl, rfl⟩
      go_wp2_with fail
      refine (HPW.out).mono ?_
      rintro e w' ⟨rfl, rfl⟩
      go_wp2
      go_ret
      exact ⟨rfl, rfl⟩
    · have t1 : (((p : Int) - 1) % n != 0) = true := by rw [bne_iff_ne]; exact hd
      have hr := rootI_no (p := p) (n := n) (by rintro ⟨_, h⟩; exact hd h)
      have HR := Lib.hid hr
      clear hr hd eq_
      go_enter Tryz.func72, Tryz.ntmps72
      go_wp2
      go_ret
      exact ⟨ret_int (by rw [HR.out, fv_zero]), rfl⟩
end Go.Proofs.YtflkiddmakeabaaGreatDoor

/- Walks of the reference's domains: Fault, New; law2.made. -/
set_option linter.unusedVariables false
namespace Go.Proofs.YtflkiddmakeabaaGreatDoor
open Go.RowKit Zp

/-- the fault of a domain by its number -/
noncomputable def faultI (q : Nat) (size t : Int) : Int := open Classical in if ∃ n : Nat, size = n ∧ SizeOk q n then (if t % (q : Int) = 0 then 3 else 0) else 2
theorem faultI_size {q : Nat} {size t : Int} (h : ¬ ∃ n : Nat, size = n ∧ SizeOk q n) : faultI q size t = 2 := by unfold faultI; rw [if_neg h]
theorem faultI_shift {q n : Nat} {t : Int} (h : SizeOk q n) (h0 : t % (q : Int) = 0) : faultI q n t = 3 := by unfold faultI; rw [if_pos ⟨n, rfl, h⟩, if_pos h0]
theorem faultI_ok {q n : Nat} {t : Int} (h : SizeOk q n) (h0 : ¬ t % (q : Int) = 0) : faultI q n t = 0 := by unfold faultI; rw [if_pos ⟨n, rfl, h⟩, if_neg h0]

def TwoRel (size : Int) (a b : Value) : Prop := ∃ (j N : Nat) (B : Bool), j ≤ 17 ∧ N = 2 ^ j ∧ a = .bool B ∧ b = vi N ∧ (B = true ↔ ∃ i, i < j ∧ size = ((2 ^ i : Nat) : Int))
set_option maxRecDepth 100000 in
set_option maxHeartbeats 2000000 in
theorem rfault_any (q : Nat) [NeZero q] (hq2 : 2 ≤ q) (hqm : q ≤ 2147483647) (size t : Int) (hs : I64 size) (ht : I64 t) (w : World) :
    Calls Tryz.prog 20 #[vi q, vi size, vi t] w fun e w' => e = .returned (vi (faultI q size t)) ∧ w = w' := by
  obtain ⟨F, hF⟩ : ∃ F, F = faultI q size t := ⟨_, rfl⟩
  rw [← hF]
  have HF := Lib.hid hF
  clear hF
  go_enter Tryz.func20, Tryz.ntmps20
  go_wp2
  go_loop [7, 8] (fun a b => TwoRel size a b) (fun _ b => 131073 - (intOf b).toNat)
  case atStart => exact ⟨0, 1, false, by omega, rfl, rfl, rfl, by simp⟩
  case round =>
    obtain ⟨j, N, tw, hj, hN, rfl, rfl, htw⟩ := hrel
    have HTW := Lib.hid htw
    clear htw
    by_cases hj16 : j ≤ 16
    · have hN2 : N ≤ 65536 := by rw [hN]; exact Nat.pow_le_pow_right (n := 2) (by omega) hj16
      have hN1 : 1 ≤ N := by rw [hN]; exact Nat.pow_pos (by omega)
      have hN3 : N * 2 = 2 ^ (j + 1) := by rw [hN, Nat.pow_succ]
      have HN3 := Lib.hid hN3
      have hiff : ∀ B : Bool, (B = true ↔ (tw = true ∨ (N : Int) = size)) → (B = true ↔ ∃ i, i < j + 1 ∧ size = ((2 ^ i : Nat) : Int)) := fun B hB => by
        rw [hB, HTW.out]
        constructor
        · rintro (⟨i, h1, h2⟩ | h1)
          · exact ⟨i, by omega, h2⟩
          · exact ⟨j, by omega, by rw [← hN]; exact h1.symm⟩
        · rintro ⟨i, h1, h2⟩
          by_cases hij : i = j
          · exact .inr (by rw [h2, hij, hN])
          · exact .inl ⟨i, by omega, h2⟩
      have HI := Lib.hid hiff
      clear hiff hN hN3
      cases tw with
      | true =>
        go_wp2
        go_round
        case rel => exact ⟨j + 1, N * 2, true, by omega, HN3.out, rfl, by go_num, HI.out true (by simp)⟩
        case measure => (simp [intOf] <;> omega)
      | false =>
        by_cases he : (N : Int) = size
        · have t1 : ((N : Int) == size) = true := by rw [beq_iff_eq]; exact he
          have HE := Lib.hid he
          clear he
          go_wp2
          go_round
          case rel => exact ⟨j + 1, N * 2, true, by omega, HN3.out, rfl, by go_num, HI.out true (by simp [HE.out])⟩
          case measure => (simp [intOf] <;> omega)
        · have t1 : ((N : Int) == size) = false := by rw [beq_eq_false_iff_ne]; exact he
          have HE := Lib.hid he
          clear he
          go_wp2
          go_round
          case rel => exact ⟨j + 1, N * 2, false, by omega, HN3.out, rfl, by go_num, HI.out false (by simp [HE.out])⟩
          case measure => (simp [intOf] <;> omega)
    · obtain rfl : j = 17 := by omega
      have hN17 : N = 131072 := by rw [hN]
      clear hN
      subst hN17
      cases tw with
      | false =>
        have hf : F = 2 := by
          rw [HF.out]
          refine faultI_size fun ⟨n, h1, ⟨⟨k, hk, h2⟩, _⟩⟩ => ?_
          have := HTW.out.2 ⟨k, by omega, by rw [h1, h2]⟩
          cases this
        have HF2 := Lib.hid hf
        clear hf
        go_wp2
        go_ret
        exact ⟨ret_int HF2.out.symm, rfl⟩
      | true =>
        have hex := HTW.out.1 rfl
        have hpos : ∃ n k : Nat, size = n ∧ n = 2 ^ k ∧ k ≤ 16 := by
          obtain ⟨i, h1, h2⟩ := hex
          exact ⟨_, i, h2, rfl, by omega⟩
        clear hex
        obtain ⟨n, k, rfl, hnk, hk⟩ := hpos
        have hn1 : 1 ≤ n := by rw [hnk]; exact Nat.pow_pos (by omega)
        have hn2 : n ≤ 65536 := by rw [hnk]; exact Nat.pow_le_pow_right (n := 2) (by omega) hk
        obtain ⟨r, hr⟩ : ∃ r, r = (q - 1) % n := ⟨_, rfl⟩
        have ep : (q : Int) - 1 = ((q - 1 : Nat) : Int) := by omega
        have e1 : ((q : Int) - 1).tmod n = (r : Int) := by rw [ep, Int.tmod_eq_emod_of_nonneg (by omega), hr]; omega
        have e2 : ((q : Int) - 1) % n = (r : Int) := by rw [ep, hr]; omega
        clear ep
        by_cases hr0 : r = 0
        · have hok : SizeOk q n := ⟨⟨k, hk, hnk⟩, Nat.dvd_of_mod_eq_zero (by omega)⟩
          have t1 : ((r : Int) != 0) = false := by rw [hr0]; rfl
          have hof := fun W => rof_any q hqm t ht W
          by_cases h0 : el q t = 0
          · have hf : F = 3 := by rw [HF.out]; exact faultI_shift hok (el_eq_zero.1 h0)
            have t2 : (fv (el q t) == 0) = true := by rw [h0]; rfl
            have HF2 := Lib.hid hf
            have HOF := Lib.hid hof
            clear hf hof hok hnk hr hr0 h0
            go_wp2_with fail
            refine (HOF.out _).mono ?_
            rintro e w' ⟨rfl, rfl⟩
            go_wp2
            go_ret
            exact ⟨ret_int HF2.out.symm, rfl⟩
          · have hf : F = 0 := by rw [HF.out]; exact faultI_ok hok (fun h => h0 (el_eq_zero.2 h))
            have t2 : (fv (el q t) == 0) = false := by rw [beq_eq_false_iff_ne]; exact fun h => h0 (fv_eq_zero.1 h)
            have HF2 := Lib.hid hf
            have HOF := Lib.hid hof
            clear hf hof hok hnk hr hr0 h0
            go_wp2_with fail
            refine (HOF.out _).mono ?_
            rintro e w' ⟨rfl, rfl⟩
            go_wp2
            go_ret
            exact ⟨ret_int HF2.out.symm, rfl⟩
        · have hf : F = 2 := by
            rw [HF.out]
            refine faultI_size fun ⟨m, h1, _, h2⟩ => ?_
            obtain rfl : n = m := by omega
            have := Nat.mod_eq_zero_of_dvd h2
            omega
          have t1 : ((r : Int) != 0) = true := by rw [bne_iff_ne]; omega
          have HF2 := Lib.hid hf
          clear hf hnk hr hr0
          go_wp2
          go_ret
          exact ⟨ret_int HF2.out.symm, rfl⟩

/-- a reference's domain -/
abbrev RDom (q n : Nat) (s r : Int) : Value := .agg #[vi q, vi n, vi s, vi r]

def GivesV (v : Value) (w : World) (e : Ending) (w' : World) : Prop := e = .returned v ∧ Below w.heap.size w w'
set_option maxHeartbeats 1000000 in
theorem rnew_any (q : Nat) [NeZero q] (hpr : IsPrime q) (h3 : 3 ≤ q) (hqm : q ≤ 2147483647) (n : Nat) (hn : n ≤ 65536) (t : Int) (ht : I64 t) (w : World) :
    Calls Tryz.prog 22 #[vi q, vi n, vi t] w fun e w' => GivesV (RDom q n (fv (el q t)) (fv (rootI q n))) w e w' := by
  have HR := Lib.hid (fun w => rroot1_any q hpr h3 hqm n (by constructor <;> omega) w)
  have HO := Lib.hid (fun w => rof_any q hqm t ht w)
  generalize fv (rootI q n) = R at HR ⊢
  generalize fv (el q t) = T at HO ⊢
  clear hpr
  go_enter Tryz.func22, Tryz.ntmps22
  go_wp2_with fail
  refine (HR.out _).mono ?_
  rintro e w' ⟨rfl, rfl⟩
  go_wp2_with fail
  refine (HO.out _).mono ?_
  rintro e w' ⟨rfl, rfl⟩
  go_wp2
  exact bodyPost_ret (v := RDom q n T R) (by simp [results, Tryz.results22, go_sem]) rfl ⟨rfl, (Below.refl _ _).alloc (Nat.le_refl _) _⟩
end Go.Proofs.YtflkiddmakeabaaGreatDoor

/- Walks of the reference's Point, Pair, Fold of a word. -/
set_option linter.unusedVariables false
namespace Go.Proofs.YtflkiddmakeabaaGreatDoor
open Go.RowKit Zp

theorem pair_eq {p : Nat} [NeZero p] (a b r x : Fin p) : (a + b) * Zp.inv (el p 2) + (a - b) * Zp.inv (x * el p 2) * r = foldE a b r x := by
  unfold foldE half2
  have e : Zp.inv (x * el p 2) = Zp.inv x * Zp.inv (el p 2) := mul_pw _ _ _
  rw [e]; grind
set_option maxRecDepth 100000 in
set_option maxHeartbeats 1000000 in
theorem rpoint_any (q : Nat) [NeZero q] (hq2 : 2 ≤ q) (hqm : q ≤ 2147483647) (n i : Nat) (hi : i ≤ 65536) (s r : Fin q) (w : World) :
    Calls Tryz.prog 93 #[RDom q n (fv s) (fv r), vi i] w fun e w' => SaysW (vi (fv (s * pw r i))) w e w' := by
  have h1 := fun w => rpow_nn q hq2 hqm (fv r) i (i64_fv _ hqm) ⟨by omega, by omega⟩ (by omega) w
  have h2 := fun w => rmul_any q hqm (fv (pw r i)) (fv s) (i64_fv _ hqm) (i64_fv _ hqm) w
  simp only [el_fv, Int.natAbs_natCast] at h1 h2
  rw [show pw r i * s = s * pw r i by grind] at h2
  generalize fv (s * pw r i) = S at h2 ⊢
  generalize fv (pw r i) = R at h1 h2
  have H1 := Lib.hid h1
  have H2 := Lib.hid h2
  clear h1 h2
  go_enter Tryz.func93, Tryz.ntmps93
  go_wp2_with fail
  refine (H1.out _).mono ?_
  rintro e w' ⟨rfl, rfl⟩
  go_wp2_with fail
  refine (H2.out _).mono ?_
  rintro e w' ⟨rfl, rfl⟩
  go_wp2
  go_ret
  exact ⟨rfl, (Below.refl _ _).alloc (Nat.le_refl _) _⟩
set_option maxRecDepth 100000 in
set_option maxHeartbeats 2000000 in
theorem rpair_any (q : Nat) [NeZero q] (hq2 : 2 ≤ q) (hqm : q ≤ 2147483647) (n i : Nat) (hi : i ≤ 65536) (s r : Fin q) (x y c : Int) (hx : I64 x) (hy : I64 y) (hc : I64 c) (w : World) :
    Calls Tryz.prog 92 #[RDom q n (fv s) (fv r), vi i, vi x, vi y, vi c] w fun e w' => SaysW (vi (fv (foldE (el q x) (el q y) (el q c) (s * pw r i)))) w e w' := by
  have hI2 : I64 2 := by constructor <;> decide
  have h0 := fun w => rpoint_any q hq2 hqm n i hi s r w
  have h1 := fun w => radd_any q hqm x y hx hy w
  have h2 := fun w => rdiv_any q hq2 hqm (fv (el q x + el q y)) 2 (i64_fv _ hqm) hI2 w
  have h3 := fun w => rsub_any q hqm x y hx hy w
  have h4 := fun w => rmul_any q hqm (fv (s * pw r i)) 2 (i64_fv _ hqm) hI2 w
  have h5 := fun w => rdiv_any q hq2 hqm (fv (el q x - el q y)) (fv (s * pw r i * el q 2)) (i64_fv _ hqm) (i64_fv _ hqm) w
  have h6 := fun w => rmul_any q hqm (fv ((el q x - el q y) * Zp.inv (s * pw r i * el q 2))) c (i64_fv _ hqm) hc w
  have h7 := fun w => radd_any q hqm (fv ((el q x + el q y) * Zp.inv (el q 2))) (fv ((el q x - el q y) * Zp.inv (s * pw r i * el q 2) * el q c)) (i64_fv _ hqm) (i64_fv _ hqm) w
  simp only [el_fv] at h2 h4 h5 h6 h7
  rw [pair_eq] at h7
  generalize fv (foldE (el q x) (el q y) (el q c) (s * pw r i)) = Z at h7 ⊢
  generalize fv ((el q x - el q y) * Zp.inv (s * pw r i * el q 2) * el q c) = V6 at h6 h7
  generalize fv ((el q x - el q y) * Zp.inv (s * pw r i * el q 2)) = V5 at h5 h6
  generalize fv (s * pw r i * el q 2) = V4 at h4 h5
  generalize fv (s * pw r i) = V0 at h0 h4
  generalize fv ((el q x + el q y) * Zp.inv (el q 2)) = V2 at h2 h7
  generalize fv (el q x + el q y) = V1 at h1 h2
  generalize fv (el q x - el q y) = V3 at h3 h5
  have H0 := Lib.hid h0
  have H1 := Lib.hid h1
  have H2 := Lib.hid h2
  have H3 := Lib.hid h3
  have H4 := Lib.hid h4
  have H5 := Lib.hid h5
  have H6 := Lib.hid h6
  have H7 := Lib.hid h7
  have hbA : Below w.heap.size w (w.alloc (.cells #[vi q, vi n, vi (fv s), vi (fv r)] 30)) := (Below.refl _ _).alloc (Nat.le_refl _) _
  clear h0 h1 h2 h3 h4 h5 h6 h7
  go_enter Tryz.func92, Tryz.ntmps92
  go_wp2_with fail
  refine (H0.out _).mono ?_
  rintro e w1 ⟨rfl, hb1⟩
  have hbw := hbA.trans (hb1.mono hbA.size)
  have hB1 := (Blk.new w 30 #[vi q, vi n, vi (fv s), vi (fv r)]).below hb1 (by simp)
  have e0 := (hB1.cell 0).trans (show _ = some (vi q) from rfl)
  clear hB1 hbA
  go_wp2_with fail
  refine (H1.out _).mono ?_
  rintro e w' ⟨rfl, rfl⟩
  go_wp2_with fail
  refine (H2.out _).mono ?_
  rintro e w' ⟨rfl, rfl⟩
  go_wp2_with fail
  refine (H3.out _).mono ?_
  rintro e w' ⟨rfl, rfl⟩
  go_wp2_with fail
  refine (H4.out _).mono ?_
  rintro e w' ⟨rfl, rfl⟩
  go_wp2_with fail
  refine (H5.out _).mono ?_
  rintro e w' ⟨rfl, rfl⟩
  go_wp2_with fail
  refine (H6.out _).mono ?_
  rintro e w' ⟨rfl, rfl⟩
  go_wp2_with fail
  refine (H7.out _).mono ?_
  rintro e w' ⟨rfl, rfl⟩
  go_wp2
  go_ret
  exact ⟨rfl, hbw⟩
set_option maxRecDepth 100000 in
set_option maxHeartbeats 2000000 in
theorem rfold_any (q : Nat) [NeZero q] (hq2 : 2 ≤ q) (hqm : q ≤ 2147483647) (n h : Nat) (hn : n = 2 * h) (hn2 : n ≤ 65536) (s r : Fin q) (A : Option Addr) (ca : Nat) (xs : List Int) (hml : xs.length = n) (hxs : ∀ x ∈ xs, I64 x) (c : Int) (hc : I64 c) (w : World) (hs : SL w A xs) :
    Calls Tryz.prog 62 #[RDom q n (fv s) (fv r), .slice A n ca, vi c] w fun e w' => Made (fvs (foldL s r h (els q xs) (el q c))) w e w' := by
  have hbA : Below w.heap.size w (w.alloc (.cells #[vi q, vi n, vi (fv s), vi (fv r)] 30)) := (Below.refl _ _).alloc (Nat.le_refl _) _
  have hB := Blk.new w 30 #[vi q, vi n, vi (fv s), vi (fv r)]
  have HML := Lib.hid hml
  have HN := Lib.hid hn
  have HP := Lib.hid (fun i (hi : i ≤ 65536) x y (hx : I64 x) (hy : I64 y) W => rpair_any q hq2 hqm n i hi s r x y c hx hy hc W)
  have hll : (fvs (foldL s r h (els q xs) (el q c))).length = h := by rw [List.length_map, foldL_length]
  have hat : ∀ (k : Nat) (x y : Int), k < h → xs[k]? = some x → xs[k + h]? = some y → (fvs (foldL s r h (els q xs) (el q c))).take k ++ [fv (foldE (el q x) (el q y) (el q c) (s * pw r k))] = (fvs (foldL s r h (els q xs) (el q c))).take (k + 1) := fun k x y hk hx hy => by
    rw [List.take_succ_eq_append_getElem (by rw [hll]; exact hk)]
    congr 2
    obtain ⟨hk1, rfl⟩ := List.getElem?_eq_some_iff.1 hx
    obtain ⟨hk2, rfl⟩ := List.getElem?_eq_some_iff.1 hy
    simp only [fvs, foldL, List.getElem_map, tab_get]
    rw [co_of_lt (by simp [els]; omega), co_of_lt (by simp [els]; omega)]
    simp [els]
  have HLL := Lib.hid hll
  have HAT := Lib.hid hat
  have HXS := Lib.hid hxs
  have e0 := (hB.cell 0).trans (show _ = some (vi q) from rfl)
  have e1 := (hB.cell 1).trans (show _ = some (vi n) from rfl)
  have e2 := (hB.cell 2).trans (show _ = some (vi (fv s)) from rfl)
  have e3 := (hB.cell 3).trans (show _ = some (vi (fv r)) from rfl)
  have hsA := hs.below hbA
  generalize fvs (foldL s r h (els q xs) (el q c)) = L at hat HLL HAT ⊢
  obtain ⟨W, hW⟩ : ∃ W, W = w.alloc (.cells #[vi q, vi n, vi (fv s), vi (fv r)] 30) := ⟨_, rfl⟩
  have hBl : w.heap.size < W.heap.size := by rw [hW]; simp
  rw [← hW] at e0 e1 e2 e3 hsA hbA
  have HW := Lib.hid hW
  have HBA := Lib.hid hbA
  have HSA := Lib.hid hsA
  have t2 : (n : Int).tdiv 2 = (h : Int) := by rw [Int.tdiv_eq_ediv_of_nonneg (by omega)]; omega
  have t3 : (n : Int) / 2 = (h : Int) := by omega
  have t3' : n / 2 = h := by omega
  have t4' : IntKind.i64.wrap (h : Int) = h := IntWalk.i64_in _ (by constructor <;> omega)
  have hh2 : h ≤ 32768 := by omega
  clear hat hll hml hxs hB hs hW hbA hsA hn
  go_enter Tryz.func62, Tryz.ntmps62
  go_wp2
  rw [← HW.out]
  clear HW
  go_loopw [7, 8, 9] (fun v i _ wr => ∃ k : Nat, k ≤ h ∧ i = vi k ∧ Own wr W.heap.size v (L.take k) ∧ Below W.heap.size W wr) (fun _ i _ _ => h - (intOf i).toNat)
  case atStart => exact ⟨0, Nat.zero_le _, rfl, World.ownsRow_nil _ _ _ _, Below.refl _ _⟩
  case round =>
    obtain ⟨k, hk, rfl, hown, hb⟩ := hrel
    have f1 := (hb.cell (p := ⟨w.heap.size, 1, none⟩) hBl).trans e1
    by_cases hkh : k < h
    · have f0 := (hb.cell (p := ⟨w.heap.size, 0, none⟩) hBl).trans e0
      have f2 := (hb.cell (p := ⟨w.heap.size, 2, none⟩) hBl).trans e2
      have f3 := (hb.cell (p := ⟨w.heap.size, 3, none⟩) hBl).trans e3
      have hk1 : k < xs.length := by have := HML.out; have := HN.out; omega
      have hk2 : k + h < xs.length := by have := HML.out; have := HN.out; omega
      have hsr := HSA.out.below hb
      obtain ⟨ad, rfl, hl1, hc1⟩ := hsr.at_ hk1
      obtain ⟨ad', e', _, hc2⟩ := hsr.at_ hk2
      injection e' with e'
      subst e'
      have hx := HXS.out _ (List.getElem_mem hk1)
      have hy := HXS.out _ (List.getElem_mem hk2)
      obtain ⟨x, hxe⟩ : ∃ x, x = xs[k] := ⟨_, rfl⟩
      obtain ⟨y, hye⟩ : ∃ y, y = xs[k + h] := ⟨_, rfl⟩
      have ha := HAT.out k x y hkh (by rw [List.getElem?_eq_getElem hk1, hxe]) (by rw [List.getElem?_eq_getElem hk2, hye])
      rw [← hxe] at hc1 hx
      rw [← hye] at hc2 hy
      have hp := HP.out k (by omega) x y hx hy
      generalize fv (foldE (el q x) (el q y) (el q c) (s * pw r k)) = Z at ha hp
      have HPP := Lib.hid hp
      have HA := Lib.hid ha
      have hlk : (L.take k).length < 17592186044416 := by have := List.length_take_le k L; omega
      have HLK := Lib.hid hlk
      have HB := Lib.hid hb
      have k0 : (0 : Int) ≤ (k : Int) := by omega
      have k1 : (k : Int) < (n : Int) := by omega
      have k2 : (k : Int) + h < (n : Int) := by omega
      have k3 : (0 : Int) ≤ (k : Int) + h := by omega
      have k4 : k < n := by omega
      have k5 : k + h < n := by omega
      have k6 : ((k : Int) + h).toNat = k + h := by omega
      have k7 : IntKind.i64.wrap ((k : Int) + h) = (k : Int) + h := IntWalk.i64_in _ (by constructor <;> omega)
      have hwl := Nat.lt_of_lt_of_le hBl hb.size
      clear ha hp hlk hxe hye hk1 hk2 hb hx hy
      go_wp2
      go_region_held3 (fun w' => w'.cell? ⟨w.heap.size, 0, none⟩ = some (vi q) ∧ w'.cell? ⟨w.heap.size, 1, none⟩ = some (vi n) ∧ w'.cell? ⟨w.heap.size, 2, none⟩ = some (vi (fv s)) ∧ w'.cell? ⟨w.heap.size, 3, none⟩ = some (vi (fv r)) ∧ w'.cell? (ad.add k) = some (vi x) ∧ w'.cell? (ad.add (k + h)) = some (vi y)) (first | exact ⟨f0, f1, f2, f3, hc1, hc2⟩ | exact ⟨(hb5.cell (p := ⟨w.heap.size, 0, none⟩) hwl).trans f0, (hb5.cell (p := ⟨w.heap.size, 1, none⟩) hwl).trans f1, (hb5.cell (p := ⟨w.heap.size, 2, none⟩) hwl).trans f2, (hb5.cell (p := ⟨w.heap.size, 3, none⟩) hwl).trans f3, (hb5.cell (p := ad.add k) (by rw [block_of_add]; exact hl1)).trans hc1, (hb5.cell (p := ad.add (k + h)) (by rw [block_of_add]; exact hl1)).trans hc2⟩) ((go_at_call 92; refine (HPP.out wr.drew).mono ?_; rintro e w5 ⟨rfl, hb5d⟩; have hb5 : Below wr.heap.size wr w5 := (show Below wr.heap.size wr wr.drew from below_drewN (Below.refl _ _) 1).trans hb5d; clear hb5d))
      all_goals
        have hbw5 := HB.out.trans (hb5.mono HB.out.size)
        have hown5 := hown.below hb5
        go_wp2_with (at_builtin; refine wpList_app1 _ _ rfl _ _ rfl W.heap.size _ _ rfl rfl hown5 HLK.out hbw5.size ?_; intro v' w6 hg)
        go_roundw
        case rel => exact ⟨k + 1, by omega, by go_num, by rw [← HA.out]; exact hg.own, hg.below hbw5 hown5 (Nat.le_refl _) hbw5.size⟩
        case measure => simp [intOf]; omega
    · have ek : k = h := by omega
      subst ek
      have t5 : ¬ (k : Int) < (k : Int) := by omega
      rw [List.take_of_length_le (by rw [HLL.out]; exact Nat.le_refl _)] at hown
      go_wp2
      go_ret
      exact ⟨_, rfl, hown.more HBA.out.size, HBA.out.trans (hb.mono HBA.out.size)⟩
end Go.Proofs.YtflkiddmakeabaaGreatDoor

/- Walks of the reference's polynomials: Degree, Trim, At, Plus, Scaled, Times, Eval. -/
set_option linter.unusedVariables false
namespace Go.Proofs.YtflkiddmakeabaaGreatDoor
open Go.RowKit Zp

theorem i64_fvsR {p : Nat} (l : List (Fin p)) (hp2 : p ≤ 2147483647) : ∀ n ∈ fvs l, I64 n := fun n hn => by
  obtain ⟨x, _, rfl⟩ := List.mem_map.1 hn
  exact i64_fv x hp2
theorem SL.take {w : World} {A : Option Addr} {xs : List Int} (h : SL w A xs) (k : Nat) : SL w A (xs.take k) := by
  refine ⟨by simp, fun hn => ?_⟩
  have hl : (xs.take k).length = min k xs.length := List.length_take
  obtain ⟨ad, e, hb, hc⟩ := h.2 (by omega)
  refine ⟨ad, e, hb, fun j u hu => hc j u ?_⟩
  rw [List.map_take, List.getElem?_take] at hu
  split at hu
  · exact hu
  · cases hu

theorem rall_n (p : Nat) [NeZero p] (hp2 : p ≤ 2147483647) (A : Option Addr) (n cap : Nat) (xs : List Int) (hml : xs.length = n) (hxs : ∀ n ∈ xs, I64 n) (hreach : n * 8 ≤ 140737488353280) (w : World) (hs : SL w A xs) :
    Calls Tryz.prog 115 #[vi p, .slice A n cap] w fun e w' => Made (fvs (els p xs)) w e w' := by
  subst hml
  exact rall_any p hp2 A cap xs hxs hreach w hs

set_option maxHeartbeats 1000000 in
theorem rdegree_n (p : Nat) [NeZero p] (hp2 : p ≤ 2147483647) (A : Option Addr) (len cap : Nat) (xs : List Int) (hml : xs.length = len) (hxs : ∀ n ∈ xs, I64 n) (hreach : len * 8 ≤ 281474976710656) (w : World) (hs : SL w A xs) :
    Calls Tryz.prog 42 #[vi p, .slice A len cap] w fun e w' => e = .returned (vi (degL (els p xs))) ∧ w = w' := by
  have HL := Lib.hid hml.symm
  clear hml
  go_enter Tryz.func42, Tryz.ntmps42
  go_wp2
  go_loop [5, 6] (fun i _ => DegRel p xs i) (fun i _ => (intOf i + 1).toNat)
  case atStart => exact ⟨len, by rw [HL.out]; exact Nat.le_refl _, rfl, by rw [HL.out]; exact ZeroFrom.start p xs⟩
  case round =>
    obtain ⟨k, hk, rfl, hz⟩ := hrel
    rw [← HL.out] at hk
    have HZ := Lib.hid hz
    clear hz
    by_cases h0 : k = 0
    · subst h0
      have t1 : decide ((0 : Int) ≤ (((0 : Nat) : Int) - 1)) = false := by simp
      go_wp2
      go_ret
      exact ⟨ret_int (HZ.out.done (.inl rfl)).symm, rfl⟩
    · have i0 : (0 : Int) ≤ (k : Int) - 1 := by omega
      have i1 : (1 : Int) ≤ (k : Int) := by omega
      have i2 : ((k : Int) - 1).toNat = k - 1 := by omega
      have hkx : k - 1 < xs.length := by rw [← HL.out]; omega
      obtain ⟨ad, rfl, hab, hcell⟩ := hs.at_ hkx
      have hI := hxs _ (List.getElem_mem hkx)
      have hco : co (els p xs) (k - 1) = el p xs[k - 1] := by rw [co_of_lt (by simpa using hkx)]; simp
      obtain ⟨x, hx⟩ : ∃ x, x = xs[k - 1] := ⟨_, rfl⟩
      rw [← hx] at hI hcell hco
      have hcell' : w.cell? (ad.add ((k : Int) - 1).toNat) = some (vi x) := by rw [i2]; exact hcell
      have HC := Lib.hid hco
      clear hx hco i2
      by_cases hx0 : el p x = 0
      · have t1 : (fv (el p x) != 0) = false := by rw [hx0]; rfl
        have hz2 : ZeroFrom p xs (k - 1) := ZeroFrom.next (by rw [show k - 1 + 1 = k from by omega]; exact HZ.out) (by rw [HC.out]; exact hx0)
        have HZ2 := Lib.hid hz2
        clear hz2 hx0
        go_wp2_with (go_at_call 70; refine (rof_any p hp2 x hI _).mono ?_; rintro e w' ⟨rfl, rfl⟩)
        go_round
        case rel => exact ⟨k - 1, by rw [← HL.out]; omega, by congr 1; omega, HZ2.out⟩
        case measure => simp [intOf]; omega
      · have t1 : (fv (el p x) != 0) = true := by rw [bne_iff_ne]; exact fun h => hx0 (fv_eq_zero.1 h)
        have hd := HZ.out.done (.inr (by rw [HC.out]; exact hx0))
        have HD := Lib.hid hd
        clear hd hx0
        go_wp2_with (go_at_call 70; refine (rof_any p hp2 x hI _).mono ?_; rintro e w' ⟨rfl, rfl⟩)
        go_ret
        exact ⟨ret_int HD.out.symm, rfl⟩

theorem rtrim_n (p : Nat) [NeZero p] (hp2 : p ≤ 2147483647) (A : Option Addr) (len cap : Nat) (xs : List Int) (hml : xs.length = len) (hxs : ∀ n ∈ xs, I64 n) (hreach : len * 8 ≤ 140737488351232) (hcap : len ≤ cap) (w : World) (hs : SL w A xs) :
    Calls Tryz.prog 110 #[vi p, .slice A len cap] w fun e w' => Made (fvs (trimL (els p xs))) w e w' := by
  have hdeg := rdegree_n p hp2 A len cap xs hml hxs (by omega) w hs
  obtain ⟨n, hn⟩ : ∃ n, n = (trimL (els p xs)).length := ⟨_, rfl⟩
  have hnl : n ≤ len := by rw [hn, ← hml]; have := trimL_length_le (els p xs); simpa using this
  have hd : degL (els p xs) = (n : Int) - 1 := by unfold degL; rw [hn]
  rw [hd] at hdeg
  have hall := rall_n p hp2 A n cap (xs.take n) (by rw [List.length_take, hml]; omega) (fun x hx => hxs x (List.mem_of_mem_take hx)) (by omega) w (hs.take n)
  have he : els p (xs.take n) = trimL (els p xs) := by
    conv => rhs; rw [trimL_eq_take, ← hn]
    unfold els; rw [List.map_take]
  rw [he] at hall
  have HDEG := Lib.hid hdeg
  have HALL := Lib.hid hall
  have i1 : (0 : Int) ≤ (n : Int) := by omega
  have i2 : (n : Int) ≤ cap := by omega
  clear hn hd he hdeg hall hml
  go_enter Tryz.func110, Tryz.ntmps110
  go_wp2_with fail
  refine (HDEG.out).mono ?_
  rintro e w' ⟨rfl, rfl⟩
  go_wp2_with fail
  refine (HALL.out).mono ?_
  rintro e w1 ⟨v, rfl, hown, hb⟩
  go_wp2
  go_ret
  exact ⟨v, rfl, hown, hb⟩

end Go.Proofs.YtflkiddmakeabaaGreatDoor

/- Walks of the reference's polynomials: Plus, Scaled, Minus, Times, Eval. -/
set_option linter.unusedVariables false
namespace Go.Proofs.YtflkiddmakeabaaGreatDoor
open Go.RowKit Zp

end Go.Proofs.YtflkiddmakeabaaGreatDoor

/- Walks: attestlaw2's plain and lives. -/
set_option linter.unusedVariables false
namespace Go.Proofs.YtflkiddmakeabaaGreatDoor
open Go.RowKit Zp

/-- is there a domain? -/
def HasDom (p size t : Int) : Prop := HasField p ∧ ∃ n : Nat, size = n ∧ SizeOk p.toNat n ∧ ¬ t % p = 0

/-- the parts of HasDom -/
theorem HasDom.parts {p size t : Int} (h : HasDom p size t) : ∃ q n : Nat, p = q ∧ size = n ∧ 3 ≤ q ∧ q ≤ 2147483647 ∧ IsPrime q ∧ SizeOk q n ∧ ¬ t % (q : Int) = 0 := by
  obtain ⟨⟨h3, hm, hpr⟩, n, rfl, hs, h0⟩ := h
  obtain ⟨q, rfl⟩ := Int.eq_ofNat_of_zero_le (a := p) (by omega)
  rw [Int.toNat_natCast] at hpr hs
  exact ⟨q, n, rfl, rfl, by omega, by omega, hpr, hs, h0⟩

end Go.Proofs.YtflkiddmakeabaaGreatDoor

/- Walk: law2.made. -/
set_option linter.unusedVariables false
namespace Go.Proofs.YtflkiddmakeabaaGreatDoor
open Go.RowKit Zp

theorem blk4 {w w1 : World} {t : TypeId} {a b c d : Value} (hb : Below (w.alloc (.cells #[a, b, c, d] t)).heap.size (w.alloc (.cells #[a, b, c, d] t)) w1) :
    w1.cell? ⟨w.heap.size, 0, none⟩ = some a ∧ w1.cell? ⟨w.heap.size, 1, none⟩ = some b ∧ w1.cell? ⟨w.heap.size, 2, none⟩ = some c ∧ w1.cell? ⟨w.heap.size, 3, none⟩ = some d ∧ ∀ i, w1.frozen? ⟨w.heap.size, i, none⟩ = false := by
  have h := (Blk.new w t #[a, b, c, d]).below hb (by simp)
  exact ⟨(h.cell 0).trans rfl, (h.cell 1).trans rfl, (h.cell 2).trans rfl, (h.cell 3).trans rfl, fun i => h.frozen i⟩
/-- a block of zeros -/
def ZeroBlk (w : World) (B : Nat) : Prop := ∀ a : Addr, a.block = B → ∀ v, w.cell? a = some v → v = vi 0
theorem zeroBlk {w : World} {B : Nat} {t : TypeId} (h : Blk w B t #[vi 0, vi 0, vi 0, vi 0]) : ZeroBlk w B := fun a ha v hv => by
  unfold Blk at h
  subst ha
  unfold World.cell? at hv
  rw [h] at hv
  simp only at hv
  split at hv
  · cases hv
  · have : a.off < 4 := by
      false_or_by_contra
      rename_i hge
      rw [Array.getElem?_eq_none (by simpa using hge)] at hv
      cases hv
    match a.off, hv, this with
    | 0, hv, _ => simpa using hv.symm
    | 1, hv, _ => simpa using hv.symm
    | 2, hv, _ => simpa using hv.symm
    | 3, hv, _ => simpa using hv.symm
theorem Fld.keepZ {w w' : World} {S b p B : Nat} [NeZero p] (h : Fld w S b p) (hz : ZeroBlk w B) (hk : ∀ q : Addr, q.block < S → q.block ≠ B → w'.cell? q = w.cell? q) (hs : w.heap.size ≤ w'.heap.size) : Fld w' S b p := by
  have h3 := h.three
  have hb : b ≠ B := fun e => by
    have := hz ⟨b, 0, none⟩ e _ h.c0
    injection this with _ h1
    omega
  obtain ⟨A, c, fs, a1, a2, a3, a4⟩ := h.c1
  refine ⟨h.prime, h.three, h.max, h.lt, Nat.le_trans h.le hs, (hk _ h.lt hb).trans h.c0, ⟨A, c, fs, (hk _ h.lt hb).trans a1, a2, a3, a4.1, fun hn => ?_⟩, (hk _ h.lt hb).trans h.c2⟩
  obtain ⟨ad, e, hlt, hc⟩ := a4.2 hn
  refine ⟨ad, e, hlt, fun j u hu => ?_⟩
  have hcj := hc j u hu
  have hne : ad.block ≠ B := fun e2 => by
    have h1 := hz (ad.add j) (by rw [block_of_add]; exact e2) _ hcj
    rw [List.getElem?_map, List.getElem?_map] at hu
    cases hq : fs[j]? with
    | none => rw [hq] at hu; cases hu
    | some q =>
      rw [hq] at hu
      have h2 := a3.two q (List.mem_of_getElem? hq)
      simp only [Option.map_some, Option.some.injEq] at hu
      rw [← hu] at h1
      injection h1 with _ h4
      omega
  exact (hk _ (by rw [block_of_add]; exact hlt) (by rw [block_of_add]; exact hne)).trans hcj
theorem Dom.keepZ {w w' : World} {S D b p n B : Nat} [NeZero p] {s : Fin p} (h : Dom w S D b p n s) (hz : ZeroBlk w B) (hk : ∀ q : Addr, q.block < S → q.block ≠ B → w'.cell? q = w.cell? q) (hs : w.heap.size ≤ w'.heap.size) : Dom w' S D b p n s := by
  have hD : D ≠ B := fun e => by have := hz ⟨D, 0, none⟩ e _ h.c0; cases this
  exact ⟨h.fld.keepZ hz hk hs, h.lt, (hk _ h.lt hD).trans h.c0, (hk _ h.lt hD).trans h.c1, (hk _ h.lt hD).trans h.c2, (hk _ h.lt hD).trans h.c3, h.s0, h.size⟩

theorem Dom.upS {w : World} {S S' D b p n : Nat} [NeZero p] {s : Fin p} (h : Dom w S D b p n s) (h1 : S ≤ S') (h2 : S' ≤ w.heap.size) : Dom w S' D b p n s :=
  ⟨h.fld.moreS h1 h2, Nat.lt_of_lt_of_le h.lt h1, h.c0, h.c1, h.c2, h.c3, h.s0, h.size⟩
theorem errNil (w : World) (hg : Typed w) : Calls Tryz.prog 16 #[.nilIface, vi 0] w fun x w' => SaysW (.bool true) w x w' := error_any 0 0 w hg
theorem errIs (k : Int) (h : k ≠ 0) (w : World) (hg : Typed w) : Calls Tryz.prog 16 #[.iface 98 (.int .i64 k), vi k] w fun x w' => SaysW (.bool true) w x w' := by
  have h1 := error_any k k w hg
  rw [errV_ne h, show (k == k) = true from by simp] at h1
  exact h1

/-- there is no domain of this field: both sides say why -/
theorem dnew_fault (q S b : Nat) [NeZero q] (size t : Int) (ht : I64 t) (w : World) (F : Fld w S b q) (h : ¬ ∃ n : Nat, size = n ∧ SizeOk q n ∧ ¬ t % (q : Int) = 0) :
    ∃ k : Int, k ≠ 0 ∧ faultI q size t = k ∧ Calls Tryz.prog 19 #[.pointer (some ⟨b, 0, none⟩), vi size, vi t] w fun e w' => e = NoDom k ∧ w = w' := by
  have hc := F.c0
  by_cases h1 : size < 1 ∨ 65536 < size
  · exact ⟨2, by decide, faultI_size (fun ⟨n, e, hn⟩ => by have := hn.pos; have := hn.le; omega), dnew_size1 b size t h1 w⟩
  · obtain ⟨n, rfl⟩ := Int.eq_ofNat_of_zero_le (a := size) (by omega)
    by_cases h2 : SizeOk q n
    · have h3 : t % (q : Int) = 0 := by
        false_or_by_contra
        rename_i h3
        exact h ⟨n, rfl, h2, h3⟩
      exact ⟨3, by decide, faultI_shift h2 h3, dnew_shift q b n t ht F.two F.max h2 (el_eq_zero.2 h3) w hc⟩
    · have h4 : faultI q n t = 2 := faultI_size (by
        rintro ⟨m, e, hm⟩
        have e2 : n = m := by omega
        exact h2 (e2 ▸ hm))
      exact ⟨2, by decide, h4, dnew_size2 q b n t (by omega) (by omega) F.two F.max h2 w hc⟩
end Go.Proofs.YtflkiddmakeabaaGreatDoor

/- Walks: powers, Coefficients, code.Is. -/
set_option linter.unusedVariables false
namespace Go.Proofs.YtflkiddmakeabaaGreatDoor
open Go.RowKit Zp

theorem mul_one_ {p : Nat} [NeZero p] (a : Fin p) : a * 1 = a := by grind
theorem mul_assoc_ {p : Nat} [NeZero p] (a b c : Fin p) : a * b * c = a * (b * c) := by grind

/-- x, x y, x y^2 .. -/
def powL {p : Nat} [NeZero p] (x y : Fin p) (n : Nat) : List (Fin p) := tab n (fun i => x * pw y i)
theorem powL_length {p : Nat} [NeZero p] (x y : Fin p) (n : Nat) : (powL x y n).length = n := tab_length _ _
def PowRel {p : Nat} [NeZero p] (x y : Fin p) (n : Nat) (w : World) (v c : Value) (wr : World) : Prop := ∃ k g : Nat, k ≤ n ∧ c = vi (fv (x * pw y k)) ∧ v = .slice (some ⟨g, 0, none⟩) k n ∧ Own wr w.heap.size v (fvs (powL x y k)) ∧ Below w.heap.size w wr
def lenOf : Value → Nat
  | .slice _ n _ => n
  | _ => 0

set_option maxRecDepth 100000 in
set_option maxHeartbeats 1000000 in
theorem powers_any (p S D b : Nat) [NeZero p] (n : Nat) (s : Fin p) (x y : Fin p) (w : World) (hD : Dom w S D b p n s) :
    Calls Tryz.prog 100 #[.pointer (some ⟨D, 0, none⟩), vi (fv x), vi (fv y)] w fun e w' => Made (fvs (powL x y n)) w e w' := by
  have hp2 := hD.fld.max
  have hn1 := hD.size.le
  have hd1 := hD.c1
  have hDle := hD.le
  have hmk := make_ints0 n (by omega)
  go_enter Tryz.func100, Tryz.ntmps100
  go_wp2
  go_loopw [7, 8] (fun v c wr => PowRel x y n w v c wr) (fun v _ _ => n - lenOf v)
  case atStart => exact ⟨0, w.heap.size, Nat.zero_le _, by rw [pw_zero, mul_one_], rfl, own_made0 w _ n (Nat.le_refl _) (by omega), (Below.refl _ _).alloc (Nat.le_refl _) _⟩
  case round =>
    obtain ⟨k, g, hk, rfl, rfl, hown, hb⟩ := hrel
    have hDr := hD.below hb hDle
    have hd1 := hDr.c1
    have hd0 := hDr.c0
    have hcb := hDr.fld.c0
    by_cases hkn : k < n
    · have hlk : (fvs (powL x y k)).length = k := by simp [powL_length]
      have hts : powL x y (k + 1) = powL x y k ++ [x * pw y k] := tab_succ _ _
      have hX1 : x * pw y k * y = x * pw y (k + 1) := by rw [pw_succ]; exact mul_assoc_ _ _ _
      obtain ⟨X, hX⟩ : ∃ X, X = x * pw y k := ⟨_, rfl⟩
      rw [← hX] at hts hX1 ⊢
      obtain ⟨X2, hX2⟩ : ∃ X2, X2 = x * pw y (k + 1) := ⟨_, rfl⟩
      rw [← hX2] at hX1
      have hmul := fun W hc => mul_any p hp2 b (fv X) (fv y) (i64_fv _ hp2) (i64_fv _ hp2) W hc
      rw [el_fv, el_fv, hX1] at hmul
      have HMUL := Lib.hid hmul
      have HTS := Lib.hid hts
      have HLK := Lib.hid hlk
      have HX2 := Lib.hid hX2
      clear hmul hts hlk hX hX1 hX2
      have hgl := (hown.lt g rfl).1
      have hDne : some D ≠ some g := by intro e; injection e with e; have := hD.lt; omega
      have hbne : some b ≠ some g := by intro e; injection e with e; have := hD.fld.lt; omega
      go_wp2_with (at_builtin; refine wpList_app1_fits wr (fv X) rfl _ _ rfl w.heap.size g k n _ rfl rfl hown HLK.out.symm hkn ?_; intro w1 hown1 hg; have hd0' := hg.cell hd0 hDne; have hcb' := hg.cell hcb hbne)
      refine (HMUL.out _ hcb').mono ?_
      rintro e w' ⟨rfl, k5, rfl⟩
      go_wp2
      go_roundw
      case rel => exact ⟨k + 1, g, by omega, by rw [HX2.out], rfl, by rw [HTS.out, fvs, List.map_append]; exact hown1, below_drewN (hb.grown hg hb.size (fun j hj => by injection hj with hj; subst hj; exact hgl)) k5⟩
      case measure => simp [lenOf]; omega
    · obtain rfl : k = n := by omega
      go_wp2
      go_ret
      exact ⟨_, rfl, hown, hb⟩
theorem coefs_bad (D n : Nat) (A : Option Addr) (m cap : Nat) (h : m ≠ n) (w : World) (hc : w.cell? ⟨D, 1, none⟩ = some (vi n)) :
    Calls Tryz.prog 53 #[.pointer (some ⟨D, 0, none⟩), .slice A m cap] w fun e w' => e = .returned (.tuple #[.slice none 0 0, .iface 98 (.int .i64 2)]) ∧ w = w' := by
  have t1 : ((m : Int) != (n : Int)) = true := by rw [bne_iff_ne]; omega
  clear h
  go_enter Tryz.func53, Tryz.ntmps53
  go_wp2
  go_ret2
  exact ⟨rfl, rfl⟩

/-- a word of the call's own, and no error -/
def MadeC (xs : List Int) (w : World) (e : Ending) (w' : World) : Prop := ∃ v, e = .returned (.tuple #[v, .nilIface]) ∧ Own w' w.heap.size v xs ∧ Below w.heap.size w w'
/-- behind spread -/
def Cut3 (p n : Nat) [NeZero p] (r : Fin p) (l : List (Fin p)) (w : World) (v : Value) (wx : World) : Prop := ∃ ys, Own wx w.heap.size v ys ∧ (∀ y ∈ ys, I64 y) ∧ els p ys = dft r n l ∧ Below w.heap.size w wx
/-- behind powers -/
def Cut4 (p n : Nat) [NeZero p] (x y : Fin p) (w2 : World) (v ln c : Value) (wx : World) : Prop := ∃ g3 cc, v = .slice (some ⟨g3, 0, none⟩) n cc ∧ ln = vi n ∧ c = .int .i64 0 ∧ Own wx w2.heap.size (.slice (some ⟨g3, 0, none⟩) n cc) (fvs (powL x y n)) ∧ w2.heap.size ≤ g3 ∧ Below w2.heap.size w2 wx

def CoefRel (p n : Nat) [NeZero p] (r x y : Fin p) (l : List (Fin p)) (w : World) (g c : Nat) (i : Value) (wr : World) : Prop := ∃ (k : Nat) (ys : List Int), k ≤ n ∧ i = vi k ∧ ys.length = n ∧ Own wr w.heap.size (.slice (some ⟨g, 0, none⟩) n c) ys ∧ (∀ y ∈ ys, I64 y) ∧
  (∀ j, j < n → co (els p ys) j = if j < k then co (dft r n l) j * (x * pw y j) else co (dft r n l) j) ∧ Below w.heap.size w wr

set_option maxRecDepth 100000 in
set_option maxHeartbeats 1000000 in
theorem coefs_any (p S D b : Nat) [NeZero p] (n : Nat) (s : Fin p) (A : Option Addr) (cap : Nat) (xs : List Int) (hml : xs.length = n) (hxs : ∀ x ∈ xs, I64 x) (w : World) (hD : Dom w S D b p n s) (hs : SL w A xs) :
    Calls Tryz.prog 53 #[.pointer (some ⟨D, 0, none⟩), .slice A n cap] w fun e w' => MadeC (fvs (trimL (coefL s (rootI p n) n (els p xs)))) w e w' := by
  have hp1 := hD.fld.two
  have hp2 := hD.fld.max
  have hpr := hD.fld.prime
  have hn0 := hD.size.pos
  have hn1 := hD.size.le
  have hDle := hD.le
  have hd0 := hD.c0
  have hd1 := hD.c1
  have hd3 := hD.c3
  have hcb := hD.fld.c0
  have hDl : D < w.heap.size := Nat.lt_of_lt_of_le hD.lt hD.le
  have hbl : b < w.heap.size := Nat.lt_of_lt_of_le hD.fld.lt hD.le
  have t1 : ((n : Int) != (n : Int)) = false := by simp
  have hord := ord_inv hpr (rootI_ord hpr hn0 hD.size.2) hn0
  have hcond := root_cond hpr hD.size hord
  obtain ⟨R, hR⟩ : ∃ R, R = rootI p n := ⟨_, rfl⟩
  rw [← hR] at hd3 hcond ⊢
  have hclone := fun k => clone_any A n cap xs hml (by omega) (w.drewN k) (hs.drewN k)
  have HCLONE := Lib.hid hclone
  have hsp : SpreadSpec p S D b n s n := by
    obtain ⟨⟨kk, hkk, hnk⟩, _⟩ := hD.size
    have h := spread_any p S D b n s kk hkk
    rwa [← hnk] at h
  have HSP := Lib.hid hsp
  have HML := Lib.hid hml
  have HCOND := Lib.hid hcond
  have HR := Lib.hid hR
  clear hclone hord hcond hsp hml hR
  go_enter Tryz.func53, Tryz.ntmps53
  go_upto_region 3 with (fail)
  go_cut [6] (fun v wx => Cut3 p n (Zp.inv R) (els p xs) w v wx)
  case first =>
    go_region_held3 (fun w' => w'.cell? ⟨D, 0, none⟩ = some (.pointer (some ⟨b, 0, none⟩)) ∧ w'.cell? ⟨D, 3, none⟩ = some (vi (fv R)) ∧ w'.cell? ⟨b, 0, none⟩ = some (vi p)) (first | exact ⟨hd0, hd3, hcb⟩ | exact ⟨(hb1.cell (p := ⟨D, 0, none⟩) hDl).trans hd0, (hb1.cell (p := ⟨D, 3, none⟩) hDl).trans hd3, (hb1.cell (p := ⟨b, 0, none⟩) hbl).trans hcb⟩ | exact ⟨(hbel2.cell (p := ⟨D, 0, none⟩) hDl).trans hd0, (hbel2.cell (p := ⟨D, 3, none⟩) hDl).trans hd3, (hbel2.cell (p := ⟨b, 0, none⟩) hbl).trans hcb⟩) ((first | (go_at_call 46; refine (HCLONE.out _).mono ?_; rintro e w1 ⟨v1, rfl, hown1, hb1⟩) | (go_at_call 99; refine (inv_any p hp1 hp2 b _ (i64_fv _ hp2) _ (by first | exact hcb | exact (hb1.cell (p := ⟨b, 0, none⟩) hbl).trans hcb)).mono ?_; rintro e w' ⟨rfl, rfl⟩) | (go_at_call 98; refine (HSP.out _ w.heap.size _ xs _ HML.out hxs (i64_fv _ hp2) (by rw [el_fv, el_fv]; exact HCOND.out) ((hD.drewN _).below hb1 hDle) hown1 hb1.size).mono ?_; rintro e w2 ⟨v2, ys, rfl, hown2, hys, hysd, _, _, hb2⟩; have hbel2 : Below w.heap.size w w2 := ((below_drewN (Below.refl _ w) _).trans hb1).trans (hb2.mono hb1.size))))
    all_goals go_wp2_with fail
    all_goals go_meet
    all_goals (rw [el_fv, el_fv] at hysd; exact ⟨ys, hown2, hys, hysd, hbel2⟩)
  case rest =>
    obtain ⟨ys, hown2, hys, hysd, hb2⟩ := hcut
    have hysl : ys.length = n := by have := congrArg List.length hysd; rw [dft_length] at this; simpa using this
    obtain ⟨g, c, hv, hg1, hg2⟩ := hown2.block (by omega)
    rw [hysl] at hv
    subst hv
    obtain ⟨w2, hw2⟩ : ∃ W, W = wc := ⟨_, rfl⟩
    subst hw2
    have hD2 := hD.below hb2 hDle
    have hd0 := hD2.c0
    have hd1 := hD2.c1
    have hd2 := hD2.c2
    have hcb2 := hD2.fld.c0
    have hnI : I64 (n : Int) := ⟨by omega, by omega⟩
    have hDl2 : D < w2.heap.size := Nat.lt_of_lt_of_le hDl hb2.size
    have hbl2 : b < w2.heap.size := Nat.lt_of_lt_of_le hbl hb2.size
    have HYS := Lib.hid hysd
    have HYL := Lib.hid hysl
    clear hysd hysl hd3 hcb
    have hpw := fun k => powers_any p S D b n s (Zp.inv (el p (n : Int))) (Zp.inv (el p (fv s))) (w2.drewN k) (hD2.drewN k)
    have HPW := Lib.hid hpw
    clear hpw
    go_upto_region 4 with (fail)
    go_cut [49, 50, 51] (fun v ln c wx => Cut4 p n (Zp.inv (el p (n : Int))) (Zp.inv (el p (fv s))) w2 v ln c wx)
    case first =>
      go_region_held3 (fun w' => w'.cell? ⟨D, 0, none⟩ = some (.pointer (some ⟨b, 0, none⟩)) ∧ w'.cell? ⟨D, 1, none⟩ = some (vi n) ∧ w'.cell? ⟨D, 2, none⟩ = some (vi (fv s))) (first | exact ⟨hd0, hd1, hd2⟩ | exact ⟨(hb3.cell (p := ⟨D, 0, none⟩) hDl2).trans hd0, (hb3.cell (p := ⟨D, 1, none⟩) hDl2).trans hd1, (hb3.cell (p := ⟨D, 2, none⟩) hDl2).trans hd2⟩) ((first | (go_at_call 99; refine (inv_any p hp1 hp2 b _ (by first | exact hnI | exact i64_fv _ hp2) _ (by exact hcb2)).mono ?_; rintro e w' ⟨rfl, rfl⟩) | (go_at_call 100; refine (HPW.out _).mono ?_; rintro e w3 ⟨v3, rfl, hown3, hb3⟩; obtain ⟨g3, c3, hv3, hg3, _⟩ := hown3.block (by simp [powL_length]; omega); rw [List.length_map, powL_length] at hv3; subst hv3)))
      all_goals go_wp2_with fail
      all_goals go_meet
      all_goals exact ⟨g3, c3, rfl, rfl, rfl, hown3, hg3, (below_drewN (Below.refl _ w2) _).trans hb3⟩
    case rest =>
      obtain ⟨g3, c3, rfl, rfl, rfl, hown3, hg3, hb3⟩ := hcut
      have hlp : (fvs (powL (Zp.inv (el p (n : Int))) (Zp.inv (el p (fv s))) n)).length = n := by rw [List.length_map, powL_length]
      have HLP := Lib.hid hlp
      clear hlp
      have hoa := hown2.below hb3
      have hbw := hb2.trans (hb3.mono hb2.size)
      go_wp2_with fail
      go_loopw [51] (fun i wr => CoefRel p n (Zp.inv R) (Zp.inv (el p (n : Int))) (Zp.inv (el p (fv s))) (els p xs) w g c i wr ∧ Own wr w2.heap.size (.slice (some ⟨g3, 0, none⟩) n c3) (fvs (powL (Zp.inv (el p (n : Int))) (Zp.inv (el p (fv s))) n))) (fun i _ => n - (intOf i).toNat)
      case atStart => exact ⟨⟨0, ys, Nat.zero_le _, rfl, HYL.out, hoa, hys, fun j _ => by rw [HYS.out, if_neg (by omega)], hbw⟩, hown3⟩
      case round =>
        obtain ⟨⟨k, zs, hk, rfl, hzl, hoz, hzs, hzc, hbz⟩, hop⟩ := hrel
        have HZL := Lib.hid hzl
        have HZC := Lib.hid hzc
        clear hzl hzc
        have hDr := hD.below hbz hDle
        have hd0 := hDr.c0
        have hcb := hDr.fld.c0
        by_cases hkn : k < n
        · have hkz : k < zs.length := by rw [HZL.out]; exact hkn
          have hca := hoz.at_ HZL.out.symm k hkz
          have hfa := hoz.frozen_ HZL.out.symm k
          have hcp := hop.at_ HLP.out.symm k (by rw [HLP.out]; exact hkn)
          have iz := hzs _ (List.getElem_mem hkz)
          have e1 : (fvs (powL (Zp.inv (el p (n : Int))) (Zp.inv (el p (fv s))) n))[k]'(by rw [HLP.out]; exact hkn) = fv (Zp.inv (el p (n : Int)) * pw (Zp.inv (el p (fv s))) k) := by
            rw [List.getElem_map]; exact congrArg fv (tab_get _ _ _ _)
          rw [e1] at hcp
          have hzk : co (els p zs) k = el p zs[k] := by rw [co_of_lt (by simpa using hkz)]; simp
          obtain ⟨z, hz⟩ : ∃ z, z = zs[k] := ⟨_, rfl⟩
          rw [← hz] at hca iz hzk
          obtain ⟨X, hX⟩ : ∃ X, X = Zp.inv (el p (n : Int)) * pw (Zp.inv (el p (fv s))) k := ⟨_, rfl⟩
          rw [← hX] at hcp
          obtain ⟨Z, hZ⟩ : ∃ Z, Z = el p z * X := ⟨_, rfl⟩
          have hmul := fun W hc => mul_any p hp2 b z (fv X) iz (i64_fv _ hp2) W hc
          rw [el_fv, ← hZ] at hmul
          have hnext : ∀ j, j < n → co (els p (zs.set k (fv Z))) j = if j < k + 1 then co (dft (Zp.inv R) n (els p xs)) j * (Zp.inv (el p (n : Int)) * pw (Zp.inv (el p (fv s))) j) else co (dft (Zp.inv R) n (els p xs)) j := by
            intro j hj
            rw [els, List.map_set, el_fv, co_set _ _ _ (by simpa using hkz)]
            have h1 := HZC.out j hj
            by_cases he : j = k
            · subst he
              rw [if_neg (by omega)] at h1
              rw [if_pos rfl, if_pos (by omega), hZ, ← hzk, h1, hX]
            · rw [if_neg he, h1]
              by_cases hlt : j < k
              · rw [if_pos hlt, if_pos (by omega)]
              · rw [if_neg hlt, if_neg (by omega)]
          have hall : ∀ y ∈ zs.set k (fv Z), I64 y := by
            intro y hy
            rcases List.mem_or_eq_of_mem_set hy with h | h
            · exact hzs y h
            · rw [h]; exact i64_fv _ hp2
          have HMUL := Lib.hid hmul
          have HNEXT := Lib.hid hnext
          have HALL := Lib.hid hall
          have i1 : (0 : Int) ≤ k := by omega
          have i2 : (k : Int) < n := by omega
          have hmx : Tryz.prog.follows .mixedOrders = true := by kernel_rfl
          clear hmul hnext hall hZ hX hz hzk e1
          go_wp2
          refine wp_region_quiet_tail 13 hmx (by kernel_rfl) ?_
          simp only [List.take_succ_cons, List.take_zero, List.drop_succ_cons, List.drop_zero]
          repeat (quiet_step ((go_at_call 74; exact Calls.quiet_of (HMUL.out _ (by exact hcb)))))
          refine wpQuiet_nil ?_
          intro _ hw'
          obtain ⟨nq1, hw''⟩ := hw'
          subst hw''
          go_wp2
          go_roundw
          case rel =>
            refine ⟨⟨k + 1, zs.set k (fv Z), by omega, by go_num, by rw [List.length_set]; exact HZL.out, (hoz.drewN nq1).store HZL.out.symm k _, HALL.out, HNEXT.out, (below_drewN hbz nq1).setCell hg1 _⟩, (hop.drewN nq1).far (by simp only [Value.ownBlock, ne_eq, Option.some.injEq]; omega) _⟩
          case measure => simp [intOf]; omega
        · obtain rfl : k = n := by omega
          have hzz : els p zs = coefL s R k (els p xs) := by
            refine ext_co (by rw [coefL_length, List.length_map, HZL.out]) fun j hj => ?_
            rw [List.length_map, HZL.out] at hj
            rw [HZC.out j hj, if_pos hj, coefL, co_tab, if_pos hj, dft, co_tab, if_pos hj, el_fv]
          have hsz : SL wr (some ⟨g, 0, none⟩) zs := by
            obtain ⟨A1, c1, h1, h2⟩ := hoz.len
            injection h1 with h1 _ _
            rw [h1]; exact h2
          have hkc : k ≤ c := by
            obtain ⟨Ao, no, co_, hvo, _, hco_, _, _⟩ := hoz.shapeN
            injection hvo with _ hv1 hv2
            omega
          have ht := trim_any p hp2 b (some ⟨g, 0, none⟩) c zs hzs (by rw [HZL.out]; omega) (by rw [HZL.out]; omega) wr hcb hsz
          rw [HZL.out, hzz] at ht
          have HT := Lib.hid ht
          clear ht hzz
          go_wp2_with fail
          refine (HT.out).mono ?_
          rintro e w4 ⟨v4, rfl, hown4, hb4⟩
          go_wp2
          go_ret2
          exact ⟨v4, rfl, hown4.more hbz.size, hbz.trans (hb4.mono hbz.size)⟩
/-- is a list a codeword? A Bool behind a name -/
noncomputable def cwB (p n : Nat) [NeZero p] (s : Fin p) (k : Int) (xs : List Int) : Bool := decide ((1 ≤ k ∧ k ≤ n) ∧ xs.length = n ∧ ((trimL (coefL s (rootI p n) n (els p xs))).length : Int) ≤ k)
set_option maxHeartbeats 1000000 in
theorem is_any (p S D b : Nat) [NeZero p] (n : Nat) (s : Fin p) (k : Int) (A : Option Addr) (m cap : Nat) (xs : List Int) (hml : xs.length = m) (hxs : ∀ x ∈ xs, I64 x) (w : World) (hD : Dom w S D b p n s) (hs : SL w A xs) :
    Calls Tryz.prog 49 #[.pointer (some ⟨D, 0, none⟩), vi k, .slice A m cap] w fun e w' => SaysW (.bool (cwB p n s k xs)) w e w' := by
  have hmay := may_any D n k w hD.c1
  by_cases h1 : 1 ≤ k ∧ k ≤ n
  · rw [mayB_true h1] at hmay
    have HMAY := Lib.hid hmay
    by_cases h2 : m = n
    · have hc := coefs_any p S D b n s A cap xs (by rw [hml, h2]) hxs w hD hs
      rw [← h2] at hc
      obtain ⟨B, hB⟩ : ∃ B, B = cwB p n s k xs := ⟨_, rfl⟩
      have hBe : B = decide (((trimL (coefL s (rootI p n) n (els p xs))).length : Int) ≤ k) := by
        rw [hB]; unfold cwB; rw [decide_eq_decide]
        exact ⟨fun h => h.2.2, fun h => ⟨h1, by rw [hml, h2], h⟩⟩
      rw [← hB]
      obtain ⟨l, hl⟩ : ∃ l, l = trimL (coefL s (rootI p m) m (els p xs)) := ⟨_, rfl⟩
      rw [← hl] at hc
      rw [← h2, ← hl] at hBe
      have HC := Lib.hid hc
      have HBE := Lib.hid hBe
      clear hc hmay hB hBe hl h1 h2 hml
      go_enter Tryz.func49, Tryz.ntmps49
      go_wp2_with fail
      refine (HMAY.out).mono ?_
      rintro e w' ⟨rfl, rfl⟩
      go_wp2_with fail
      refine (HC.out).mono ?_
      rintro e w1 ⟨v, rfl, hown, hb⟩
      obtain ⟨A1, n1, c1, rfl, hl1, _, _, _⟩ := hown.shapeN
      rw [List.length_map] at hl1
      have hfin : B = decide ((n1 : Int) ≤ k) := by rw [HBE.out, hl1]
      have HFIN := Lib.hid hfin
      clear hfin hl1
      by_cases h3 : (n1 : Int) ≤ k
      · have hf : B = true := by rw [HFIN.out]; exact decide_eq_true h3
        have HF := Lib.hid hf
        clear hf
        go_wp2
        go_ret
        exact ⟨ret_bool HF.out.symm, hb⟩
      · have hf : B = false := by rw [HFIN.out]; exact decide_eq_false h3
        have t3 : decide ((n1 : Int) ≤ k) = false := decide_eq_false h3
        have HF := Lib.hid hf
        clear hf
        go_wp2
        go_ret
        exact ⟨ret_bool HF.out.symm, hb⟩
    · have hc := coefs_bad D n A m cap h2 w hD.c1
      have hB : cwB p n s k xs = false := decide_eq_false (fun h => h2 (by rw [← hml]; exact h.2.1))
      have HC := Lib.hid hc
      have HB := Lib.hid hB
      clear hc hmay hB h1 h2 hml
      go_enter Tryz.func49, Tryz.ntmps49
      go_wp2_with fail
      refine (HMAY.out).mono ?_
      rintro e w' ⟨rfl, rfl⟩
      go_wp2_with fail
      refine (HC.out).mono ?_
      rintro e w' ⟨rfl, rfl⟩
      go_wp2
      go_ret
      exact ⟨ret_bool HB.out.symm, Below.refl _ _⟩
  · rw [mayB_false h1] at hmay
    have hB : cwB p n s k xs = false := decide_eq_false (fun h => h1 h.1)
    have HMAY := Lib.hid hmay
    have HB := Lib.hid hB
    clear hmay hB h1 hml
    go_enter Tryz.func49, Tryz.ntmps49
    go_wp2_with fail
    refine (HMAY.out).mono ?_
    rintro e w' ⟨rfl, rfl⟩
    go_wp2
    go_ret
    exact ⟨ret_bool HB.out.symm, Below.refl _ _⟩
end Go.Proofs.YtflkiddmakeabaaGreatDoor

/- The walk of the law DomainBack. -/
set_option linter.unusedVariables false
namespace Go.Proofs.YtflkiddmakeabaaGreatDoor
open Go.RowKit Zp

/-- is there a domain? -/
def HasDom2 (p size t : Int) : Prop := HasField p ∧ ∃ n : Nat, size = n ∧ SizeOk p.toNat n ∧ ¬ t % p = 0
theorem ints_sameH (A B : Option Addr) (n c m d : Nat) (xs ys : List Int) (hnx : xs.length = n) (hmy : ys.length = m) (he : xs = ys) (hn : n ≤ 9223372036854775807) (w : World) (hsx : SL w A xs) (hsy : SL w B ys) :
    Calls Tryz.prog 10 #[.slice A n c, .slice B m d] w fun e w' => e = .returned (.bool true) ∧ ∃ k, w' = w.drewN k := by
  subst hnx hmy
  have h := ints_any A B c d xs ys hn (by rw [← he]; exact hn) w hsx hsy
  rw [eqB_true he] at h
  exact h

end Go.Proofs.YtflkiddmakeabaaGreatDoor

/- Walk: same.Spoil. -/
set_option linter.unusedVariables false
namespace Go.Proofs.YtflkiddmakeabaaGreatDoor
open Go.RowKit Zp

end Go.Proofs.YtflkiddmakeabaaGreatDoor

/- Walks of the reference's Points and Values. -/
set_option linter.unusedVariables false
namespace Go.Proofs.YtflkiddmakeabaaGreatDoor
open Go.RowKit Zp

/-- a reference's domain lies at a block -/
structure RD (w : World) (B q n : Nat) (s r : Int) : Prop where
  c0 : w.cell? ⟨B, 0, none⟩ = some (vi q)
  c1 : w.cell? ⟨B, 1, none⟩ = some (vi n)
  c2 : w.cell? ⟨B, 2, none⟩ = some (vi s)
  c3 : w.cell? ⟨B, 3, none⟩ = some (vi r)
theorem RD.new (w : World) (t : TypeId) (q n : Nat) (s r : Int) : RD (w.alloc (.cells #[vi q, vi n, vi s, vi r] t)) w.heap.size q n s r := by
  have h := Blk.new w t #[vi q, vi n, vi s, vi r]
  exact ⟨(h.cell 0).trans rfl, (h.cell 1).trans rfl, (h.cell 2).trans rfl, (h.cell 3).trans rfl⟩
theorem RD.below {w w' : World} {B q n : Nat} {s r : Int} (h : RD w B q n s r) {X : Nat} (hb : Below X w w') (hB : B < X) : RD w' B q n s r :=
  ⟨(hb.cell (p := ⟨B, 0, none⟩) hB).trans h.c0, (hb.cell (p := ⟨B, 1, none⟩) hB).trans h.c1, (hb.cell (p := ⟨B, 2, none⟩) hB).trans h.c2, (hb.cell (p := ⟨B, 3, none⟩) hB).trans h.c3⟩
theorem made_boxed {w w0 w' : World} {xs : List Int} {e : Ending} (hb : Below w.heap.size w w0) (h : Made xs w0 e w') : Made xs w e w' := by
  obtain ⟨v, h1, h2, h3⟩ := h
  exact ⟨v, h1, h2.more hb.size, hb.trans (h3.mono hb.size)⟩
end Go.Proofs.YtflkiddmakeabaaGreatDoor

/- Walks: same.Spoil; Domain.Points; the reference's Half. -/
set_option linter.unusedVariables false
namespace Go.Proofs.YtflkiddmakeabaaGreatDoor
open Go.RowKit Zp



set_option maxHeartbeats 1000000 in
theorem rhalf_any (q : Nat) [NeZero q] (hqm : q ≤ 2147483647) (n h : Nat) (hn : n = 2 * h) (hn2 : n ≤ 65536) (s r : Fin q) (w : World) :
    Calls Tryz.prog 63 #[RDom q n (fv s) (fv r)] w fun e w' => GivesV (RDom q h (fv (s * s)) (fv (r * r))) w e w' := by
  have h1 := fun w => rmul_any q hqm (fv s) (fv s) (i64_fv _ hqm) (i64_fv _ hqm) w
  have h2 := fun w => rmul_any q hqm (fv r) (fv r) (i64_fv _ hqm) (i64_fv _ hqm) w
  simp only [el_fv] at h1 h2
  have t2 : (n : Int).tdiv 2 = (h : Int) := by rw [Int.tdiv_eq_ediv_of_nonneg (by omega)]; omega
  have t3 : (n : Int) / 2 = (h : Int) := by omega
  generalize fv (s * s) = S at h1 ⊢
  generalize fv (r * r) = R at h2 ⊢
  have H1 := Lib.hid h1
  have H2 := Lib.hid h2
  clear h1 h2 hn
  go_enter Tryz.func63, Tryz.ntmps63
  go_wp2_with fail
  refine (H1.out _).mono ?_
  rintro e w' ⟨rfl, rfl⟩
  go_wp2_with fail
  refine (H2.out _).mono ?_
  rintro e w' ⟨rfl, rfl⟩
  go_wp2
  exact bodyPost_ret (v := RDom q h S R) (by simp [results, Tryz.results63, go_sem]) rfl ⟨rfl, ((Below.refl _ _).alloc (Nat.le_refl _) _).alloc (by simp) _⟩
end Go.Proofs.YtflkiddmakeabaaGreatDoor
