/- A bundle of texts: Rt, Ro, Dom, Qd, Deg, Trim, Mul, Spread, Ints, Vals, Lv2. -/
import Derived.Test.YtkhkoeibigpdnaaDoorB01
import Derived.Test.YtkhkoeibigpdnaaDoorB00
import Derived.IntWalk
import Derived.Deep.RegionHeld3
import Derived.Deep.QuietTactic
import Derived.BigQuiet
import Derived.Outline
import Derived.WalkLawsBesides
import Derived.WalkSpells
/- The walk of the field's Root. -/
set_option linter.unusedVariables false
namespace Go.Proofs.YtkhkoeibigpdnaaDoor
open Go.RowKit Zp

theorem genN_lt {p : Nat} [NeZero p] (hp : IsPrime p) : genN p < p := (genN_is hp).2.1

set_option maxHeartbeats 1000000 in
theorem root_any (p : Nat) [NeZero p] (S b : Nat) (n : Int) (hn : I64 n) (w : World) (F : Fld w S b p) :
    Calls Tryd.prog 105 #[.pointer (some ⟨b, 0, none⟩), vi n] w fun e w' => e = .returned (vi (fv (rootI p n))) ∧ ∃ k, w' = w.drewN k := by
  have hc0 := F.c0
  have hc2 := F.c2
  have hp1 := F.two
  have hp2 := F.max
  have hg := genN_lt F.prime
  obtain ⟨hn1, hn2⟩ := hn
  obtain ⟨g, hgg⟩ : ∃ g, g = genN p := ⟨_, rfl⟩
  rw [← hgg] at hc2 hg
  have HG := Lib.hid hgg
  clear hgg F
  by_cases h0 : n ≤ 0
  · have hr := rootI_no (p := p) (n := n) (by omega)
    have HR := Lib.hid hr
    clear hr
    go_enter Tryd.func105, Tryd.ntmps105
    go_wp2
    go_ret
    exact ⟨ret_int (by rw [HR.out, fv_zero]), 0, rfl⟩
  · have hnz : ¬ n = 0 := by omega
    have hp0 : (0 : Int) ≤ (p : Int) - 1 := by omega
    have et : ((p : Int) - 1).tmod n = ((p : Int) - 1) % n := Int.tmod_eq_emod_of_nonneg hp0
    have eq_ : ((p : Int) - 1).tdiv n = ((p : Int) - 1) / n := Int.tdiv_eq_ediv_of_nonneg hp0
    by_cases hd : ((p : Int) - 1) % n = 0
    · have t1 : (((p : Int) - 1) % n != 0) = false := by rw [hd]; rfl
      have hr : rootI p n = pw (el p (g : Int)) (((p : Int) - 1) / n).toNat := by rw [rootI, if_pos ⟨by omega, hd⟩, HG.out]
      have HR := Lib.hid hr
      have d1 : 0 ≤ ((p : Int) - 1) / n := Int.ediv_nonneg hp0 (by omega)
      have d2 : ((p : Int) - 1) / n ≤ (p : Int) - 1 := Int.ediv_le_self _ hp0
      have hdI : I64 (((p : Int) - 1) / n) := ⟨by omega, by omega⟩
      have hgI : I64 (g : Int) := ⟨by omega, by omega⟩
      have HD := Lib.hid hd
      have d3 : IntKind.i64.wrap (((p : Int) - 1).tdiv n) = ((p : Int) - 1) / n := by rw [eq_]; exact IntWalk.i64_in _ hdI
      clear hd hr
      go_enter Tryd.func105, Tryd.ntmps105
      go_wp2
      go_quiet ((go_at_call 107; exact quiet_eq (power_any p hp1 hp2 b g _ hgI hdI d1 _ (by exact hc0))))
      go_wp2
      go_ret
      exact ⟨ret_int (by rw [HR.out]), _, rfl⟩
    · have t1 : (((p : Int) - 1) % n != 0) = true := by rw [bne_iff_ne]; exact hd
      have hr := rootI_no (p := p) (n := n) (by rintro ⟨_, h⟩; exact hd h)
      have HR := Lib.hid hr
      clear hr hd eq_
      go_enter Tryd.func105, Tryd.ntmps105
      go_wp2
      go_ret
      exact ⟨ret_int (by rw [HR.out, fv_zero]), 0, rfl⟩
end Go.Proofs.YtkhkoeibigpdnaaDoor

/- Walks: the reference's Order, Generator, Root. -/
set_option linter.unusedVariables false
namespace Go.Proofs.YtkhkoeibigpdnaaDoor
open Go.RowKit Zp

theorem rpow_fv (p : Nat) [NeZero p] (hp1 : 2 ≤ p) (hp2 : p ≤ 2147483647) (X : Fin p) (k : Nat) (hk : (k : Int) ≤ 9223372036854775807) (w : World) :
    Calls Tryd.prog 126 #[vi p, vi (fv X), vi k] w fun e w' => e = .returned (vi (fv (pw X k))) ∧ w = w' := by
  have h := rpow_nn p hp1 hp2 (fv X) k (i64_fv _ hp2) (by constructor <;> omega) (by omega) w
  rw [el_fv, Int.natAbs_natCast] at h
  exact h
theorem sq_lt {i p : Nat} (h : i * i ≤ p - 1) (hp : p ≤ 2147483647) : i ≤ 46340 := by
  rcases Nat.lt_or_ge 46340 i with hlt | hge
  · have := Nat.mul_le_mul (show 46341 ≤ i from hlt) (show 46341 ≤ i from hlt); omega
  · exact hge
def OrdRel {p : Nat} [NeZero p] (X : Fin p) (b i : Value) : Prop := ∃ (I B : Nat), 1 ≤ I ∧ I ≤ 46341 ∧ b = vi B ∧ i = vi I ∧ BestQ (Tried p I) X B
theorem fv1 {p : Nat} [NeZero p] (hp1 : 2 ≤ p) {x : Fin p} (h : x = 1) : (fv x == 1) = true := by rw [beq_iff_eq, fv_eq_one hp1]; exact h
theorem fv1n {p : Nat} [NeZero p] (hp1 : 2 ≤ p) {x : Fin p} (h : ¬ x = 1) : (fv x == 1) = false := by rw [beq_eq_false_iff_ne]; intro h2; exact h ((fv_eq_one hp1).1 h2)
set_option maxRecDepth 100000 in
set_option maxHeartbeats 4000000 in
theorem rorder_any (p : Nat) [NeZero p] (hp : IsPrime p) (hp1 : 2 ≤ p) (hp2 : p ≤ 2147483647) (m : Int) (hm : I64 m) (w : World) :
    Calls Tryd.prog 141 #[vi p, vi m] w fun e w' => e = .returned (vi ((ordN (el p m) : Nat) : Int)) ∧ w = w' := by
  have hof := rof_any p hp2 m hm
  generalize el p m = X at hof ⊢
  have HOF := Lib.hid hof
  clear hof
  by_cases hx : X = 0
  · have t1 : (fv X == 0) = true := by rw [hx]; rfl
    have ho : ((ordN X : Nat) : Int) = 0 := by rw [hx, ordN_zero hp]; rfl
    have HO := Lib.hid ho
    clear hx ho hp
    go_enter Tryd.func141, Tryd.ntmps141
    go_wp2_with fail
    refine (HOF.out _).mono ?_
    rintro e w' ⟨rfl, rfl⟩
    go_wp2
    go_ret
    exact ⟨ret_int HO.out.symm, rfl⟩
  · have t1 : (fv X == 0) = false := by rw [beq_eq_false_iff_ne]; exact fun h => hx (fv_eq_zero.1 h)
    have HX := Lib.hid hx
    have HP := Lib.hid hp
    clear hx hp
    go_enter Tryd.func141, Tryd.ntmps141
    go_wp2_with fail
    refine (HOF.out _).mono ?_
    rintro e w' ⟨rfl, rfl⟩
    go_wp2
    go_loop [5, 6, 7, 8] (fun b i _ _ => OrdRel X b i) (fun _ i _ _ => 46342 - (intOf i).toNat)
    case atStart => exact ⟨1, p - 1, Nat.le_refl _, by omega, by congr 1; omega, rfl, BestQ.start HP.out HX.out⟩
    case round =>
      obtain ⟨I, B, hI, hI2, rfl, rfl, hB⟩ := hrel
      have HB := Lib.hid hB
      clear hB
      have ec : (I : Int) * I = ((I * I : Nat) : Int) := by rw [Int.natCast_mul]
      by_cases hii : I * I ≤ p - 1
      · have hIl := sq_lt hii hp2
        have q1 : (I : Int) * I ≤ (p : Int) - 1 := by rw [ec]; omega
        have q0 : (0 : Int) ≤ (I : Int) * I := by rw [ec]; omega
        obtain ⟨r, hr⟩ : ∃ r, r = (p - 1) % I := ⟨_, rfl⟩
        obtain ⟨k, hk⟩ : ∃ k, k = (p - 1) / I := ⟨_, rfl⟩
        have ep : (p : Int) - 1 = ((p - 1 : Nat) : Int) := by omega
        have hkp : k ≤ p - 1 := by rw [hk]; exact Nat.div_le_self _ _
        have e1 : ((p : Int) - 1).tmod I = (r : Int) := by rw [ep, Int.tmod_eq_emod_of_nonneg (by omega), hr]; omega
        have e2 : ((p : Int) - 1) % I = (r : Int) := by rw [ep, hr]; omega
        have e3 : ((p : Int) - 1).tdiv I = (k : Int) := by rw [ep, Int.tdiv_eq_ediv_of_nonneg (by omega), hk]; omega
        have e4 : ((p : Int) - 1) / I = (k : Int) := by rw [ep, hk]; omega
        have hdv : r = 0 ↔ I ∣ p - 1 := by rw [hr]; exact (Nat.dvd_iff_mod_eq_zero).symm
        have hkd : I ∣ p - 1 → k ∣ p - 1 := fun h => by rw [hk]; exact Nat.div_dvd_of_dvd h
        have hk1 : I ∣ p - 1 → 1 ≤ k := fun h => by rw [hk]; exact Nat.div_pos (Nat.le_of_dvd (by omega) h) (by omega)
        have HK := Lib.hid hk
        have HKD := Lib.hid hkd
        have HK1 := Lib.hid hk1
        have h0I : ((I : Int) == 0) = false := by rw [beq_eq_false_iff_ne]; omega
        clear ep hr hk hkd hk1 ec hii
        by_cases hr0 : r = 0
        · have hd := hdv.1 hr0
          have t2 : ((r : Int) != 0) = false := by rw [hr0]; rfl
          have hp1' := fun w => rpow_fv p hp1 hp2 X I (by omega) w
          have hp2' := fun w => rpow_fv p hp1 hp2 X k (by omega) w
          obtain ⟨Z, hZ⟩ : ∃ Z, Z = pw X I := ⟨_, rfl⟩
          obtain ⟨Y, hY⟩ : ∃ Y, Y = pw X k := ⟨_, rfl⟩
          rw [← hZ] at hp1'
          rw [← hY] at hp2'
          have HP1 := Lib.hid hp1'
          have HP2 := Lib.hid hp2'
          have HZ := Lib.hid hZ
          have HY := Lib.hid hY
          have HD := Lib.hid hd
          clear hp1' hp2' hZ hY hdv hd hr0
          by_cases hz : Z = 1
          · have a1 : (fv Z == 1) = true := fv1 hp1 hz
            have HZN := Lib.hid hz
            clear hz
            by_cases hi2 : I < B
            · have M1 := Lib.hid (HB.out.hit (i := I) (R := fun j => Tried p I j ∨ j = I) hI HD.out (HZ.out.symm.trans HZN.out) hi2 (fun j _ h => h))
              by_cases hy : Y = 1
              · have a2 : (fv Y == 1) = true := fv1 hp1 hy
                have HYN := Lib.hid hy
                clear hy
                by_cases hk2 : k < I
                · have M2 := Lib.hid (M1.out.hit (i := k) (R := Tried p (I + 1)) (HK1.out HD.out) (HKD.out HD.out) (HY.out.symm.trans HYN.out) hk2 (fun j hj h => by rcases tried_pair hp1 HD.out hj h with h | h; exact .inl h; exact .inr (h.trans HK.out.symm)))
                  clear M1
                  go_wp2_with fail
                  refine (HP1.out _).mono ?_
                  rintro e w' ⟨rfl, rfl⟩
                  go_wp2_with fail
                  refine (HP2.out _).mono ?_
                  rintro e w' ⟨rfl, rfl⟩
                  go_wp2
                  go_round
                  case rel => exact ⟨I + 1, k, by omega, by omega, rfl, by go_num, M2.out⟩
                  case measure => simp [intOf]; omega
                · have M2 := Lib.hid (M1.out.miss (i := k) (R := Tried p (I + 1)) (fun _ => hk2) (fun j hj h => by rcases tried_pair hp1 HD.out hj h with h | h; exact .inl h; exact .inr (h.trans HK.out.symm)))
                  clear M1
                  go_wp2_with fail
                  refine (HP1.out _).mono ?_
                  rintro e w' ⟨rfl, rfl⟩
                  go_wp2_with fail
                  refine (HP2.out _).mono ?_
                  rintro e w' ⟨rfl, rfl⟩
                  go_wp2
                  go_round
                  case rel => exact ⟨I + 1, I, by omega, by omega, rfl, by go_num, M2.out⟩
                  case measure => simp [intOf]; omega
              · have a2 : (fv Y == 1) = false := fv1n hp1 hy
                have HYN := Lib.hid hy
                clear hy
                have M2 := Lib.hid (M1.out.miss (i := k) (R := Tried p (I + 1)) (fun h => absurd (HY.out.trans h) HYN.out) (fun j hj h => by rcases tried_pair hp1 HD.out hj h with h | h; exact .inl h; exact .inr (h.trans HK.out.symm)))
                clear M1
                go_wp2_with fail
                refine (HP1.out _).mono ?_
                rintro e w' ⟨rfl, rfl⟩
                go_wp2_with fail
                refine (HP2.out _).mono ?_
                rintro e w' ⟨rfl, rfl⟩
                go_wp2
                go_round
                case rel => exact ⟨I + 1, I, by omega, by omega, rfl, by go_num, M2.out⟩
                case measure => simp [intOf]; omega
            · have M1 := Lib.hid (HB.out.miss (i := I) (R := fun j => Tried p I j ∨ j = I) (fun _ => hi2) (fun j _ h => h))
              by_cases hy : Y = 1
              · have a2 : (fv Y == 1) = true := fv1 hp1 hy
                have HYN := Lib.hid hy
                clear hy
                by_cases hk2 : k < B
                · have M2 := Lib.hid (M1.out.hit (i := k) (R := Tried p (I + 1)) (HK1.out HD.out) (HKD.out HD.out) (HY.out.symm.trans HYN.out) hk2 (fun j hj h => by rcases tried_pair hp1 HD.out hj h with h | h; exact .inl h; exact .inr (h.trans HK.out.symm)))
                  clear M1
                  go_wp2_with fail
                  refine (HP1.out _).mono ?_
                  rintro e w' ⟨rfl, rfl⟩
                  go_wp2_with fail
                  refine (HP2.out _).mono ?_
                  rintro e w' ⟨rfl, rfl⟩
                  go_wp2
                  go_round
                  case rel => exact ⟨I + 1, k, by omega, by omega, rfl, by go_num, M2.out⟩
                  case measure => simp [intOf]; omega
                · have M2 := Lib.hid (M1.out.miss (i := k) (R := Tried p (I + 1)) (fun _ => hk2) (fun j hj h => by rcases tried_pair hp1 HD.out hj h with h | h; exact .inl h; exact .inr (h.trans HK.out.symm)))
                  clear M1
                  go_wp2_with fail
                  refine (HP1.out _).mono ?_
                  rintro e w' ⟨rfl, rfl⟩
                  go_wp2_with fail
                  refine (HP2.out _).mono ?_
                  rintro e w' ⟨rfl, rfl⟩
                  go_wp2
                  go_round
                  case rel => exact ⟨I + 1, B, by omega, by omega, rfl, by go_num, M2.out⟩
                  case measure => simp [intOf]; omega
              · have a2 : (fv Y == 1) = false := fv1n hp1 hy
                have HYN := Lib.hid hy
                clear hy
                have M2 := Lib.hid (M1.out.miss (i := k) (R := Tried p (I + 1)) (fun h => absurd (HY.out.trans h) HYN.out) (fun j hj h => by rcases tried_pair hp1 HD.out hj h with h | h; exact .inl h; exact .inr (h.trans HK.out.symm)))
                clear M1
                go_wp2_with fail
                refine (HP1.out _).mono ?_
                rintro e w' ⟨rfl, rfl⟩
                go_wp2_with fail
                refine (HP2.out _).mono ?_
                rintro e w' ⟨rfl, rfl⟩
                go_wp2
                go_round
                case rel => exact ⟨I + 1, B, by omega, by omega, rfl, by go_num, M2.out⟩
                case measure => simp [intOf]; omega
          · have a1 : (fv Z == 1) = false := fv1n hp1 hz
            have HZN := Lib.hid hz
            clear hz
            have M1 := Lib.hid (HB.out.miss (i := I) (R := fun j => Tried p I j ∨ j = I) (fun h => absurd (HZ.out.trans h) HZN.out) (fun j _ h => h))
            by_cases hy : Y = 1
            · have a2 : (fv Y == 1) = true := fv1 hp1 hy
              have HYN := Lib.hid hy
              clear hy
              by_cases hk2 : k < B
              · have M2 := Lib.hid (M1.out.hit (i := k) (R := Tried p (I + 1)) (HK1.out HD.out) (HKD.out HD.out) (HY.out.symm.trans HYN.out) hk2 (fun j hj h => by rcases tried_pair hp1 HD.out hj h with h | h; exact .inl h; exact .inr (h.trans HK.out.symm)))
                clear M1
                go_wp2_with fail
                refine (HP1.out _).mono ?_
                rintro e w' ⟨rfl, rfl⟩
                go_wp2_with fail
                refine (HP2.out _).mono ?_
                rintro e w' ⟨rfl, rfl⟩
                go_wp2
                go_round
                case rel => exact ⟨I + 1, k, by omega, by omega, rfl, by go_num, M2.out⟩
                case measure => simp [intOf]; omega
              · have M2 := Lib.hid (M1.out.miss (i := k) (R := Tried p (I + 1)) (fun _ => hk2) (fun j hj h => by rcases tried_pair hp1 HD.out hj h with h | h; exact .inl h; exact .inr (h.trans HK.out.symm)))
                clear M1
                go_wp2_with fail
                refine (HP1.out _).mono ?_
                rintro e w' ⟨rfl, rfl⟩
                go_wp2_with fail
                refine (HP2.out _).mono ?_
                rintro e w' ⟨rfl, rfl⟩
                go_wp2
                go_round
                case rel => exact ⟨I + 1, B, by omega, by omega, rfl, by go_num, M2.out⟩
                case measure => simp [intOf]; omega
            · have a2 : (fv Y == 1) = false := fv1n hp1 hy
              have HYN := Lib.hid hy
              clear hy
              have M2 := Lib.hid (M1.out.miss (i := k) (R := Tried p (I + 1)) (fun h => absurd (HY.out.trans h) HYN.out) (fun j hj h => by rcases tried_pair hp1 HD.out hj h with h | h; exact .inl h; exact .inr (h.trans HK.out.symm)))
              clear M1
              go_wp2_with fail
              refine (HP1.out _).mono ?_
              rintro e w' ⟨rfl, rfl⟩
              go_wp2_with fail
              refine (HP2.out _).mono ?_
              rintro e w' ⟨rfl, rfl⟩
              go_wp2
              go_round
              case rel => exact ⟨I + 1, B, by omega, by omega, rfl, by go_num, M2.out⟩
              case measure => simp [intOf]; omega
        · have t2 : ((r : Int) != 0) = true := by rw [bne_iff_ne]; omega
          have hs := HB.out.skip hp1 (fun h => hr0 (hdv.2 h))
          have HS := Lib.hid hs
          clear hs hdv hr0
          go_wp2
          go_round
          case rel => exact ⟨I + 1, B, by omega, by omega, rfl, by go_num, HS.out⟩
          case measure => simp [intOf]; omega
      · have q1 : (p : Int) - 1 < (I : Int) * I := by rw [ec]; omega
        have hI4 : I * I ≤ 46341 * 46341 := Nat.mul_le_mul hI2 hI2
        have q2 : (I : Int) * I ≤ 2147488281 := by rw [ec]; omega
        have q0 : (0 : Int) ≤ (I : Int) * I := by rw [ec]; omega
        have hb := HB.out.done HP.out HX.out (by omega)
        have HBB := Lib.hid hb
        clear ec hii hb hI4
        go_wp2
        go_ret
        exact ⟨ret_int (by rw [HBB.out]), rfl⟩

set_option maxHeartbeats 1000000 in
theorem rgen_any (p : Nat) [NeZero p] (hp : IsPrime p) (hp1 : 3 ≤ p) (hp2 : p ≤ 2147483647) (w : World) :
    Calls Tryd.prog 125 #[vi p] w fun e w' => e = .returned (vi ((genN p : Nat) : Int)) ∧ w = w' := by
  obtain ⟨G, hG⟩ : ∃ G, G = genN p := ⟨_, rfl⟩
  have hg := genN_is hp
  rw [← hG] at hg ⊢
  obtain ⟨g1, g2, g3⟩ := hg.ord_iff hp
  have HP := Lib.hid hp
  have H2 := Lib.hid g3
  clear hG hg hp g3
  go_enter Tryd.func125, Tryd.ntmps125
  go_wp2
  go_loop [3, 4] (fun i _ => ∃ k : Nat, 1 ≤ k ∧ k ≤ G ∧ i = vi k) (fun i _ => G + 1 - (intOf i).toNat)
  case atStart => exact ⟨1, Nat.le_refl _, g1, rfl⟩
  case round =>
    obtain ⟨k, hk1, hk2, rfl⟩ := hrel
    have ho := fun w => rorder_any p HP.out (by omega) hp2 k (by constructor <;> omega) w
    have hor := H2.out k hk1 hk2
    generalize ordN (el p (k : Int)) = O at ho hor
    have HO := Lib.hid ho
    clear ho
    by_cases hkG : k = G
    · have hO : O = p - 1 := hor.2 hkG
      have t1 : ((O : Int) == (p : Int) - 1) = true := by rw [beq_iff_eq]; omega
      obtain rfl := hkG
      clear hO hor
      go_wp2_with fail
      refine (HO.out _).mono ?_
      rintro e w' ⟨rfl, rfl⟩
      go_wp2
      go_ret
      exact ⟨rfl, rfl⟩
    · have t1 : ((O : Int) == (p : Int) - 1) = false := by
        rw [beq_eq_false_iff_ne]; intro h; exact hkG (hor.1 (by omega))
      clear hor
      go_wp2_with fail
      refine (HO.out _).mono ?_
      rintro e w' ⟨rfl, rfl⟩
      go_wp2
      go_round
      case rel => exact ⟨k + 1, by omega, by omega, by go_num⟩
      case measure => simp [intOf]; omega

set_option maxHeartbeats 400000 in
theorem rroot_any (p : Nat) [NeZero p] (hp : IsPrime p) (hp1 : 3 ≤ p) (hp2 : p ≤ 2147483647) (n : Int) (hn : I64 n) (w : World) :
    Calls Tryd.prog 106 #[vi p, vi n] w fun e w' => e = .returned (vi (fv (rootI p n))) ∧ w = w' := by
  have hg := genN_lt hp
  obtain ⟨hn1, hn2⟩ := hn
  have hgen := rgen_any p hp hp1 hp2 w
  obtain ⟨g, hgg⟩ : ∃ g, g = genN p := ⟨_, rfl⟩
  rw [← hgg] at hg hgen
  have HG := Lib.hid hgg
  have HGEN := Lib.hid hgen
  clear hgg hgen hp
  by_cases h0 : n < 1
  · have hr := rootI_no (p := p) (n := n) (by omega)
    have HR := Lib.hid hr
    clear hr
    go_enter Tryd.func106, Tryd.ntmps106
    go_wp2
    go_ret
    exact ⟨ret_int (by rw [HR.out, fv_zero]), rfl⟩
  · have hnz : ¬ n = 0 := by omega
    have hp0 : (0 : Int) ≤ (p : Int) - 1 := by omega
    have et : ((p : Int) - 1).tmod n = ((p : Int) - 1) % n := Int.tmod_eq_emod_of_nonneg hp0
    have eq_ : ((p : Int) - 1).tdiv n = ((p : Int) - 1) / n := Int.tdiv_eq_ediv_of_nonneg hp0
    by_cases hd : ((p : Int) - 1) % n = 0
    · have t1 : (((p : Int) - 1) % n != 0) = false := by rw [hd]; rfl
      have hr : rootI p n = pw (el p (g : Int)) (((p : Int) - 1) / n).toNat := by rw [rootI, if_pos ⟨by omega, hd⟩, HG.out]
      have d1 : 0 ≤ ((p : Int) - 1) / n := Int.ediv_nonneg hp0 (by omega)
      have d2 : ((p : Int) - 1) / n ≤ (p : Int) - 1 := Int.ediv_le_self _ hp0
      have hdI : I64 (((p : Int) - 1) / n) := ⟨by omega, by omega⟩
      have hgI : I64 (g : Int) := ⟨by omega, by omega⟩
      have hpw := rpow_nn p (by omega) hp2 g (((p : Int) - 1) / n) hgI hdI d1 w
      rw [show (((p : Int) - 1) / n).natAbs = (((p : Int) - 1) / n).toNat by omega, ← hr] at hpw
      have HPW := Lib.hid hpw
      have d3 : IntKind.i64.wrap (((p : Int) - 1) / n) = ((p : Int) - 1) / n := IntWalk.i64_in _ hdI
      clear hd hr hpw
      go_enter Tryd.func106, Tryd.ntmps106
      go_wp2_with fail
      refine (HGEN.out).mono ?_
      rintro e w' ⟨rfl, rfl⟩
      go_wp2_with fail
      refine (HPW.out).mono ?_
      rintro e w' ⟨rfl, rfl⟩
      go_wp2
      go_ret
      exact ⟨rfl, rfl⟩
    · have t1 : (((p : Int) - 1) % n != 0) = true := by rw [bne_iff_ne]; exact hd
      have hr := rootI_no (p := p) (n := n) (by rintro ⟨_, h⟩; exact hd h)
      have HR := Lib.hid hr
      clear hr hd eq_
      go_enter Tryd.func106, Tryd.ntmps106
      go_wp2
      go_ret
      exact ⟨ret_int (by rw [HR.out, fv_zero]), rfl⟩
end Go.Proofs.YtkhkoeibigpdnaaDoor

/- Walks: Root, domain.New, Size, Field; a domain in memory. -/
set_option linter.unusedVariables false
namespace Go.Proofs.YtkhkoeibigpdnaaDoor
open Go.RowKit Zp


/-- a size that may be -/
def SizeOk (p n : Nat) : Prop := (∃ k, k ≤ 16 ∧ n = 2 ^ k) ∧ n ∣ p - 1
theorem SizeOk.pos {p n : Nat} (h : SizeOk p n) : 0 < n := by
  obtain ⟨⟨k, _, rfl⟩, _⟩ := h
  exact Nat.pow_pos (by omega)
theorem SizeOk.le {p n : Nat} (h : SizeOk p n) : n ≤ 65536 := by
  obtain ⟨⟨k, hk, rfl⟩, _⟩ := h
  exact Nat.pow_le_pow_right (n := 2) (by omega) hk
theorem sizeOk_of {p n : Nat} (h1 : 1 ≤ n) (h2 : n ≤ 65536) (h3 : (n &&& (n - 1)) = 0) (h4 : n ∣ p - 1) : SizeOk p n := by
  obtain ⟨k, rfl⟩ := (two_pow_iff n h1).1 h3
  refine ⟨⟨k, ?_, rfl⟩, h4⟩
  false_or_by_contra
  rename_i hk
  have : 2 ^ 17 ≤ 2 ^ k := Nat.pow_le_pow_right (by omega) (by omega)
  omega
theorem SizeOk.and {p n : Nat} (h : SizeOk p n) : (n &&& (n - 1)) = 0 := (two_pow_iff n h.pos).2 (let ⟨⟨k, _, e⟩, _⟩ := h; ⟨k, e⟩)

/-- the domain of n points that begins with s lies at block D, its field at b, all of it below block S -/
structure Dom (w : World) (S D b p : Nat) [NeZero p] (n : Nat) (s : Fin p) : Prop where
  fld : Fld w S b p
  lt : D < S
  c0 : w.cell? ⟨D, 0, none⟩ = some (.pointer (some ⟨b, 0, none⟩))
  c1 : w.cell? ⟨D, 1, none⟩ = some (vi n)
  c2 : w.cell? ⟨D, 2, none⟩ = some (vi (fv s))
  c3 : w.cell? ⟨D, 3, none⟩ = some (vi (fv (rootI p n)))
  s0 : s ≠ 0
  size : SizeOk p n
section
variable {w w' : World} {S D b p n : Nat} [NeZero p] {s : Fin p}
theorem Dom.keep (h : Dom w S D b p n s) (hk : ∀ q : Addr, q.block < S → w'.cell? q = w.cell? q) (hs : w.heap.size ≤ w'.heap.size) : Dom w' S D b p n s :=
  ⟨h.fld.keep hk hs, h.lt, (hk _ h.lt).trans h.c0, (hk _ h.lt).trans h.c1, (hk _ h.lt).trans h.c2, (hk _ h.lt).trans h.c3, h.s0, h.size⟩
theorem Dom.below (h : Dom w S D b p n s) {B : Nat} (hb : Below B w w') (hS : S ≤ B) : Dom w' S D b p n s := h.keep (fun q hq => hb.cell (by omega)) hb.size
theorem Dom.drewN (h : Dom w S D b p n s) (k : Nat) : Dom (w.drewN k) S D b p n s := h.keep (fun _ _ => rfl) (Nat.le_refl _)
theorem Dom.alloc (h : Dom w S D b p n s) (o : Obj) : Dom (w.alloc o) S D b p n s := h.keep (fun q hq => World.cell?_alloc_lt w o q (by have := h.fld.le; omega)) (by simp)
theorem Dom.le (h : Dom w S D b p n s) : S ≤ w.heap.size := h.fld.le
end

abbrev NoDom (k : Int) : Ending := .returned (.tuple #[.pointer none, .iface 107 (.int .i64 k)])

theorem dnew_size1 (b : Nat) (n t : Int) (h : n < 1 ∨ 65536 < n) (w : World) : Calls Tryd.prog 65 #[.pointer (some ⟨b, 0, none⟩), vi n, vi t] w fun e w' => e = NoDom 2 ∧ w = w' := by
  by_cases h1 : n < 1
  · clear h
    go_enter Tryd.func65, Tryd.ntmps65
    go_wp2
    go_ret2
    exact ⟨rfl, rfl⟩
  · have h2 : 65536 < n := by omega
    clear h
    go_enter Tryd.func65, Tryd.ntmps65
    go_wp2
    go_ret2
    exact ⟨rfl, rfl⟩

theorem and_pred (n : Nat) (h1 : 1 ≤ n) (h2 : n ≤ 65536) : bits .and .i64 (n : Int) ((n : Int) - 1) = ((n &&& (n - 1) : Nat) : Int) := by
  have e : (n : Int) - 1 = ((n - 1 : Nat) : Int) := by omega
  rw [e]
  exact i64_and_nat n (n - 1) (by omega) (by omega)

theorem dnew_size2 (p b : Nat) (n : Nat) (t : Int) (h1 : 1 ≤ n) (h2 : n ≤ 65536) (hp1 : 2 ≤ p) (hp2 : p ≤ 2147483647) (h : ¬ SizeOk p n) (w : World) (hc : w.cell? ⟨b, 0, none⟩ = some (vi p)) :
    Calls Tryd.prog 65 #[.pointer (some ⟨b, 0, none⟩), vi n, vi t] w fun e w' => e = NoDom 2 ∧ w = w' := by
  have ha := and_pred n h1 h2
  by_cases h3 : (n &&& (n - 1)) = 0
  · have hd : ¬ n ∣ p - 1 := fun hd => h (sizeOk_of h1 h2 h3 hd)
    have t1 : (bits .and .i64 (n : Int) ((n : Int) - 1) != 0) = false := by rw [ha, h3]; rfl
    have e1 : ((p : Int) - 1) = ((p - 1 : Nat) : Int) := by omega
    have t2 : (((p : Int) - 1) % (n : Int) != 0) = true := by
      rw [bne_iff_ne, e1, ← Int.natCast_emod]
      intro h0
      exact hd (Nat.dvd_of_mod_eq_zero (by omega))
    clear h ha h3 hd e1
    go_enter Tryd.func65, Tryd.ntmps65
    go_wp2_with fail
    refine (p_any p b _ hc).mono ?_
    rintro e w' ⟨rfl, rfl⟩
    go_wp2
    go_ret2
    exact ⟨rfl, rfl⟩
  · have t1 : (bits .and .i64 (n : Int) ((n : Int) - 1) != 0) = true := by rw [ha, bne_iff_ne]; omega
    clear h ha h3
    go_enter Tryd.func65, Tryd.ntmps65
    go_wp2
    go_ret2
    exact ⟨rfl, rfl⟩

/-- the test on the size is met -/
structure SizeTests (p n : Nat) : Prop where
  t1 : (bits .and .i64 (n : Int) ((n : Int) - 1) != 0) = false
  t2 : (((p : Int) - 1) % (n : Int) != 0) = false
  h1 : 1 ≤ n
  h2 : n ≤ 65536
theorem sizeTests {p n : Nat} (hp1 : 2 ≤ p) (h : SizeOk p n) : SizeTests p n := by
  have h1 := h.pos
  have h2 := h.le
  refine ⟨by rw [and_pred n h1 h2, h.and]; rfl, ?_, h1, h2⟩
  have e1 : ((p : Int) - 1) = ((p - 1 : Nat) : Int) := by omega
  rw [e1, ← Int.natCast_emod, Nat.mod_eq_zero_of_dvd h.2]; rfl

theorem dnew_shift (p b : Nat) [NeZero p] (n : Nat) (t : Int) (ht : I64 t) (hp1 : 2 ≤ p) (hp2 : p ≤ 2147483647) (h : SizeOk p n) (h0 : el p t = 0) (w : World) (hc : w.cell? ⟨b, 0, none⟩ = some (vi p)) :
    Calls Tryd.prog 65 #[.pointer (some ⟨b, 0, none⟩), vi n, vi t] w fun e w' => e = NoDom 3 ∧ w = w' := by
  obtain ⟨t1, t2, h1, h2⟩ := sizeTests hp1 h
  have t3 : (fv (el p t) == 0) = true := by rw [h0]; rfl
  clear h h0
  go_enter Tryd.func65, Tryd.ntmps65
  go_wp2_with fail
  refine (p_any p b _ hc).mono ?_
  rintro e w' ⟨rfl, rfl⟩
  go_wp2_with fail
  refine (of_el p hp2 b t ht _ hc).mono ?_
  rintro e w' ⟨rfl, rfl⟩
  go_wp2
  go_ret2
  exact ⟨rfl, rfl⟩

/-- what New answers of a size and a shift that may be -/
def MadeDom (p b n : Nat) [NeZero p] (t : Int) (w : World) (e : Ending) (w' : World) : Prop :=
  ∃ D : Nat, e = .returned (.tuple #[.pointer (some ⟨D, 0, none⟩), .nilIface]) ∧ Dom w' w'.heap.size D b p n (el p t) ∧ Below w.heap.size w w' ∧ w.heap.size ≤ D

set_option maxHeartbeats 1000000 in
theorem dnew_ok (p S b : Nat) [NeZero p] (n : Nat) (t : Int) (ht : I64 t) (h : SizeOk p n) (h0 : el p t ≠ 0) (w : World) (F : Fld w S b p) :
    Calls Tryd.prog 65 #[.pointer (some ⟨b, 0, none⟩), vi n, vi t] w fun e w' => MadeDom p b n t w e w' := by
  have hp1 := F.two
  have hp2 := F.max
  have hc := F.c0
  obtain ⟨t1, t2, h1, h2⟩ := sizeTests hp1 h
  have t3 : (fv (el p t) == 0) = false := by rw [beq_eq_false_iff_ne]; exact fun e => h0 (fv_eq_zero.1 e)
  have hn : I64 (n : Int) := ⟨by omega, by omega⟩
  have H := Lib.hid h
  have H0 := Lib.hid h0
  clear h h0
  go_enter Tryd.func65, Tryd.ntmps65
  go_wp2_with fail
  refine (p_any p b _ hc).mono ?_
  rintro e w' ⟨rfl, rfl⟩
  go_wp2_with fail
  refine (of_el p hp2 b t ht _ hc).mono ?_
  rintro e w' ⟨rfl, rfl⟩
  go_wp2_with fail
  refine (of_el p hp2 b t ht _ hc).mono ?_
  rintro e w' ⟨rfl, rfl⟩
  go_wp2_with fail
  refine (root_any p S b n hn _ F).mono ?_
  rintro e w' ⟨rfl, k, rfl⟩
  go_wp2
  go_ret2
  have hB := Blk.new (w'.drewN k) 104 #[.pointer (some ⟨b, 0, none⟩), vi n, vi (fv (el p t)), vi (fv (rootI p n))]
  have F' := (F.drewN k).alloc (.cells #[.pointer (some ⟨b, 0, none⟩), vi n, vi (fv (el p t)), vi (fv (rootI p n))] 104)
  have hle := F.le
  refine ⟨_, rfl, ⟨⟨F'.prime, F'.three, F'.max, by simp; have := F.lt; omega, Nat.le_refl _, F'.c0, ?_, F'.c2⟩, by simp, (hB.cell 0).trans rfl, (hB.cell 1).trans rfl, (hB.cell 2).trans rfl, (hB.cell 3).trans rfl, H0.out, H.out⟩, (below_drewN (Below.refl _ _) k).alloc (Nat.le_refl _) _, Nat.le_refl _⟩
  obtain ⟨A, c, fs, f1, f2, f3, f4⟩ := F'.c1
  exact ⟨A, c, fs, f1, f2, f3, f4.more (by simp; omega)⟩

theorem size_any (D n : Nat) (w : World) (hc : w.cell? ⟨D, 1, none⟩ = some (vi n)) :
    Calls Tryd.prog 22 #[.pointer (some ⟨D, 0, none⟩)] w fun e w' => e = .returned (vi n) ∧ w = w' := by
  go_enter Tryd.func22, Tryd.ntmps22
  go_wp2
  go_ret
  exact ⟨rfl, rfl⟩
theorem dfield_any (D b : Nat) (w : World) (hc : w.cell? ⟨D, 0, none⟩ = some (.pointer (some ⟨b, 0, none⟩))) :
    Calls Tryd.prog 23 #[.pointer (some ⟨D, 0, none⟩)] w fun e w' => e = .returned (.pointer (some ⟨b, 0, none⟩)) ∧ w = w' := by
  go_enter Tryd.func23, Tryd.ntmps23
  go_wp2
  go_ret
  exact ⟨rfl, rfl⟩
end Go.Proofs.YtkhkoeibigpdnaaDoor

/- Walks of the reference's domains: Fault, New; law2.made. -/
set_option linter.unusedVariables false
namespace Go.Proofs.YtkhkoeibigpdnaaDoor
open Go.RowKit Zp

/-- the fault of a domain by its number -/
noncomputable def faultI (q : Nat) (size t : Int) : Int := open Classical in if ∃ n : Nat, size = n ∧ SizeOk q n then (if t % (q : Int) = 0 then 3 else 0) else 2
theorem faultI_size {q : Nat} {size t : Int} (h : ¬ ∃ n : Nat, size = n ∧ SizeOk q n) : faultI q size t = 2 := by unfold faultI; rw [if_neg h]
theorem faultI_shift {q n : Nat} {t : Int} (h : SizeOk q n) (h0 : t % (q : Int) = 0) : faultI q n t = 3 := by unfold faultI; rw [if_pos ⟨n, rfl, h⟩, if_pos h0]
theorem faultI_ok {q n : Nat} {t : Int} (h : SizeOk q n) (h0 : ¬ t % (q : Int) = 0) : faultI q n t = 0 := by unfold faultI; rw [if_pos ⟨n, rfl, h⟩, if_neg h0]

def TwoRel (size : Int) (a b : Value) : Prop := ∃ (j N : Nat) (B : Bool), j ≤ 17 ∧ N = 2 ^ j ∧ a = .bool B ∧ b = vi N ∧ (B = true ↔ ∃ i, i < j ∧ size = ((2 ^ i : Nat) : Int))
set_option maxRecDepth 100000 in
set_option maxHeartbeats 2000000 in
theorem rfault_any (q : Nat) [NeZero q] (hq2 : 2 ≤ q) (hqm : q ≤ 2147483647) (size t : Int) (hs : I64 size) (ht : I64 t) (w : World) :
    Calls Tryd.prog 66 #[vi q, vi size, vi t] w fun e w' => e = .returned (vi (faultI q size t)) ∧ w = w' := by
  obtain ⟨F, hF⟩ : ∃ F, F = faultI q size t := ⟨_, rfl⟩
  rw [← hF]
  have HF := Lib.hid hF
  clear hF
  go_enter Tryd.func66, Tryd.ntmps66
  go_wp2
  go_loop [7, 8] (fun a b => TwoRel size a b) (fun _ b => 131073 - (intOf b).toNat)
  case atStart => exact ⟨0, 1, false, by omega, rfl, rfl, rfl, by simp⟩
  case round =>
    obtain ⟨j, N, tw, hj, hN, rfl, rfl, htw⟩ := hrel
    have HTW := Lib.hid htw
    clear htw
    by_cases hj16 : j ≤ 16
    · have hN2 : N ≤ 65536 := by rw [hN]; exact Nat.pow_le_pow_right (n := 2) (by omega) hj16
      have hN1 : 1 ≤ N := by rw [hN]; exact Nat.pow_pos (by omega)
      have hN3 : N * 2 = 2 ^ (j + 1) := by rw [hN, Nat.pow_succ]
      have HN3 := Lib.hid hN3
      have hiff : ∀ B : Bool, (B = true ↔ (tw = true ∨ (N : Int) = size)) → (B = true ↔ ∃ i, i < j + 1 ∧ size = ((2 ^ i : Nat) : Int)) := fun B hB => by
        rw [hB, HTW.out]
        constructor
        · rintro (⟨i, h1, h2⟩ | h1)
          · exact ⟨i, by omega, h2⟩
          · exact ⟨j, by omega, by rw [← hN]; exact h1.symm⟩
        · rintro ⟨i, h1, h2⟩
          by_cases hij : i = j
          · exact .inr (by rw [h2, hij, hN])
          · exact .inl ⟨i, by omega, h2⟩
      have HI := Lib.hid hiff
      clear hiff hN hN3
      cases tw with
      | true =>
        go_wp2
        go_round
        case rel => exact ⟨j + 1, N * 2, true, by omega, HN3.out, rfl, by go_num, HI.out true (by simp)⟩
        case measure => (simp [intOf] <;> omega)
      | false =>
        by_cases he : (N : Int) = size
        · have t1 : ((N : Int) == size) = true := by rw [beq_iff_eq]; exact he
          have HE := Lib.hid he
          clear he
          go_wp2
          go_round
          case rel => exact ⟨j + 1, N * 2, true, by omega, HN3.out, rfl, by go_num, HI.out true (by simp [HE.out])⟩
          case measure => (simp [intOf] <;> omega)
        · have t1 : ((N : Int) == size) = false := by rw [beq_eq_false_iff_ne]; exact he
          have HE := Lib.hid he
          clear he
          go_wp2
          go_round
          case rel => exact ⟨j + 1, N * 2, false, by omega, HN3.out, rfl, by go_num, HI.out false (by simp [HE.out])⟩
          case measure => (simp [intOf] <;> omega)
    · obtain rfl : j = 17 := by omega
      have hN17 : N = 131072 := by rw [hN]
      clear hN
      subst hN17
      cases tw with
      | false =>
        have hf : F = 2 := by
          rw [HF.out]
          refine faultI_size fun ⟨n, h1, ⟨⟨k, hk, h2⟩, _⟩⟩ => ?_
          have := HTW.out.2 ⟨k, by omega, by rw [h1, h2]⟩
          cases this
        have HF2 := Lib.hid hf
        clear hf
        go_wp2
        go_ret
        exact ⟨ret_int HF2.out.symm, rfl⟩
      | true =>
        have hex := HTW.out.1 rfl
        have hpos : ∃ n k : Nat, size = n ∧ n = 2 ^ k ∧ k ≤ 16 := by
          obtain ⟨i, h1, h2⟩ := hex
          exact ⟨_, i, h2, rfl, by omega⟩
        clear hex
        obtain ⟨n, k, rfl, hnk, hk⟩ := hpos
        have hn1 : 1 ≤ n := by rw [hnk]; exact Nat.pow_pos (by omega)
        have hn2 : n ≤ 65536 := by rw [hnk]; exact Nat.pow_le_pow_right (n := 2) (by omega) hk
        obtain ⟨r, hr⟩ : ∃ r, r = (q - 1) % n := ⟨_, rfl⟩
        have ep : (q : Int) - 1 = ((q - 1 : Nat) : Int) := by omega
        have e1 : ((q : Int) - 1).tmod n = (r : Int) := by rw [ep, Int.tmod_eq_emod_of_nonneg (by omega), hr]; omega
        have e2 : ((q : Int) - 1) % n = (r : Int) := by rw [ep, hr]; omega
        clear ep
        by_cases hr0 : r = 0
        · have hok : SizeOk q n := ⟨⟨k, hk, hnk⟩, Nat.dvd_of_mod_eq_zero (by omega)⟩
          have t1 : ((r : Int) != 0) = false := by rw [hr0]; rfl
          have hof := fun W => rof_any q hqm t ht W
          by_cases h0 : el q t = 0
          · have hf : F = 3 := by rw [HF.out]; exact faultI_shift hok (el_eq_zero.1 h0)
            have t2 : (fv (el q t) == 0) = true := by rw [h0]; rfl
            have HF2 := Lib.hid hf
            have HOF := Lib.hid hof
            clear hf hof hok hnk hr hr0 h0
            go_wp2_with fail
            refine (HOF.out _).mono ?_
            rintro e w' ⟨rfl, rfl⟩
            go_wp2
            go_ret
            exact ⟨ret_int HF2.out.symm, rfl⟩
          · have hf : F = 0 := by rw [HF.out]; exact faultI_ok hok (fun h => h0 (el_eq_zero.2 h))
            have t2 : (fv (el q t) == 0) = false := by rw [beq_eq_false_iff_ne]; exact fun h => h0 (fv_eq_zero.1 h)
            have HF2 := Lib.hid hf
            have HOF := Lib.hid hof
            clear hf hof hok hnk hr hr0 h0
            go_wp2_with fail
            refine (HOF.out _).mono ?_
            rintro e w' ⟨rfl, rfl⟩
            go_wp2
            go_ret
            exact ⟨ret_int HF2.out.symm, rfl⟩
        · have hf : F = 2 := by
            rw [HF.out]
            refine faultI_size fun ⟨m, h1, _, h2⟩ => ?_
            obtain rfl : n = m := by omega
            have := Nat.mod_eq_zero_of_dvd h2
            omega
          have t1 : ((r : Int) != 0) = true := by rw [bne_iff_ne]; omega
          have HF2 := Lib.hid hf
          clear hf hnk hr hr0
          go_wp2
          go_ret
          exact ⟨ret_int HF2.out.symm, rfl⟩

/-- a reference's domain -/
abbrev RDom (q n : Nat) (s r : Int) : Value := .agg #[vi q, vi n, vi s, vi r]

def GivesV (v : Value) (w : World) (e : Ending) (w' : World) : Prop := e = .returned v ∧ Below w.heap.size w w'
set_option maxHeartbeats 1000000 in
theorem rnew_any (q : Nat) [NeZero q] (hpr : IsPrime q) (h3 : 3 ≤ q) (hqm : q ≤ 2147483647) (n : Nat) (hn : n ≤ 65536) (t : Int) (ht : I64 t) (w : World) :
    Calls Tryd.prog 67 #[vi q, vi n, vi t] w fun e w' => GivesV (RDom q n (fv (el q t)) (fv (rootI q n))) w e w' := by
  have HR := Lib.hid (fun w => rroot_any q hpr h3 hqm n (by constructor <;> omega) w)
  have HO := Lib.hid (fun w => rof_any q hqm t ht w)
  generalize fv (rootI q n) = R at HR ⊢
  generalize fv (el q t) = T at HO ⊢
  clear hpr
  go_enter Tryd.func67, Tryd.ntmps67
  go_wp2_with fail
  refine (HR.out _).mono ?_
  rintro e w' ⟨rfl, rfl⟩
  go_wp2_with fail
  refine (HO.out _).mono ?_
  rintro e w' ⟨rfl, rfl⟩
  go_wp2
  exact bodyPost_ret (v := RDom q n T R) (by simp [results, Tryd.results67, go_sem]) rfl ⟨rfl, (Below.refl _ _).alloc (Nat.le_refl _) _⟩
end Go.Proofs.YtkhkoeibigpdnaaDoor

/- Walks of poly.Degree and of the reference's Degree. -/
set_option linter.unusedVariables false
namespace Go.Proofs.YtkhkoeibigpdnaaDoor
open Go.RowKit Zp

/-- what the loop from the end knows: from place n on all is 0 -/
def ZeroFrom (p : Nat) [NeZero p] (xs : List Int) (n : Nat) : Prop := ∀ i, n ≤ i → co (els p xs) i = 0
theorem ZeroFrom.start (p : Nat) [NeZero p] (xs : List Int) : ZeroFrom p xs xs.length := fun i hi => co_of_ge (by simpa using hi)
theorem ZeroFrom.next {p : Nat} [NeZero p] {xs : List Int} {n : Nat} (h : ZeroFrom p xs (n + 1)) (h0 : co (els p xs) n = 0) : ZeroFrom p xs n := fun i hi => by
  by_cases he : i = n
  · rw [he]; exact h0
  · exact h i (by omega)
theorem ZeroFrom.done {p : Nat} [NeZero p] {xs : List Int} {n : Nat} (h : ZeroFrom p xs n) (hn : n = 0 ∨ co (els p xs) (n - 1) ≠ 0) : degL (els p xs) = (n : Int) - 1 := by
  unfold degL
  rw [(trimAt_iff_co.2 ⟨h, hn⟩).length]

def DegRel (p : Nat) [NeZero p] (xs : List Int) (i : Value) : Prop := ∃ k : Nat, k ≤ xs.length ∧ i = vi ((k : Int) - 1) ∧ ZeroFrom p xs k
set_option maxHeartbeats 1000000 in
theorem degree_any (p : Nat) [NeZero p] (hp2 : p ≤ 2147483647) (b : Nat) (A : Option Addr) (cap : Nat) (xs : List Int) (hxs : ∀ n ∈ xs, I64 n) (hreach : xs.length * 8 ≤ 281474976710656) (w : World) (hc : w.cell? ⟨b, 0, none⟩ = some (vi p)) (hs : SL w A xs) :
    Calls Tryd.prog 81 #[.pointer (some ⟨b, 0, none⟩), .slice A xs.length cap] w fun e w' => e = .returned (vi (degL (els p xs))) ∧ w = w' := by
  obtain ⟨len, hlen⟩ : ∃ len, len = xs.length := ⟨_, rfl⟩
  rw [← hlen]
  rw [← hlen] at hreach
  have HL := Lib.hid hlen
  clear hlen
  go_enter Tryd.func81, Tryd.ntmps81
  go_wp2
  go_loop [5] (fun i => DegRel p xs i) (fun i => (intOf i + 1).toNat)
  case atStart => exact ⟨len, by rw [HL.out]; exact Nat.le_refl _, rfl, by rw [HL.out]; exact ZeroFrom.start p xs⟩
  case round =>
    obtain ⟨k, hk, rfl, hz⟩ := hrel
    rw [← HL.out] at hk
    have HZ := Lib.hid hz
    clear hz
    by_cases h0 : k = 0
    · subst h0
      have t1 : decide ((0 : Int) ≤ (((0 : Nat) : Int) - 1)) = false := by simp
      go_wp2
      go_ret
      exact ⟨ret_int (HZ.out.done (.inl rfl)).symm, rfl⟩
    · have i0 : (0 : Int) ≤ (k : Int) - 1 := by omega
      have i1 : (1 : Int) ≤ (k : Int) := by omega
      have i2 : ((k : Int) - 1).toNat = k - 1 := by omega
      have hkx : k - 1 < xs.length := by rw [← HL.out]; omega
      obtain ⟨ad, rfl, hab, hcell⟩ := hs.at_ hkx
      have hI := hxs _ (List.getElem_mem hkx)
      have hco : co (els p xs) (k - 1) = el p xs[k - 1] := by rw [co_of_lt (by simpa using hkx)]; simp
      obtain ⟨x, hx⟩ : ∃ x, x = xs[k - 1] := ⟨_, rfl⟩
      rw [← hx] at hI hcell hco
      have hcell' : w.cell? (ad.add ((k : Int) - 1).toNat) = some (vi x) := by rw [i2]; exact hcell
      have HC := Lib.hid hco
      clear hx hco i2
      by_cases hx0 : el p x = 0
      · have t1 : (fv (el p x) == 0) = true := by rw [hx0]; rfl
        have hz2 : ZeroFrom p xs (k - 1) := ZeroFrom.next (by rw [show k - 1 + 1 = k from by omega]; exact HZ.out) (by rw [HC.out]; exact hx0)
        have HZ2 := Lib.hid hz2
        clear hz2 hx0
        go_wp2_with (go_at_call 63; refine (of_el p hp2 b x hI _ hc).mono ?_; rintro e w' ⟨rfl, rfl⟩)
        go_round
        case rel => exact ⟨k - 1, by rw [← HL.out]; omega, by congr 1; omega, HZ2.out⟩
        case measure => simp [intOf]; omega
      · have t1 : (fv (el p x) == 0) = false := by rw [beq_eq_false_iff_ne]; exact fun h => hx0 (fv_eq_zero.1 h)
        have hd := HZ.out.done (.inr (by rw [HC.out]; exact hx0))
        have HD := Lib.hid hd
        clear hd hx0
        go_wp2_with (go_at_call 63; refine (of_el p hp2 b x hI _ hc).mono ?_; rintro e w' ⟨rfl, rfl⟩)
        go_ret
        exact ⟨ret_int HD.out.symm, rfl⟩
end Go.Proofs.YtkhkoeibigpdnaaDoor

/- The walk of poly.Trim. -/
set_option linter.unusedVariables false
namespace Go.Proofs.YtkhkoeibigpdnaaDoor
open Go.RowKit Zp

def TrimRel (p : Nat) [NeZero p] (xs : List Int) (n : Nat) (w : World) (v i : Value) (wr : World) : Prop := ∃ k g : Nat, k ≤ n ∧ i = vi k ∧ v = .slice (some ⟨g, 0, none⟩) k n ∧ Own wr w.heap.size v ((fvs (trimL (els p xs))).take k) ∧ Below w.heap.size w wr

set_option maxRecDepth 100000 in
set_option maxHeartbeats 1000000 in
theorem trim_any (p : Nat) [NeZero p] (hp2 : p ≤ 2147483647) (b : Nat) (A : Option Addr) (cap : Nat) (xs : List Int) (hxs : ∀ n ∈ xs, I64 n) (hreach : xs.length * 8 ≤ 281474976710656) (hcap : xs.length ≤ cap) (w : World) (hc : w.cell? ⟨b, 0, none⟩ = some (vi p)) (hs : SL w A xs) :
    Calls Tryd.prog 79 #[.pointer (some ⟨b, 0, none⟩), .slice A xs.length cap] w fun e w' => Made (fvs (trimL (els p xs))) w e w' := by
  have hbl : b < w.heap.size := block_lt_of_cell hc
  have hdeg := degree_any p hp2 b A cap xs hxs hreach w hc hs
  obtain ⟨n, hn⟩ : ∃ n, n = (trimL (els p xs)).length := ⟨_, rfl⟩
  have hnl : n ≤ xs.length := by rw [hn]; have := trimL_length_le (els p xs); simpa using this
  have hd : degL (els p xs) = (n : Int) - 1 := by unfold degL; rw [hn]
  rw [hd] at hdeg
  have HDEG := Lib.hid hdeg
  have hmk := make_ints0 n (by omega)
  have HN := Lib.hid hn
  clear hn hd hdeg
  obtain ⟨len, hlen⟩ : ∃ len, len = xs.length := ⟨_, rfl⟩
  rw [← hlen] at hreach hnl HDEG hcap
  rw [← hlen]
  have HL := Lib.hid hlen
  clear hlen
  go_enter Tryd.func79, Tryd.ntmps79
  go_wp2_with fail
  refine (HDEG.out).mono ?_
  rintro e w' ⟨rfl, rfl⟩
  go_wp2
  go_loopw [6, 8, 19] (fun v _ i wr => TrimRel p xs n w v i wr) (fun _ _ i _ => n - (intOf i).toNat)
  case atStart => exact ⟨0, w.heap.size, Nat.zero_le _, rfl, rfl, own_made0 w _ n (Nat.le_refl _) (by omega), (Below.refl _ _).alloc (Nat.le_refl _) _⟩
  case round =>
    obtain ⟨k, g, hk, rfl, rfl, hown, hb⟩ := hrel
    by_cases hlt : k < n
    · have hkx : k < xs.length := by rw [← HL.out]; omega
      have hcr : wr.cell? ⟨b, 0, none⟩ = some (vi p) := (hb.cell (p := ⟨b, 0, none⟩) hbl).trans hc
      obtain ⟨ad, rfl, hab, hcell⟩ := (hs.below hb).at_ hkx
      have hI := hxs _ (List.getElem_mem hkx)
      obtain ⟨x, hx⟩ : ∃ x, x = xs[k] := ⟨_, rfl⟩
      rw [← hx] at hI hcell
      have htl : k < (trimL (els p xs)).length := by rw [← HN.out]; exact hlt
      have h2 := map_take_succ fv (trimL (els p xs)) k htl
      have h3 : (trimL (els p xs))[k] = el p x := by
        rw [← co_of_lt htl, co_trim, co_of_lt (by simpa using hkx), List.getElem_map, hx]
      rw [h3] at h2
      have H2 := Lib.hid h2
      have hll : ((fvs (trimL (els p xs))).take k).length = k := by rw [List.length_take, List.length_map]; omega
      have HLL := Lib.hid hll
      clear hx h2 h3 hll
      go_wp2_with (first | (go_at_call 63; refine (of_el p hp2 b x hI _ hcr).mono ?_; rintro e w' ⟨rfl, rfl⟩) | (at_builtin; refine wpList_app1_fits w' (fv (el p x)) rfl _ _ rfl w.heap.size g k n _ rfl rfl hown HLL.out.symm hlt ?_; intro w1 hown1 hg))
      go_roundw
      case rel => exact ⟨k + 1, g, by omega, by go_num, rfl, by rw [← H2.out]; exact hown1, hb.grown hg hb.size (fun j hj => by injection hj with hj; subst hj; exact (hown.lt g rfl).1)⟩
      case measure => simp [intOf]; omega
    · obtain rfl : k = n := by omega
      go_wp2
      go_ret
      rw [List.take_of_length_le (by simp; rw [HN.out]; exact Nat.le_refl _)] at hown
      exact ⟨_, rfl, hown, hb⟩
end Go.Proofs.YtkhkoeibigpdnaaDoor

/- The walk of poly.Mul. -/
set_option linter.unusedVariables false
namespace Go.Proofs.YtkhkoeibigpdnaaDoor
open Go.RowKit Zp

/-- one's own slice of elements, its block known -/
def OwnE {p : Nat} (wr : World) (base g n : Nat) (L : List (Fin p)) : Prop := L.length = n ∧ Own wr base (.slice (some ⟨g, 0, none⟩) n n) (fvs L)
theorem OwnE.at_ {p : Nat} [NeZero p] {wr : World} {base g n : Nat} {L : List (Fin p)} (h : OwnE wr base g n L) (j : Nat) (hj : j < n) : wr.cell? ⟨g, j, none⟩ = some (vi (fv (co L j))) := by
  have hl := h.1
  have := Own.at_ h.2 (by simp [hl]) j (by simp [hl]; omega)
  rw [this, co_of_lt (by omega), List.getElem_map]
theorem OwnE.frozen {p : Nat} {wr : World} {base g n : Nat} {L : List (Fin p)} (h : OwnE wr base g n L) (j : Nat) : wr.frozen? ⟨g, j, none⟩ = false := Own.frozen_ h.2 (by simp [h.1]) j
theorem OwnE.store {p : Nat} {wr : World} {base g n : Nat} {L : List (Fin p)} (h : OwnE wr base g n L) (j : Nat) (x : Fin p) : OwnE (wr.setCell ⟨g, j, none⟩ (vi (fv x))) base g n (L.set j x) := by
  refine ⟨by simp [h.1], ?_⟩
  have := Own.store h.2 (by simp [h.1]) j (fv x)
  rwa [← List.map_set] at this
theorem OwnE.made {p : Nat} [NeZero p] (w : World) (base n : Nat) (hb : base ≤ w.heap.size) (hc : n * 8 ≤ 281474976710656) : OwnE (p := p) (w.alloc (.cells (zeros n) 3)) base w.heap.size n (List.replicate n 0) := by
  refine ⟨by simp, ?_⟩
  have := own_made w base n hb hc
  rwa [show List.replicate n (0 : Int) = fvs (List.replicate n (0 : Fin p)) from by simp [fv_zero]] at this
theorem OwnE.lt {p : Nat} {wr : World} {base g n : Nat} {L : List (Fin p)} (h : OwnE wr base g n L) : base ≤ g ∧ g < wr.heap.size := h.2.lt g rfl
theorem OwnE.sl {p : Nat} {wr : World} {base g n : Nat} {L : List (Fin p)} (h : OwnE wr base g n L) : SL wr (some ⟨g, 0, none⟩) (fvs L) := by
  obtain ⟨A, c, h1, h2⟩ := h.2.len
  injection h1 with h1 _ _
  rw [h1]; exact h2
theorem co_set {p : Nat} [NeZero p] (L : List (Fin p)) (j : Nat) (x : Fin p) (hj : j < L.length) (m : Nat) : co (L.set j x) m = if m = j then x else co L m := by
  unfold co
  rw [List.getElem?_set]
  by_cases h : m = j
  · subst h; rw [if_pos rfl, if_pos rfl, if_pos hj]; rfl
  · rw [if_neg (fun e => h e.symm), if_neg h]
theorem co_replicate {p : Nat} [NeZero p] (n m : Nat) : co (List.replicate n (0 : Fin p)) m = 0 := by
  unfold co
  rw [List.getElem?_replicate]
  split <;> rfl

theorem i64_fvs {p : Nat} (L : List (Fin p)) (hp2 : p ≤ 2147483647) : ∀ n ∈ fvs L, I64 n := by
  intro n hn
  obtain ⟨x, _, rfl⟩ := List.mem_map.1 hn
  exact i64_fv x hp2

theorem mac_fv {p : Nat} (o x y : Fin p) : (fv o + fv x * fv y) % (p : Int) = fv (o + x * y) := by
  rw [fv_add, fv_mul, Int.add_emod_emod]

def MulOut {p : Nat} [NeZero p] (a b : List (Fin p)) (w : World) (n g : Nat) (i : Value) (wr : World) : Prop := ∃ (k : Nat) (L : List (Fin p)), k ≤ a.length ∧ i = vi k ∧ OwnE wr w.heap.size g n L ∧ (∀ m, co L m = co (mulL (a.take k) b) m) ∧ Below w.heap.size w wr
def MulIn {p : Nat} [NeZero p] (a b : List (Fin p)) (w : World) (n g i : Nat) (j : Value) (wr : World) : Prop := ∃ (k : Nat) (L : List (Fin p)), k ≤ b.length ∧ j = vi k ∧ OwnE wr w.heap.size g n L ∧ (∀ m, co L m = co (mulL (a.take i) b) m + if i ≤ m ∧ m < i + k then co a i * co b (m - i) else 0) ∧ Below w.heap.size w wr

theorem mulIn_step {p : Nat} [NeZero p] {a b L : List (Fin p)} {i k : Nat} (h : ∀ m, co L m = co (mulL (a.take i) b) m + if i ≤ m ∧ m < i + k then co a i * co b (m - i) else 0) (hl : i + k < L.length) :
    ∀ m, co (L.set (i + k) (co L (i + k) + co a i * co b k)) m = co (mulL (a.take i) b) m + if i ≤ m ∧ m < i + (k + 1) then co a i * co b (m - i) else 0 := by
  intro m
  rw [co_set _ _ _ hl]
  by_cases hm : m = i + k
  · subst hm
    rw [if_pos rfl, h, if_neg (by omega), if_pos ⟨by omega, by omega⟩, show i + k - i = k from by omega]
    grind
  · rw [if_neg hm, h]
    by_cases h1 : i ≤ m ∧ m < i + k
    · rw [if_pos h1, if_pos ⟨h1.1, by omega⟩]
    · rw [if_neg h1, if_neg (by omega)]
theorem mulIn_done {p : Nat} [NeZero p] {a b L : List (Fin p)} {i : Nat} (hi : i < a.length) (h : ∀ m, co L m = co (mulL (a.take i) b) m + if i ≤ m ∧ m < i + b.length then co a i * co b (m - i) else 0) :
    ∀ m, co L m = co (mulL (a.take (i + 1)) b) m := by
  intro m
  rw [List.take_succ_eq_append_getElem hi, co_mulL_snoc, h, List.length_take, Nat.min_eq_left (by omega), ← co_of_lt hi]
  congr 1
  by_cases h1 : i ≤ m
  · rw [if_pos h1]
    by_cases h2 : m < i + b.length
    · rw [if_pos ⟨h1, h2⟩]
    · rw [if_neg (by omega), co_of_ge (l := b) (by omega)]; grind
  · rw [if_neg h1, if_neg (by omega)]

set_option maxRecDepth 100000 in
set_option maxHeartbeats 4000000 in
theorem pmul_any (p : Nat) [NeZero p] (hp2 : p ≤ 2147483647) (b : Nat) (A B : Option Addr) (ca cb : Nat) (xs ys : List Int) (hxs : ∀ n ∈ xs, I64 n) (hys : ∀ n ∈ ys, I64 n) (hrx : xs.length * 8 ≤ 140737488351232) (hry : ys.length * 8 ≤ 140737488351232) (hcx : xs.length ≤ ca) (hcy : ys.length ≤ cb)
    (w : World) (hc : w.cell? ⟨b, 0, none⟩ = some (vi p)) (hsx : SL w A xs) (hsy : SL w B ys) :
    Calls Tryd.prog 114 #[.pointer (some ⟨b, 0, none⟩), .slice A xs.length ca, .slice B ys.length cb] w fun e w' => Made (fvs (trimL (mulL (els p xs) (els p ys)))) w e w' := by
  have hbl : b < w.heap.size := block_lt_of_cell hc
  have h1 := trim_any p hp2 b A ca xs hxs (by omega) hcx w hc hsx
  obtain ⟨R, hR⟩ : ∃ R, R = fvs (trimL (mulL (els p xs) (els p ys))) := ⟨_, rfl⟩
  rw [← hR]
  have HR := Lib.hid hR
  clear hR
  go_enter Tryd.func114, Tryd.ntmps114
  go_wp2_with fail
  refine (h1).mono ?_
  rintro e w1 ⟨v1, rfl, hown1, hb1⟩
  have hcr1 := (hb1.cell (p := ⟨b, 0, none⟩) hbl).trans hc
  have h2 := trim_any p hp2 b B cb ys hys (by omega) hcy w1 hcr1 (hsy.below hb1)
  go_wp2_with fail
  refine (h2).mono ?_
  rintro e w2 ⟨v2, rfl, hown2, hb2⟩
  have hown1' := (hown1.below hb2)
  have hb := hb1.trans (hb2.mono hb1.size)
  have hcr := (hb.cell (p := ⟨b, 0, none⟩) hbl).trans hc
  have hbl2 : b < w2.heap.size := block_lt_of_cell hcr
  obtain ⟨a, ha⟩ : ∃ a, a = trimL (els p xs) := ⟨_, rfl⟩
  obtain ⟨b', hb'⟩ : ∃ b', b' = trimL (els p ys) := ⟨_, rfl⟩
  have hla : a.length ≤ xs.length := by rw [ha]; have := trimL_length_le (els p xs); simpa using this
  have hlb : b'.length ≤ ys.length := by rw [hb']; have := trimL_length_le (els p ys); simpa using this
  have hres : trimL (mulL (els p xs) (els p ys)) = trimL (mulL a b') := trimL_congr (fun m => co_mulL_congr (fun i => by rw [ha, co_trim]) (fun i => by rw [hb', co_trim]) m)
  rw [← ha] at hown1'
  rw [← hb'] at hown2
  have HRES := Lib.hid hres
  have hown2' := hown2.more hb1.size
  clear ha hb' hres hown1 hown2 h1 h2 hcr1
  have hla1 : (fvs a).length = a.length := by simp
  have hlb1 : (fvs b').length = b'.length := by simp
  obtain ⟨na, hna⟩ : ∃ na, na = a.length := ⟨_, rfl⟩
  obtain ⟨nb, hnb⟩ : ∃ nb, nb = b'.length := ⟨_, rfl⟩
  rw [← hna] at hla hla1
  rw [← hnb] at hlb hlb1
  have HNA := Lib.hid hna
  have HNB := Lib.hid hnb
  clear hna hnb
  have hs1 : ∃ A c, v1 = .slice A na c := by
    obtain ⟨A, c, h, _⟩ := hown1'.len
    exact ⟨A, c, by rw [h, hla1]⟩
  have hs2 : ∃ A c, v2 = .slice A nb c := by
    obtain ⟨A, c, h, _⟩ := hown2'.len
    exact ⟨A, c, by rw [h, hlb1]⟩
  obtain ⟨A1, c1, rfl⟩ := hs1
  obtain ⟨A2, c2, rfl⟩ := hs2
  by_cases ha0 : na = 0
  · have hz : a = [] := List.length_eq_zero_iff.1 (by rw [← HNA.out, ha0])
    have t1 : ((na : Int) == 0) = true := by rw [ha0]; rfl
    have H1 := Lib.hid hla1
    have H2 := Lib.hid hlb1
    have HA0 := Lib.hid ha0
    have HZ := Lib.hid hz
    clear hla1 hlb1 ha0 hz
    go_wp2
    go_ret
    exact ⟨_, rfl, by rw [HR.out, HRES.out, HZ.out]; exact World.ownsRow_nil _ _ _ _, hb⟩
  · by_cases hb0 : nb = 0
    · have hz : b' = [] := List.length_eq_zero_iff.1 (by rw [← HNB.out, hb0])
      have t1 : ((na : Int) == 0) = false := by rw [beq_eq_false_iff_ne]; omega
      have t2 : ((nb : Int) == 0) = true := by rw [hb0]; rfl
      have hzm : trimL (mulL a b') = [] := by
        have : ∀ m, co (mulL a b') m = co ([] : List (Fin p)) m := fun m => by rw [co_nil, co_mulL_zero_right (fun i => by rw [hz, co_nil])]
        rw [trimL_congr this]; rfl
      have H1 := Lib.hid hla1
      have H2 := Lib.hid hlb1
      have HB0 := Lib.hid hb0
      have HZ := Lib.hid hz
      have HZM := Lib.hid hzm
      clear hla1 hlb1 hb0 hz hzm
      go_wp2
      go_ret
      exact ⟨_, rfl, by rw [HR.out, HRES.out, HZM.out]; exact World.ownsRow_nil _ _ _ _, hb⟩
    · obtain ⟨g1, c1', e1, hg1, hg1'⟩ := hown1'.block (by rw [hla1]; omega)
      obtain ⟨g2, c2', e2, hg2, hg2'⟩ := hown2'.block (by rw [hlb1]; omega)
      injection e1 with e1 e1b e1c
      injection e2 with e2 e2b e2c
      subst e1 e2
      clear e1b e1c e2b e2c
      have t1 : ((na : Int) == 0) = false := by rw [beq_eq_false_iff_ne]; omega
      have t2 : ((nb : Int) == 0) = false := by rw [beq_eq_false_iff_ne]; omega
      obtain ⟨n, hn⟩ : ∃ n, n = na + nb - 1 := ⟨_, rfl⟩
      have hn1 : n * 8 ≤ 281474976710656 := by omega
      have hmk := make_ints n n (Nat.le_refl _) hn1
      have en : (n : Int) = (na : Int) + nb - 1 := by omega
      rw [en] at hmk
      have HN := Lib.hid hn
      have H1 := Lib.hid hla1
      have H2 := Lib.hid hlb1
      clear hla1 hlb1 hn en
      have hOE := OwnE.made (p := p) w2 w.heap.size n hb.size hn1
      go_wp2
      go_loopw [35] (fun i wr => MulOut a b' w n w2.heap.size i wr ∧ Below w2.heap.size w2 wr) (fun i _ => na - (intOf i).toNat)
      case atStart => exact ⟨⟨0, _, Nat.zero_le _, rfl, hOE, fun m => by rw [co_replicate, List.take_zero, mulL, co_nil], hb.alloc hb.size _⟩, (Below.refl _ _).alloc (Nat.le_refl _) _⟩
      case round =>
        obtain ⟨⟨i, L, hi, rfl, hoe, hco, hbw⟩, hb2⟩ := hrel
        rw [← HNA.out] at hi
        have HCO := Lib.hid hco
        clear hco
        obtain ⟨W0, hW0⟩ : ∃ W0 : World, W0 = wr := ⟨_, rfl⟩
        subst hW0
        by_cases hlt : i < na
        · have hc1 := (hown1'.below hb2).at_ H1.out.symm i (by rw [H1.out]; exact hlt)
          have e1 : (fvs a)[i]'(by rw [H1.out]; exact hlt) = fv (co a i) := by rw [co_of_lt (by rw [← HNA.out]; exact hlt)]; simp
          rw [e1] at hc1
          have i1 : (0 : Int) ≤ i := by omega
          have i2 : (i : Int) < na := by omega
          obtain ⟨x, hx⟩ : ∃ x, x = co a i := ⟨_, rfl⟩
          rw [← hx] at hc1
          have HX := Lib.hid hx
          clear e1 hx
          go_wp2
          go_loopw [42] (fun j wr => MulIn a b' w n w2.heap.size i j wr ∧ Below w2.heap.size w2 wr) (fun j _ => nb - (intOf j).toNat)
          case atStart => exact ⟨⟨0, L, Nat.zero_le _, rfl, hoe, fun m => by rw [if_neg (by omega), HCO.out, Fin.add_zero], hbw⟩, hb2⟩
          case round =>
            obtain ⟨⟨k, M, hk, rfl, hoe', hco', hbw'⟩, hb2'⟩ := hrel
            rw [← HNB.out] at hk
            by_cases hlk : k < nb
            · have hc2 := (hown2'.below hb2').at_ H2.out.symm k (by rw [H2.out]; exact hlk)
              have e2 : (fvs b')[k]'(by rw [H2.out]; exact hlk) = fv (co b' k) := by rw [co_of_lt (by rw [← HNB.out]; exact hlk)]; simp
              rw [e2] at hc2
              have hikn : i + k < n := by rw [HN.out]; omega
              have hco := hoe'.at_ (i + k) hikn
              have hfo := hoe'.frozen (i + k)
              have hcp : wr.cell? ⟨b, 0, none⟩ = some (vi p) := (hb2'.cell (p := ⟨b, 0, none⟩) hbl2).trans hcr
              obtain ⟨o, ho⟩ : ∃ o, o = co M (i + k) := ⟨_, rfl⟩
              rw [← ho] at hco
              have hst := hoe'.store (i + k) (o + co a i * co b' k)
              have hci := mulIn_step hco' (by rw [hoe'.1]; exact hikn)
              rw [← ho] at hci
              obtain ⟨y, hy⟩ : ∃ y, y = co b' k := ⟨_, rfl⟩
              rw [← HX.out] at hst
              rw [← hy] at hc2 hst
              have HCI := Lib.hid hci
              have HY := Lib.hid hy
              have HO := Lib.hid ho
              have HCO' := Lib.hid hco'
              clear hci hy ho hco' e2
              have i3 : (0 : Int) ≤ k := by omega
              have i4 : (k : Int) < nb := by omega
              have i5 : (0 : Int) ≤ (i : Int) + k := by omega
              have i6 : (i : Int) + k < n := by omega
              have i7 : ((i : Int) + k).toNat = i + k := by omega
              have i8 : IntKind.i64.wrap ((i : Int) + k) = (i : Int) + k := IntWalk.i64_in _ (by omega)
              obtain ⟨m1, m2⟩ := mul_bd x y hp2
              have o1 := fv_nonneg o
              have o2 := fv_lt o
              have hp0 : (0 : Int) < p := by have := ppos (p := p); omega
              have i9 : 0 ≤ fv o + fv x * fv y := by omega
              have hpn : ¬ p = 0 := by have := ppos (p := p); omega
              have i12 : (fv o + fv x * fv y).tmod p = fv (o + x * y) := by rw [← mac_fv, Int.tmod_eq_emod_of_nonneg i9]
              have i10 : IntKind.i64.wrap (fv x * fv y) = fv x * fv y := IntWalk.i64_in _ (by omega)
              have i11 : IntKind.i64.wrap (fv o + fv x * fv y) = fv o + fv x * fv y := IntWalk.i64_in _ (by omega)
              have hmx : Tryd.prog.follows .mixedOrders = true := by kernel_rfl
              go_wp2
              refine wp_region_quiet_tail 18 hmx (by kernel_rfl) ?_
              simp only [List.take_succ_cons, List.take_zero, List.drop_succ_cons, List.drop_zero]
              repeat (quiet_step ((go_at_call 24; exact quiet_eq (p_any p b _ (by exact hcp)))))
              refine wpQuiet_nil ?_
              intro _ hw'
              obtain ⟨nq, hw''⟩ := hw'
              subst hw''
              clear i5 i6 i7 i8 i9 i10 i11 i12 m1 m2 o1 o2
              go_wp2
              go_roundw
              case rel =>
                refine ⟨⟨k + 1, _, by rw [← HNB.out]; omega, by go_num, ?_, HCI.out, (below_drewN hbw' nq).setCell (by simp; have := hb.size; omega) _⟩, (below_drewN hb2' nq).setCell (by simp) _⟩
                have h1 : OwnE (wr.drewN nq) w.heap.size w2.heap.size n M := hoe'
                have h2 := h1.store (i + k) (o + x * y)
                rw [← HX.out, ← HY.out]
                exact h2
              case measure => simp [intOf]; omega
            · obtain rfl : k = nb := by omega
              have hd := mulIn_done (by rw [← HNA.out]; exact hlt) (by rw [← HNB.out]; exact hco')
              have HD := Lib.hid hd
              clear hd hco'
              go_wp2
              go_roundw
              case rel => exact ⟨⟨i + 1, M, by rw [← HNA.out]; omega, by go_num, hoe', HD.out, hbw'⟩, hb2'⟩
              case measure => simp [intOf]; omega
        · obtain rfl : i = na := by omega
          have hcp : W0.cell? ⟨b, 0, none⟩ = some (vi p) := (hb2.cell (p := ⟨b, 0, none⟩) hbl2).trans hcr
          have hLn : (fvs L).length = n := by simp [hoe.1]
          have ht := trim_any p hp2 b (some ⟨w2.heap.size, 0, none⟩) n (fvs L) (i64_fvs L hp2) (by rw [hLn]; exact hn1) (by rw [hLn]; exact Nat.le_refl _) W0 hcp hoe.sl
          rw [hLn, els_fvs] at ht
          have HT := Lib.hid ht
          clear ht hLn
          go_wp2_with fail
          refine (HT.out).mono ?_
          rintro e w4 ⟨v4, rfl, hown4, hb4⟩
          go_wp2
          go_ret
          refine ⟨v4, rfl, ?_, hbw.trans (hb4.mono hbw.size)⟩
          rw [HR.out, HRES.out, ← trimL_congr (l := L) (fun m => by rw [HCO.out, List.take_of_length_le (by rw [← HNA.out]; exact Nat.le_refl _)])]
          exact hown4.more hbw.size
end Go.Proofs.YtkhkoeibigpdnaaDoor

/- The walk of (*Domain).spread: what a polynomial is at the powers of a root, by halves. -/
set_option linter.unusedVariables false
namespace Go.Proofs.YtkhkoeibigpdnaaDoor
open Go.RowKit Zp

def SpreadTo (p : Nat) [NeZero p] (base m : Nat) (xs : List Int) (r : Fin p) (w : World) (e : Ending) (w' : World) : Prop :=
  ∃ v' ys, e = .returned v' ∧ Own w' base v' ys ∧ (∀ y ∈ ys, I64 y) ∧ els p ys = dft r m (els p xs) ∧ (m = 1 → ys = xs) ∧ (m ≠ 1 → ys = fvs (dft r m (els p xs))) ∧ Below w.heap.size w w'
def SpreadSpec (p S D b : Nat) [NeZero p] (n : Nat) (s : Fin p) (m : Nat) : Prop :=
  ∀ (w : World) (base : Nat) (v : Value) (xs : List Int) (r : Int), xs.length = m → (∀ x ∈ xs, I64 x) → I64 r → (m = 1 ∨ ∃ h, m = 2 * h ∧ pw (el p r) h = -1) → Dom w S D b p n s → Own w base v xs → base ≤ w.heap.size →
    Calls Tryd.prog 75 #[.pointer (some ⟨D, 0, none⟩), v, vi r] w fun e w' => SpreadTo p base m xs (el p r) w e w'

theorem dft_one {p : Nat} [NeZero p] (r x : Fin p) : dft r 1 [x] = [x] := by
  have : ev [x] (pw r 0) = x := by simp only [ev, pw_zero]; grind
  unfold dft tab
  rw [List.range_one, List.map_singleton, this]

theorem spread_one (p S D b : Nat) [NeZero p] (n : Nat) (s : Fin p) : SpreadSpec p S D b n s 1 := by
  intro w base v xs r hl hx hr _ hD ho hb
  obtain ⟨g, c, rfl, _, _⟩ := ho.block (by omega)
  have hd : els p xs = dft (el p r) 1 (els p xs) := by
    match xs, hl with
    | [x], _ => exact (dft_one _ _).symm
  have t1 : (((1 : Nat) : Int) == 1) = true := rfl
  rw [hl]
  have HL := Lib.hid hl
  have HD := Lib.hid hd
  clear hl hd
  go_enter Tryd.func75, Tryd.ntmps75
  go_wp2
  go_ret
  exact ⟨_, xs, rfl, by rw [HL.out] at ho; exact ho, hx, HD.out, fun _ => rfl, fun h => absurd rfl h, Below.refl _ _⟩

theorem grew_apart {wr w1 : World} {base : Nat} {v v' u : Value} {xs zs ys : List Int} (hd : ∀ g, v.ownBlock = some g → u.ownBlock ≠ some g) (hg : Grew wr w1 base v v' xs) (hv : Own wr base v zs) (hu : Own wr base u ys) :
    Own w1 base u ys ∧ ∀ g, v'.ownBlock = some g → u.ownBlock ≠ some g := by
  refine ⟨hu.grown hg.grown ?_, fun g hg' hu' => ?_⟩
  · cases e : u.ownBlock with
    | none => exact .inl rfl
    | some g => exact .inr fun h => hd g h.symm e
  · rcases hg.at_ with h | ⟨k, h1, h2⟩
    · exact hd g (h ▸ hg') hu'
    · rw [hg'] at h1
      injection h1 with h1
      have := (hu.lt g hu').2
      omega

def HalfRel (xs : List Int) (w : World) (ve vo i : Value) (wr : World) : Prop := ∃ j : Nat, j ≤ xs.length ∧ i = vi j ∧ Own wr w.heap.size ve (evI xs j) ∧ Own wr w.heap.size vo (odI xs j) ∧ (∀ g, ve.ownBlock = some g → vo.ownBlock ≠ some g) ∧ Below w.heap.size w wr
def JoinRel {p : Nat} [NeZero p] (r : Fin p) (l : List (Fin p)) (base m g : Nat) (x i : Value) (wr : World) : Prop := ∃ (j : Nat) (L : List (Fin p)), j ≤ m ∧ i = vi j ∧ x = vi (fv (pw r j)) ∧ OwnE wr base g (2 * m) L ∧ ∀ t, t < j → co L t = ev l (pw r t) ∧ co L (t + m) = ev l (pw r (t + m))

theorem join_step {p : Nat} [NeZero p] {l L : List (Fin p)} {R U V : Fin p} {t m : Nat} (htm : t < m) (hl : t + m < L.length) (h : ∀ j, j < t → co L j = ev l (pw R j) ∧ co L (j + m) = ev l (pw R (j + m))) (hU : U = ev l (pw R t)) (hV : V = ev l (pw R (t + m))) :
    ∀ j, j < t + 1 → co ((L.set t U).set (t + m) V) j = ev l (pw R j) ∧ co ((L.set t U).set (t + m) V) (j + m) = ev l (pw R (j + m)) := by
  intro j hj
  have e : ∀ x, co ((L.set t U).set (t + m) V) x = if x = t + m then V else if x = t then U else co L x := fun x => by
    rw [co_set _ _ _ (by simpa using hl), co_set _ _ _ (by omega)]
  rw [e, e, if_neg (by omega), if_neg (c := j + m = t) (by omega)]
  by_cases he : j = t
  · subst he
    rw [if_pos rfl, if_pos rfl]; exact ⟨hU, hV⟩
  · rw [if_neg he, if_neg (by omega)]; exact h j (by omega)
theorem join_done {p : Nat} [NeZero p] {l L : List (Fin p)} {R : Fin p} {m : Nat} (hl : L.length = 2 * m) (h : ∀ j, j < m → co L j = ev l (pw R j) ∧ co L (j + m) = ev l (pw R (j + m))) : L = dft R (2 * m) l := by
  refine ext_co (by rw [hl, dft_length]) fun i hi => ?_
  rw [dft, co_tab, if_pos (by omega)]
  by_cases h1 : i < m
  · exact (h i h1).1
  · have := (h (i - m) (by omega)).2
    rwa [show i - m + m = i from by omega] at this

set_option maxRecDepth 100000 in
set_option maxHeartbeats 2000000 in
theorem spread_step (p S D b : Nat) [NeZero p] (n : Nat) (s : Fin p) (m : Nat) (hm1 : 1 ≤ m) (hm2 : 2 * m ≤ 65536) (hpow : m = 1 ∨ ∃ h, m = 2 * h) (IH : SpreadSpec p S D b n s m) : SpreadSpec p S D b n s (2 * m) := by
  intro w base v xs r hl hx hr hcond hD ho hb
  have hrm : pw (el p r) m = -1 := by
    rcases hcond with h | ⟨h, e, e2⟩
    · omega
    · rw [show m = h from by omega]; exact e2
  have hcond2 : m = 1 ∨ ∃ h, m = 2 * h ∧ pw (el p r * el p r) h = -1 := hpow.imp id fun ⟨h, e⟩ => ⟨h, e, by
    rw [← hrm, e, pw_mul]
    congr 1
    simp only [pw]; grind⟩
  obtain ⟨g, c, rfl, hg1, hg2⟩ := ho.block (by omega)
  have hp2 := hD.fld.max
  have hsr := fun w' => @Own.below w w' base
  obtain ⟨R, hR⟩ : ∃ R, R = el p r := ⟨_, rfl⟩
  rw [← hR] at hrm hcond2 ⊢
  have HR := Lib.hid hR
  have HRM := Lib.hid hrm
  have HC2 := Lib.hid hcond2
  have HIH := Lib.hid IH
  have t0 : (((2 * m : Nat) : Int) == 1) = false := by rw [beq_eq_false_iff_ne]; omega
  rw [hl]
  have HL := Lib.hid hl
  clear hR hrm hcond hcond2 hpow IH hsr hl
  obtain ⟨N, hN⟩ : ∃ N, N = 2 * m := ⟨_, rfl⟩
  rw [← hN] at t0 hm2 HL ⊢
  have HN := Lib.hid hN
  have hN2 : m < N := by omega
  have hN3 : (N : Int) / 2 = (m : Int) := by omega
  clear hN
  go_enter Tryd.func75, Tryd.ntmps75
  go_wp2_with fail
  go_loopw [8, 9, 24] (fun ve vo i wr => HalfRel xs w ve vo i wr) (fun _ _ i _ => N - (intOf i).toNat)
  case atStart => exact ⟨0, Nat.zero_le _, rfl, World.ownsRow_nil _ _ _ _, World.ownsRow_nil _ _ _ _, fun g h => by simp [Value.ownBlock] at h, Below.refl _ _⟩
  case round =>
    obtain ⟨j, hj, rfl, hve, hvo, hap, hbw⟩ := hrel
    rw [HL.out] at hj
    by_cases hlt : j < N
    · have hjx : j < xs.length := by rw [HL.out]; exact hlt
      have hown := ho.below hbw
      have hcell := hown.at_ rfl j hjx
      have hI := hx _ (List.getElem_mem hjx)
      have hle1 : (evI xs j).length < 17592186044416 := by simp [evI]; omega
      have hle2 : (odI xs j).length < 17592186044416 := by simp [odI]; omega
      have hpar : j % 2 = 0 ∨ ¬ j % 2 = 0 := by omega
      rcases hpar with hev | hod
      · obtain ⟨e1, e2⟩ := evI_even hev hjx
        have t1 : ((j : Int) % 2 == 0) = true := by rw [beq_iff_eq]; omega
        obtain ⟨x, hxj⟩ : ∃ x, x = xs[j] := ⟨_, rfl⟩
        rw [← hxj] at hI hcell e1
        have E1 := Lib.hid e1
        have E2 := Lib.hid e2
        have HAP := Lib.hid hap
        clear hxj e1 e2 hev hap
        go_wp2_with (at_builtin; refine wpList_app1 wr x rfl _ _ rfl w.heap.size _ _ rfl rfl hve hle1 hbw.size ?_; intro v' w1 hg)
        obtain ⟨hvo1, hap1⟩ := grew_apart HAP.out hg hve hvo
        go_roundw
        case rel => exact ⟨j + 1, by rw [HL.out]; omega, by go_num, by rw [← E1.out]; exact hg.own, by rw [E2.out]; exact hvo1, hap1, hg.below hbw hve (Nat.le_refl _) hbw.size⟩
        case measure => simp [intOf]; omega
      · obtain ⟨e1, e2⟩ := odI_odd hod hjx
        have t1 : ((j : Int) % 2 == 0) = false := by rw [beq_eq_false_iff_ne]; omega
        obtain ⟨x, hxj⟩ : ∃ x, x = xs[j] := ⟨_, rfl⟩
        rw [← hxj] at hI hcell e1
        have E1 := Lib.hid e1
        have E2 := Lib.hid e2
        have hap' := fun (g : Nat) h1 h2 => hap g h2 h1
        have HAP := Lib.hid hap'
        clear hxj e1 e2 hod hap hap'
        go_wp2_with (at_builtin; refine wpList_app1 wr x rfl _ _ rfl w.heap.size _ _ rfl rfl hvo hle2 hbw.size ?_; intro v' w1 hg)
        obtain ⟨hve1, hap1⟩ := grew_apart HAP.out hg hvo hve
        go_roundw
        case rel => exact ⟨j + 1, by rw [HL.out]; omega, by go_num, by rw [E2.out]; exact hve1, by rw [← E1.out]; exact hg.own, fun g h1 h2 => hap1 g h2 h1, hg.below hbw hvo (Nat.le_refl _) hbw.size⟩
        case measure => simp [intOf]; omega
    · obtain rfl : j = N := by omega
      obtain ⟨hE1, hO1⟩ := els_evI (p := p) (xs := xs) (m := m) (by rw [HL.out, HN.out])
      rw [← HN.out] at hE1 hO1
      obtain ⟨hE2, hO2⟩ := evI_mem (P := I64) (by constructor <;> omega) hx j
      have hE3 : (evI xs j).length = m := by have := HN.out; simp [evI]; omega
      have hO3 : (odI xs j).length = m := by have := HN.out; simp [odI]; omega
      obtain ⟨E, hE⟩ : ∃ E, E = evI xs j := ⟨_, rfl⟩
      obtain ⟨O, hO⟩ : ∃ O, O = odI xs j := ⟨_, rfl⟩
      rw [← hE] at hE1 hE2 hE3 hve
      rw [← hO] at hO1 hO2 hO3 hvo
      have HE1 := Lib.hid hE1
      have HO1 := Lib.hid hO1
      have HE3 := Lib.hid hE3
      have HO3 := Lib.hid hO3
      clear hE1 hO1 hE3 hO3 hE hO hap
      have hDr := hD.below hbw hD.le
      have hcd := hDr.c0
      have hcb := hDr.fld.c0
      go_wp2_with fail
      refine (mul_any p hp2 b r r hr hr _ hcb).mono ?_
      rintro e w1 ⟨rfl, k1, rfl⟩
      rw [← HR.out]
      have hsq : I64 (fv (R * R)) := i64_fv _ hp2
      have hc2 : m = 1 ∨ ∃ h, m = 2 * h ∧ pw (el p (fv (R * R))) h = -1 := by rw [el_fv]; exact HC2.out
      have HC3 := Lib.hid hc2
      clear hc2
      go_wp2_with fail
      refine (HIH.out _ w.heap.size _ E (fv (R * R)) HE3.out hE2 hsq HC3.out (hDr.drewN k1) (hve.drewN k1) hbw.size).mono ?_
      rintro e w2 ⟨ve2, ys, rfl, hve2, hys, hysd, _, _, hb2⟩
      have hDs := (hDr.drewN k1).below hb2 (hDr.drewN k1).le
      have hvo1 := (hvo.drewN k1).below hb2
      have hbw2 : Below w.heap.size w w2 := (below_drewN hbw k1).trans (hb2.mono hbw.size)
      go_wp2_with fail
      refine (HIH.out _ w.heap.size _ O (fv (R * R)) HO3.out hO2 hsq HC3.out hDs hvo1 hbw2.size).mono ?_
      rintro e w3 ⟨vo2, zs, rfl, hvo2, hzs, hzsd, _, _, hb3⟩
      have hDt := hDs.below hb3 hDs.le
      have hve3 := hve2.below hb3
      have hbw3 : Below w.heap.size w w3 := hbw2.trans (hb3.mono hbw2.size)
      rw [el_fv, HE1.out] at hysd
      rw [el_fv, HO1.out] at hzsd
      have hysl : ys.length = m := by have := congrArg List.length hysd; rw [dft_length] at this; simpa using this
      have hzsl : zs.length = m := by have := congrArg List.length hzsd; rw [dft_length] at this; simpa using this
      have HYS := Lib.hid hysd
      have HZS := Lib.hid hzsd
      have HYL := Lib.hid hysl
      have HZL := Lib.hid hzsl
      clear hDr hcd hcb hve hvo hve2 hDs hvo1 hbw hbw2 hb2 hb3 hysd hzsd
      obtain ⟨gy, cy, e1, _, _⟩ := hve3.block (by rw [hysl]; omega)
      obtain ⟨gz, cz, e2, _, _⟩ := hvo2.block (by rw [hzsl]; omega)
      rw [hysl] at e1
      rw [hzsl] at e2
      subst e1 e2
      clear hysl hzsl
      have hmk := make_ints j j (Nat.le_refl _) (by omega)
      have hOE := OwnE.made (p := p) w3 w.heap.size j hbw3.size (by omega)
      rw [HN.out] at hOE
      have hDl := hDt.le
      go_wp2
      go_loopw [14, 60] (fun x i wr => JoinRel R (els p xs) w.heap.size m w3.heap.size x i wr ∧ Below w3.heap.size w3 wr) (fun _ i _ => m - (intOf i).toNat)
      case atStart => exact ⟨⟨0, _, Nat.zero_le _, rfl, by rw [pw_zero, fv_one hDt.fld.two], by rw [HN.out]; exact hOE, fun t ht => absurd ht (by omega)⟩, (Below.refl _ _).alloc (Nat.le_refl _) _⟩
      case round =>
        obtain ⟨⟨t, L, ht, rfl, rfl, hoe, hco⟩, hbl⟩ := hrel
        have hDw := hDt.below hbl hDl
        have hcd := hDw.c0
        have hcb := hDw.fld.c0
        have HCO := Lib.hid hco
        clear hco
        by_cases hlt : t < m
        · have hty : t < ys.length := by rw [HYL.out]; exact hlt
          have htz : t < zs.length := by rw [HZL.out]; exact hlt
          have hc1 := (hve3.below hbl).at_ HYL.out.symm t hty
          have hc2 := (hvo2.below hbl).at_ HZL.out.symm t htz
          have ha0 := hys _ (List.getElem_mem hty)
          have hz0 := hzs _ (List.getElem_mem htz)
          have hA : el p ys[t] = ev (evens (els p xs)) (pw (R * R) t) := by
            have h : co (els p ys) t = el p ys[t] := by rw [co_of_lt (by simpa using hty)]; simp
            rw [← h, HYS.out, dft, co_tab, if_pos hlt]
          have hZ : el p zs[t] = ev (odds (els p xs)) (pw (R * R) t) := by
            have h : co (els p zs) t = el p zs[t] := by rw [co_of_lt (by simpa using htz)]; simp
            rw [← h, HZS.out, dft, co_tab, if_pos hlt]
          obtain ⟨a0, hae⟩ : ∃ a, a = ys[t] := ⟨_, rfl⟩
          obtain ⟨z0, hze⟩ : ∃ z, z = zs[t] := ⟨_, rfl⟩
          rw [← hae] at hc1 ha0 hA
          rw [← hze] at hc2 hz0 hZ
          obtain ⟨X, hX⟩ : ∃ X, X = pw R t := ⟨_, rfl⟩
          rw [← hX]
          obtain ⟨Y, hY⟩ : ∃ Y, Y = X * el p z0 := ⟨_, rfl⟩
          obtain ⟨U, hU⟩ : ∃ U, U = el p a0 + Y := ⟨_, rfl⟩
          obtain ⟨V, hV⟩ : ∃ V, V = el p a0 - Y := ⟨_, rfl⟩
          have hU2 : U = ev (els p xs) (pw R t) := by rw [hU, hY, hX, hA, hZ]; exact (dft_lo R _ t).symm
          have hV2 : V = ev (els p xs) (pw R (t + m)) := by rw [hV, hY, hX, hA, hZ]; exact (dft_hi HRM.out _ t).symm
          have iX : I64 (fv X) := i64_fv X hp2
          have iY : I64 (fv Y) := i64_fv Y hp2
          have hmul : ∀ W : World, W.cell? ⟨b, 0, none⟩ = some (vi p) → Calls Tryd.prog 70 #[.pointer (some ⟨b, 0, none⟩), vi (fv X), vi z0] W fun e w' => e = .returned (vi (fv Y)) ∧ ∃ k, w' = W.drewN k := fun W h => by
            have := mul_any p hp2 b (fv X) z0 iX hz0 W h
            rw [el_fv, ← hY] at this; exact this
          have hadd : ∀ W : World, W.cell? ⟨b, 0, none⟩ = some (vi p) → Calls Tryd.prog 73 #[.pointer (some ⟨b, 0, none⟩), vi a0, vi (fv Y)] W fun e w' => e = .returned (vi (fv U)) ∧ ∃ k, w' = W.drewN k := fun W h => by
            have := add_any p hp2 b a0 (fv Y) ha0 iY W h
            rw [el_fv, ← hU] at this; exact this
          have hsub : ∀ W : World, W.cell? ⟨b, 0, none⟩ = some (vi p) → Calls Tryd.prog 109 #[.pointer (some ⟨b, 0, none⟩), vi a0, vi (fv Y)] W fun e w' => e = .returned (vi (fv V)) ∧ W = w' := fun W h => by
            have := sub_any p hp2 b a0 (fv Y) ha0 iY W h
            rw [el_fv, ← hV] at this; exact this
          have hX1 : X * R = pw R (t + 1) := by rw [hX, pw_succ]
          have hnx : ∀ W : World, W.cell? ⟨b, 0, none⟩ = some (vi p) → Calls Tryd.prog 70 #[.pointer (some ⟨b, 0, none⟩), vi (fv X), vi r] W fun e w' => e = .returned (vi (fv (pw R (t + 1)))) ∧ ∃ k, w' = W.drewN k := fun W h => by
            have := mul_any p hp2 b (fv X) r iX hr W h
            rw [el_fv, ← HR.out, hX1] at this; exact this
          have HMUL := Lib.hid hmul
          have HADD := Lib.hid hadd
          have HSUB := Lib.hid hsub
          have HNX := Lib.hid hnx
          have HU := Lib.hid hU2
          have HV := Lib.hid hV2
          clear hmul hadd hsub hnx hX1 hU2 hV2 hU hV hY hX hae hze hA hZ
          have i1 : (0 : Int) ≤ t := by omega
          have i2 : (t : Int) < m := by omega
          have i3 : (t : Int) < j := by omega
          have i4 : IntKind.i64.wrap ((t : Int) + m) = (t : Int) + m := IntWalk.i64_in _ (by omega)
          have i5 : (0 : Int) ≤ (t : Int) + m := by omega
          have i6 : (t : Int) + m < j := by have := HN.out; omega
          have i7 : ((t : Int) + m).toNat = t + m := by omega
          have i9 : IntKind.i64.wrap (m : Int) = (m : Int) := IntWalk.i64_in _ (by constructor <;> omega)
          have hf1 := hoe.frozen t
          have hf2 := hoe.frozen (t + m)
          have ho1 := hoe.at_ t (by omega)
          have ho2 := hoe.at_ (t + m) (by omega)
          have hne1 : ¬ D = w3.heap.size := by have := hDt.lt; omega
          have hne3 : ¬ gy = w3.heap.size := by have := (hve3.lt gy rfl).2; omega
          have hne2 : ¬ b = w3.heap.size := by have := hDt.fld.lt; omega
          have hmx : Tryd.prog.follows .mixedOrders = true := by kernel_rfl
          go_wp2
          go_quiet ((go_at_call 70; exact Calls.quiet_of (HMUL.out _ (by exact hcb))))
          go_wp2
          go_region_held3 (fun w' => w'.cell? ⟨D, 0, none⟩ = some (.pointer (some ⟨b, 0, none⟩)) ∧ w'.cell? ⟨gy, t, none⟩ = some (vi a0) ∧ w'.cell? ⟨b, 0, none⟩ = some (vi p)) (first | exact ⟨hcd, hc1, hcb⟩ | exact ⟨setCell_keep hcd hne1, setCell_keep hc1 hne3, setCell_keep hcb hne2⟩ | exact ⟨setCell_keep (setCell_keep hcd hne1) hne1, setCell_keep (setCell_keep hc1 hne3) hne3, setCell_keep (setCell_keep hcb hne2) hne2⟩) ((first | (go_at_call 73; refine (HADD.out _ (by exact hcb)).mono ?_; rintro e w' ⟨rfl, k3, rfl⟩) | (go_at_call 109; refine (HSUB.out _ (by exact hcb)).mono ?_; rintro e w' ⟨rfl, rfl⟩)))
          clear i4 i9 i5 i6 i7
          go_wp2_with fail
          refine (HNX.out _ (by exact setCell_keep (setCell_keep hcb hne2) hne2)).mono ?_
          rintro e w5 ⟨rfl, k5, rfl⟩
          go_wp2
          go_roundw
          case rel =>
            have h1 : OwnE (wr.drewN (nq + 1 + k3)) w.heap.size w3.heap.size (2 * m) L := hoe
            have h2 := (h1.store t U).store (t + m) V
            refine ⟨⟨t + 1, _, by omega, by go_num, rfl, h2, join_step hlt (by rw [hoe.1]; omega) HCO.out HU.out HV.out⟩, ?_⟩
            exact below_drewN (((below_drewN hbl (nq + 1 + k3)).setCell (p := ⟨w3.heap.size, t, none⟩) (Nat.le_refl _) _).setCell (p := ⟨w3.heap.size, t + m, none⟩) (Nat.le_refl _) _) k5
          case measure => simp [intOf]; omega
        · obtain rfl : t = m := by omega
          have hLd : L = dft R (2 * t) (els p xs) := join_done hoe.1 HCO.out
          have HLD := Lib.hid hLd
          clear hLd
          go_wp2
          go_ret
          have ho3 := hoe.2.more hb
          rw [← HN.out] at ho3
          refine ⟨_, fvs L, rfl, ho3, i64_fvs L hp2, ?_, fun h => by have := HN.out; omega, fun _ => ?_, hbw3.trans (hbl.mono hbw3.size)⟩
          · rw [els_fvs, HN.out]; exact HLD.out
          · rw [HN.out]; exact congrArg fvs HLD.out

/-- a power of two: what a polynomial is at the powers of a root -/
theorem spread_any (p S D b : Nat) [NeZero p] (n : Nat) (s : Fin p) : ∀ k, k ≤ 16 → SpreadSpec p S D b n s (2 ^ k)
  | 0, _ => spread_one p S D b n s
  | k + 1, hk => by
    have h1 : 2 ^ k ≤ 2 ^ 15 := Nat.pow_le_pow_right (by omega) (by omega)
    have h2 : 1 ≤ 2 ^ k := Nat.pow_pos (by omega)
    rw [Nat.pow_succ, Nat.mul_comm]
    refine spread_step p S D b n s (2 ^ k) h2 (by omega) ?_ (spread_any p S D b n s k (by omega))
    cases k with
    | zero => exact .inl rfl
    | succ k => exact .inr ⟨2 ^ k, by rw [Nat.pow_succ, Nat.mul_comm]⟩
end Go.Proofs.YtkhkoeibigpdnaaDoor

/- Walks: attestsame.Ints, slices.Clip, the reference's At. -/
set_option linter.unusedVariables false
namespace Go.Proofs.YtkhkoeibigpdnaaDoor
open Go.RowKit

/-- two lists are the same; a Bool behind a name -/
def eqB (xs ys : List Int) : Bool := decide (xs = ys)
theorem eqB_true {xs ys : List Int} (h : xs = ys) : eqB xs ys = true := decide_eq_true h
theorem eqB_false {xs ys : List Int} (h : xs ≠ ys) : eqB xs ys = false := decide_eq_false h

def IntsRel (xs ys : List Int) (w : World) (i : Value) (wr : World) : Prop := ∃ k : Nat, k ≤ xs.length ∧ i = vi k ∧ xs.take k = ys.take k ∧ ∃ j, wr = w.drewN j

set_option maxHeartbeats 1000000 in
theorem ints_any (A B : Option Addr) (c d : Nat) (xs ys : List Int) (hx : xs.length ≤ 9223372036854775807) (hy : ys.length ≤ 9223372036854775807) (w : World) (hsx : SL w A xs) (hsy : SL w B ys) :
    Calls Tryd.prog 21 #[.slice A xs.length c, .slice B ys.length d] w fun e w' => e = .returned (.bool (eqB xs ys)) ∧ ∃ k, w' = w.drewN k := by
  obtain ⟨n, hn⟩ : ∃ n, n = xs.length := ⟨_, rfl⟩
  obtain ⟨m, hm⟩ : ∃ m, m = ys.length := ⟨_, rfl⟩
  rw [← hn, ← hm]
  rw [← hn] at hx
  rw [← hm] at hy
  have HN := Lib.hid hn
  have HM := Lib.hid hm
  clear hn hm
  by_cases hnm : n = m
  · have t1 : ((n : Int) != (m : Int)) = false := by rw [bne_eq_false_iff_eq]; omega
    have HNM := Lib.hid hnm
    clear hnm
    go_enter Tryd.func21, Tryd.ntmps21
    go_wp2
    go_loopw [5] (fun i wr => IntsRel xs ys w i wr) (fun i _ => n - (intOf i).toNat)
    case atStart => exact ⟨0, Nat.zero_le _, rfl, by simp, 0, rfl⟩
    case round =>
      obtain ⟨k, hk, rfl, heq, j, rfl⟩ := hrel
      rw [← HN.out] at hk
      have HEQ := Lib.hid heq
      clear heq
      by_cases hlt : k < n
      · have hkm : k < m := by rw [← HNM.out]; exact hlt
        have hkx : k < xs.length := by rw [← HN.out]; exact hlt
        have hky : k < ys.length := by rw [← HM.out]; exact hkm
        obtain ⟨ad, rfl, _, hc1⟩ := (hsx.drewN j).at_ hkx
        obtain ⟨bd, rfl, _, hc2⟩ := (hsy.drewN j).at_ hky
        have i1 : (0 : Int) ≤ k := by omega
        have i2 : (k : Int) < n := by omega
        have i3 : (k : Int) < m := by omega
        have htk : xs.take (k + 1) = xs.take k ++ [xs[k]] := List.take_succ_eq_append_getElem hkx
        have hty : ys.take (k + 1) = ys.take k ++ [ys[k]] := List.take_succ_eq_append_getElem hky
        obtain ⟨x, hxk⟩ : ∃ x, x = xs[k] := ⟨_, rfl⟩
        obtain ⟨y, hyk⟩ : ∃ y, y = ys[k] := ⟨_, rfl⟩
        rw [← hxk] at hc1 htk
        rw [← hyk] at hc2 hty
        rw [World.cell?_drewN] at hc1 hc2
        by_cases hxy : x = y
        · have t2 : (x != y) = false := by rw [hxy]; simp
          have h2 : xs.take (k + 1) = ys.take (k + 1) := by rw [htk, hty, HEQ.out, hxy]
          have H2 := Lib.hid h2
          clear h2 hxy htk hty hxk hyk
          go_wp2
          go_quiet (fail)
          go_wp2
          go_roundw
          case rel => exact ⟨k + 1, by rw [← HN.out]; omega, by go_num, H2.out, _, rfl⟩
          case measure => simp [intOf]; omega
        · have t2 : (x != y) = true := by rw [bne_iff_ne]; exact hxy
          have h2 : eqB xs ys = false := eqB_false fun e => by
            subst e
            exact hxy (by rw [hxk, hyk])
          have H2 := Lib.hid h2
          clear h2 hxy htk hty hxk hyk
          go_wp2
          go_quiet (fail)
          go_wp2
          go_ret
          exact ⟨ret_bool H2.out.symm, _, World.drewN_drewN _ _ _⟩
      · obtain rfl : k = n := by omega
        have h2 : eqB xs ys = true := eqB_true (by
          have := HEQ.out
          rwa [List.take_of_length_le (by rw [← HN.out]; exact Nat.le_refl _), List.take_of_length_le (by rw [← HM.out, ← HNM.out]; exact Nat.le_refl _)] at this)
        have H2 := Lib.hid h2
        clear h2
        go_wp2
        go_ret
        exact ⟨ret_bool H2.out.symm, _, rfl⟩
  · have t1 : ((n : Int) != (m : Int)) = true := by rw [bne_iff_ne]; omega
    have h2 : eqB xs ys = false := eqB_false fun e => hnm (by rw [HN.out, HM.out, e])
    have H2 := Lib.hid h2
    clear h2 hnm
    go_enter Tryd.func21, Tryd.ntmps21
    go_wp2
    go_ret
    exact ⟨ret_bool H2.out.symm, 0, rfl⟩

theorem clip_any (A : Option Addr) (n c : Nat) (hn : n ≤ c) (hc : c ≤ 9223372036854775807) (w : World) :
    Calls Tryd.prog 74 #[.slice A n c] w fun e w' => e = .returned (.slice A n n) ∧ w = w' := by
  go_enter Tryd.func74, Tryd.ntmps74
  go_wp2
  go_ret
  exact ⟨rfl, rfl⟩

/-- what stands at a place -/
def atI (xs : List Int) (i : Int) : Int := if 0 ≤ i then xs.getD i.toNat 0 else 0
theorem at_any (A : Option Addr) (c : Nat) (xs : List Int) (hx : xs.length ≤ 9223372036854775807) (i : Int) (hi : I64 i) (w : World) (hs : SL w A xs) :
    Calls Tryd.prog 64 #[.slice A xs.length c, vi i] w fun e w' => e = .returned (vi (atI xs i)) ∧ w = w' := by
  obtain ⟨n, hn⟩ : ∃ n, n = xs.length := ⟨_, rfl⟩
  rw [← hn]
  rw [← hn] at hx
  have HN := Lib.hid hn
  clear hn
  by_cases h0 : i < 0
  · have hr : atI xs i = 0 := if_neg (by omega)
    have HR := Lib.hid hr
    clear hr
    go_enter Tryd.func64, Tryd.ntmps64
    go_wp2
    go_ret
    exact ⟨ret_int HR.out.symm, rfl⟩
  · obtain ⟨k, rfl⟩ := Int.eq_ofNat_of_zero_le (a := i) (by omega)
    have hr : atI xs (k : Int) = xs.getD k 0 := by rw [atI, if_pos (by omega)]; rfl
    by_cases hk : k < n
    · have hkx : k < xs.length := by rw [← HN.out]; exact hk
      obtain ⟨ad, rfl, _, hc⟩ := hs.at_ hkx
      rw [List.getD_eq_getElem?_getD, List.getElem?_eq_getElem hkx, Option.getD_some] at hr
      rw [← hr] at hc
      clear hr
      go_enter Tryd.func64, Tryd.ntmps64
      go_wp2
      go_ret
      exact ⟨rfl, rfl⟩
    · rw [List.getD_eq_getElem?_getD, List.getElem?_eq_none (by rw [← HN.out]; omega)] at hr
      have HR := Lib.hid hr
      clear hr
      go_enter Tryd.func64, Tryd.ntmps64
      go_wp2
      go_ret
      exact ⟨ret_int HR.out.symm, rfl⟩
end Go.Proofs.YtkhkoeibigpdnaaDoor

/- The walk of (*Domain).Values. -/
set_option linter.unusedVariables false
namespace Go.Proofs.YtkhkoeibigpdnaaDoor
open Go.RowKit Zp

/-- a root of a power of two: the half of its order makes -1 -/
theorem root_cond {p : Nat} [NeZero p] (hp : IsPrime p) {n : Nat} (h : SizeOk p n) {r : Fin p} (hr : Ord r n) : n = 1 ∨ ∃ m, n = 2 * m ∧ pw r m = -1 := by
  obtain ⟨⟨k, _, e⟩, _⟩ := h
  cases k with
  | zero => exact .inl e
  | succ k =>
    have e2 : n = 2 * 2 ^ k := by rw [e, Nat.pow_succ, Nat.mul_comm]
    rw [e2] at hr
    exact .inr ⟨2 ^ k, e2, ord_half hp (Nat.pow_pos (by omega)) hr⟩

def ValRel {p : Nat} [NeZero p] (s : Fin p) (n : Nat) (xs : List Int) (w : World) (g : Nat) (sh i : Value) (wr : World) : Prop := ∃ (k : Nat) (L : List (Fin p)), k ≤ xs.length ∧ i = vi k ∧ sh = vi (fv (pw s k)) ∧ OwnE wr w.heap.size g n L ∧ Wrapped s n (els p xs) k L ∧ Below w.heap.size w wr

set_option maxRecDepth 100000 in
set_option maxHeartbeats 2000000 in
theorem values_any (p S D b : Nat) [NeZero p] (n : Nat) (s : Fin p) (A : Option Addr) (cap : Nat) (xs : List Int) (hxs : ∀ x ∈ xs, I64 x) (hreach : xs.length * 8 ≤ 281474976710656) (w : World) (hD : Dom w S D b p n s) (hs : SL w A xs) :
    Calls Tryd.prog 30 #[.pointer (some ⟨D, 0, none⟩), .slice A xs.length cap] w fun e w' => Gives (fvs (valL s (rootI p n) n (els p xs))) w e w' := by
  have hp := hD.fld.prime
  have hp1 := hD.fld.two
  have hp2 := hD.fld.max
  have hn0 := hD.size.pos
  have hn1 := hD.size.le
  have hDle := hD.le
  have hc1 := hD.c1
  obtain ⟨len, hlen⟩ : ∃ len, len = xs.length := ⟨_, rfl⟩
  rw [← hlen]
  rw [← hlen] at hreach
  have HL := Lib.hid hlen
  clear hlen
  obtain ⟨R, hR⟩ : ∃ R, R = fvs (valL s (rootI p n) n (els p xs)) := ⟨_, rfl⟩
  rw [← hR]
  have HR := Lib.hid hR
  clear hR
  have hmk := make_ints n n (Nat.le_refl _) (by omega)
  have hOE := OwnE.made (p := p) w w.heap.size n (Nat.le_refl _) (by omega)
  go_enter Tryd.func30, Tryd.ntmps30
  go_wp2
  go_loopw [6, 16] (fun sh i wr => ValRel s n xs w w.heap.size sh i wr) (fun _ i _ => len - (intOf i).toNat)
  case atStart => exact ⟨0, _, Nat.zero_le _, rfl, by rw [pw_zero, fv_one hp1], hOE, Wrapped.start s n _, (Below.refl _ _).alloc (Nat.le_refl _) _⟩
  case round =>
    obtain ⟨k, L, hk, rfl, rfl, hoe, hwr, hb⟩ := hrel
    rw [← HL.out] at hk
    have HWR := Lib.hid hwr
    clear hwr
    have hDr := hD.below hb hDle
    have hd0 := hDr.c0
    have hd1 := hDr.c1
    have hd2 := hDr.c2
    have hd3 := hDr.c3
    have hcb := hDr.fld.c0
    by_cases hlt : k < len
    · have hkx : k < xs.length := by rw [← HL.out]; exact hlt
      obtain ⟨ad, rfl, _, hcell⟩ := (hs.below hb).at_ hkx
      have hI := hxs _ (List.getElem_mem hkx)
      have hxe : co (els p xs) k = el p xs[k] := by rw [co_of_lt (by simpa using hkx)]; simp
      obtain ⟨x, hx⟩ : ∃ x, x = xs[k] := ⟨_, rfl⟩
      rw [← hx] at hI hcell hxe
      obtain ⟨j, hj⟩ : ∃ j, j = k % n := ⟨_, rfl⟩
      have hjn : j < n := by rw [hj]; exact Nat.mod_lt _ hn0
      have hst := HWR.out.step hn0 (by simpa using hkx)
      rw [← hj, hxe] at hst
      obtain ⟨X, hX⟩ : ∃ X, X = pw s k := ⟨_, rfl⟩
      rw [← hX] at hst ⊢
      obtain ⟨Y, hY⟩ : ∃ Y, Y = X * el p x := ⟨_, rfl⟩
      obtain ⟨o, ho⟩ : ∃ o, o = co L j := ⟨_, rfl⟩
      obtain ⟨U, hU⟩ : ∃ U, U = o + Y := ⟨_, rfl⟩
      rw [← hY, ← ho, ← hU] at hst
      have hol := hoe.at_ j hjn
      rw [← ho] at hol
      have hof := hoe.frozen j
      have iX : I64 (fv X) := i64_fv X hp2
      have iY : I64 (fv Y) := i64_fv Y hp2
      have io : I64 (fv o) := i64_fv o hp2
      have iS : I64 (fv s) := i64_fv s hp2
      have hmul : ∀ W : World, W.cell? ⟨b, 0, none⟩ = some (vi p) → Calls Tryd.prog 70 #[.pointer (some ⟨b, 0, none⟩), vi (fv X), vi x] W fun e w' => e = .returned (vi (fv Y)) ∧ ∃ k, w' = W.drewN k := fun W h => by
        have := mul_any p hp2 b (fv X) x iX hI W h
        rw [el_fv, ← hY] at this; exact this
      have hadd : ∀ W : World, W.cell? ⟨b, 0, none⟩ = some (vi p) → Calls Tryd.prog 73 #[.pointer (some ⟨b, 0, none⟩), vi (fv o), vi (fv Y)] W fun e w' => e = .returned (vi (fv U)) ∧ ∃ k, w' = W.drewN k := fun W h => by
        have := add_any p hp2 b (fv o) (fv Y) io iY W h
        rw [el_fv, el_fv, ← hU] at this; exact this
      have hX1 : X * s = pw s (k + 1) := by rw [hX, pw_succ]
      have hnx : ∀ W : World, W.cell? ⟨b, 0, none⟩ = some (vi p) → Calls Tryd.prog 70 #[.pointer (some ⟨b, 0, none⟩), vi (fv X), vi (fv s)] W fun e w' => e = .returned (vi (fv (pw s (k + 1)))) ∧ ∃ k, w' = W.drewN k := fun W h => by
        have := mul_any p hp2 b (fv X) (fv s) iX iS W h
        rw [el_fv, el_fv, hX1] at this; exact this
      have HMUL := Lib.hid hmul
      have HADD := Lib.hid hadd
      have HNX := Lib.hid hnx
      have HST := Lib.hid hst
      have et : (k : Int).tmod n = (j : Int) := by rw [Int.tmod_eq_emod_of_nonneg (by omega), hj, Int.natCast_emod]
      have hn0' : ¬ n = 0 := by omega
      have i1 : (0 : Int) ≤ j := by omega
      have i2 : (j : Int) < n := by omega
      have hne1 : ¬ D = w.heap.size := by have := hD.lt; omega
      have hne2 : ¬ b = w.heap.size := by have := hD.fld.lt; omega
      clear hmul hadd hnx hst hX1 hU ho hY hX hj hx hxe
      have hmx : Tryd.prog.follows .mixedOrders = true := by kernel_rfl
      go_wp2
      refine wp_region_quiet_tail 29 hmx (by kernel_rfl) ?_
      simp only [List.take_succ_cons, List.take_zero, List.drop_succ_cons, List.drop_zero]
      repeat (quiet_step (first | (go_at_call 70; exact Calls.quiet_of (HMUL.out _ (by exact hcb))) | (go_at_call 73; exact Calls.quiet_of (HADD.out _ (by exact hcb)))))
      refine wpQuiet_nil ?_
      intro _ hw'
      obtain ⟨nq1, hw''⟩ := hw'
      subst hw''
      clear et i1 i2
      go_wp2
      go_quiet ((go_at_call 70; exact Calls.quiet_of (HNX.out _ (by exact setCell_keep hcb hne2))))
      go_wp2
      go_roundw
      case rel =>
        have h1 : OwnE (wr.drewN nq1) w.heap.size w.heap.size n L := hoe
        exact ⟨k + 1, L.set j U, by rw [← HL.out]; omega, by go_num, rfl, h1.store j U, HST.out, below_drewN ((below_drewN hb nq1).setCell (p := ⟨w.heap.size, j, none⟩) (Nat.le_refl _) _) _⟩
      case measure => simp [intOf]; omega
    · obtain rfl : k = len := by omega
      have hord := rootI_ord hp hn0 hD.size.2
      have hcond := root_cond hp hD.size hord
      have hdone := (show Wrapped s n (els p xs) (els p xs).length L by rw [List.length_map, ← HL.out]; exact HWR.out).done hord.one
      obtain ⟨⟨kk, hkk, hnk⟩, _⟩ := hD.size
      have hsp := spread_any p S D b n s kk hkk
      rw [← hnk] at hsp
      have hrun := hsp wr w.heap.size (.slice (some ⟨w.heap.size, 0, none⟩) n n) (fvs L) (fv (rootI p n)) (by simp [hoe.1]) (i64_fvs L hp2) (i64_fv _ hp2) (by rw [el_fv]; exact hcond) hDr hoe.2 hb.size
      have HRUN := Lib.hid hrun
      have HDONE := Lib.hid hdone
      clear hsp hrun hdone hcond hord hnk hd0 hd1 hd2 hcb
      go_wp2_with fail
      refine (HRUN.out).mono ?_
      rintro e w1 ⟨v1, ys, rfl, hown, _, hyd, hy1, hy2, hb1⟩
      rw [el_fv, els_fvs, HDONE.out] at hyd hy2
      have hys : ys = R := by
        rw [HR.out]
        by_cases h1 : n = 1
        · rw [hy1 h1, ← hyd, hy1 h1, els_fvs]
        · exact hy2 h1
      obtain ⟨A1, c1, rfl, hl1, hm1, _, hsl⟩ := hown.shape
      clear hyd hy1 hy2
      subst hys
      have hm2 : c1 ≤ 9223372036854775807 := by unfold maxLen at hm1; exact hm1
      go_wp2_with fail
      refine (clip_any A1 ys.length c1 hl1 hm2 _).mono ?_
      rintro e w2 ⟨rfl, rfl⟩
      go_wp2
      go_ret
      exact ⟨A1, ys.length, rfl, Nat.le_refl _, Nat.le_trans hl1 hm1, hsl, hb.trans (hb1.mono hb.size)⟩

/-- a slice of n ints that is read alone -/
def GivesN (n : Nat) (xs : List Int) (w : World) (e : Ending) (w' : World) : Prop := ∃ A c, xs.length = n ∧ e = .returned (.slice A n c) ∧ n ≤ c ∧ c ≤ maxLen ∧ SL w' A xs ∧ Below w.heap.size w w'
theorem Gives.n {xs : List Int} {w w' : World} {e : Ending} (h : Gives xs w e w') {n : Nat} (hn : xs.length = n) : GivesN n xs w e w' := by
  obtain ⟨A, c, h1, h2, h3, h4, h5⟩ := h
  subst hn
  exact ⟨A, c, rfl, h1, h2, h3, h4, h5⟩
theorem values_n (p S D b : Nat) [NeZero p] (n : Nat) (s : Fin p) (A : Option Addr) (m cap : Nat) (xs : List Int) (hml : xs.length = m) (hxs : ∀ x ∈ xs, I64 x) (hreach : m * 8 ≤ 281474976710656) (w : World) (hD : Dom w S D b p n s) (hs : SL w A xs) :
    Calls Tryd.prog 30 #[.pointer (some ⟨D, 0, none⟩), .slice A m cap] w fun e w' => GivesN n (fvs (valL s (rootI p n) n (els p xs))) w e w' := by
  subst hml
  exact (values_any p S D b n s A cap xs hxs hreach w hD hs).mono fun _ _ h => h.n (by simp [valL_length])
theorem SL.co {p : Nat} [NeZero p] {w : World} {A : Option Addr} {l : List (Fin p)} (h : SL w A (fvs l)) {k : Nat} (hk : k < l.length) : ∃ ad, A = some ad ∧ w.cell? (ad.add k) = some (vi (fv (co l k))) := by
  obtain ⟨ad, h1, _, h2⟩ := h.at_ (k := k) (by simpa using hk)
  exact ⟨ad, h1, by rw [h2, co_of_lt hk, List.getElem_map]⟩
end Go.Proofs.YtkhkoeibigpdnaaDoor

/- Walks: attestlaw2's plain and lives. -/
set_option linter.unusedVariables false
namespace Go.Proofs.YtkhkoeibigpdnaaDoor
open Go.RowKit Zp

/-- is there a domain? -/
def HasDom (p size t : Int) : Prop := HasField p ∧ ∃ n : Nat, size = n ∧ SizeOk p.toNat n ∧ ¬ t % p = 0

/-- domain.New where there is no domain of this field -/
def NoDomE (w : World) (e : Ending) (w' : World) : Prop := (e = NoDom 2 ∨ e = NoDom 3) ∧ w = w'
theorem dnew_none (q S b : Nat) [NeZero q] (size t : Int) (hs : I64 size) (ht : I64 t) (w : World) (F : Fld w S b q) (h : ¬ ∃ n : Nat, size = n ∧ SizeOk q n ∧ ¬ t % (q : Int) = 0) :
    Calls Tryd.prog 65 #[.pointer (some ⟨b, 0, none⟩), vi size, vi t] w fun e w' => NoDomE w e w' := by
  have hc := F.c0
  by_cases h1 : size < 1 ∨ 65536 < size
  · exact (dnew_size1 b size t h1 w).mono fun e w' ⟨h1, h2⟩ => ⟨.inl h1, h2⟩
  · obtain ⟨n, rfl⟩ := Int.eq_ofNat_of_zero_le (a := size) (by omega)
    by_cases h2 : SizeOk q n
    · have h3 : el q t = 0 := by
        false_or_by_contra
        rename_i h3
        exact h ⟨n, rfl, h2, fun h4 => h3 (el_eq_zero.2 h4)⟩
      exact (dnew_shift q b n t ht F.two F.max h2 h3 w hc).mono fun e w' ⟨h1, h2⟩ => ⟨.inr h1, h2⟩
    · exact (dnew_size2 q b n t (by omega) (by omega) F.two F.max h2 w hc).mono fun e w' ⟨h1, h2⟩ => ⟨.inl h1, h2⟩


/-- the parts of HasDom -/
theorem HasDom.parts {p size t : Int} (h : HasDom p size t) : ∃ q n : Nat, p = q ∧ size = n ∧ 3 ≤ q ∧ q ≤ 2147483647 ∧ IsPrime q ∧ SizeOk q n ∧ ¬ t % (q : Int) = 0 := by
  obtain ⟨⟨h3, hm, hpr⟩, n, rfl, hs, h0⟩ := h
  obtain ⟨q, rfl⟩ := Int.eq_ofNat_of_zero_le (a := p) (by omega)
  rw [Int.toNat_natCast] at hpr hs
  exact ⟨q, n, rfl, rfl, by omega, by omega, hpr, hs, h0⟩

/-- a list written out reads as it is -/
theorem sl_lit (w : World) (xs : List Int) : SL (w.alloc (.cells (xs.map vi).toArray 3)) (some ⟨w.heap.size, 0, none⟩) xs := by
  refine ⟨by simp, fun hn => ⟨_, rfl, by simp, fun j u hu => ?_⟩⟩
  have e : (⟨w.heap.size, 0, none⟩ : Addr).add j = ⟨w.heap.size, j, none⟩ := by simp [Addr.add]; intro h; exact h.symm
  rw [e, (Blk.new w 3 (xs.map vi).toArray).cell]
  simpa using hu

theorem size4 : SizeOk 17 4 := ⟨⟨2, by omega, rfl⟩, ⟨4, rfl⟩⟩
theorem root17 : rootI 17 ((4 : Nat) : Int) = el 17 13 := by
  rw [rootI_nat (by omega) (by decide) (by omega), gen17]
  decide
theorem vals17 : fvs (valL (el 17 3) (rootI 17 ((4 : Nat) : Int)) 4 (els 17 [1, 1])) = [4, 6, 15, 13] := by
  rw [root17]
  decide

theorem ints_n (A B : Option Addr) (n c m d : Nat) (xs ys : List Int) (hnx : xs.length = n) (hmy : ys.length = m) (hn : n ≤ 9223372036854775807) (hm : m ≤ 9223372036854775807) (w : World) (hsx : SL w A xs) (hsy : SL w B ys) :
    Calls Tryd.prog 21 #[.slice A n c, .slice B m d] w fun e w' => e = .returned (.bool (eqB xs ys)) ∧ ∃ k, w' = w.drewN k := by
  subst hnx hmy
  exact ints_any A B c d xs ys hn hm w hsx hsy
end Go.Proofs.YtkhkoeibigpdnaaDoor
