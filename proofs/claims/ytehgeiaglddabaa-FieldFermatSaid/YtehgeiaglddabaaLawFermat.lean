/- The walk of the law FieldFermat. -/
import Derived.Test.YtehgeiaglddabaaLv1
set_option linter.unusedVariables false
namespace Go.Proofs.Ytehgeiaglddabaa
open Go.RowKit Zp

theorem pw_p {p : Nat} [NeZero p] (hp : IsPrime p) (x : Fin p) : pw x p = x := by
  by_cases hx : x = 0
  · rw [hx, zero_pw _ (by have := hp.1; omega)]
  · obtain ⟨k, hk⟩ : ∃ k, p = k + 1 := ⟨p - 1, by have := hp.1; omega⟩
    have h : pw x p = pw x (p - 1) * x := by
      rw [← pw_succ]
      congr 1
      omega
    rw [h, fermat hp hx]
    grind

set_option maxHeartbeats 2000000 in
theorem fermat_walk (p : Int) (hp : I64 p) (a : Int) (ha : I64 a) (w : World) :
    Calls Try.prog 4 #[vi p, vi a] w fun e w' => e = .returned (.bool true) ∧ Below w.heap.size w w' := by
  by_cases hF : HasField p
  · obtain ⟨h3, hm, hpr⟩ := hF
    obtain ⟨n, rfl⟩ := Int.eq_ofNat_of_zero_le (a := p) (by omega)
    rw [Int.toNat_natCast] at hpr
    haveI := hpr.ne
    have hp1 := hpr.1
    have hp2 : n ≤ 2147483647 := by omega
    have hn := fun w => new_prime n w (by omega) (by omega) hpr
    have HN := Lib.hid hn
    clear hn hm h3
    go_enter Try.func4, Try.ntmps4
    go_wp2_with fail
    refine (lives1_any _).mono ?_
    rintro e w1 ⟨b0, rfl, _, hbel0⟩
    go_wp2_with fail
    refine (HN.out _).mono ?_
    rintro e w2 ⟨b, rfl, F, hbel, _⟩
    have hb2 := hbel0.trans (hbel.mono hbel0.size)
    have hc := F.c0
    obtain ⟨A, c, fs, hc1, hfl, hfac, hsl⟩ := F.c1
    have hs : SL w2 A (fs.map (fun q : Nat => (q : Int))) := by unfold SL; rw [List.length_map]; exact hsl
    have hpw : zpw (el n a) (n : Int) = el n a := by rw [zpw, if_pos (by omega), Int.toNat_natCast, pw_p hpr]
    have t1 : (fv (zpw (el n a) (n : Int)) != fv (el n a)) = false := by rw [hpw, bne_self_eq_false]
    have HPW := Lib.hid hpw
    clear hpw hbel0 hbel hsl
    have hF' := Lib.hid F
    clear F
    by_cases hx : el n a = 0
    · have t2 : (fv (el n a) == 0) = true := by rw [hx]; rfl
      have t3 : (((ordN (el n a) : Nat) : Int) == 0) = true := by rw [hx, ordN_zero hpr]; rfl
      have HX := Lib.hid hx
      clear hx
      go_wp2_with (first | (go_at_call 16; refine (pow_any n hp1 hp2 b a _ ha hp _ (by exact hc)).mono ?_; rintro e w' ⟨rfl, k, rfl⟩) | (go_at_call 17; refine (of_el n hp2 b a ha _ (by exact hc)).mono ?_; rintro e w' ⟨rfl, rfl⟩) | (go_at_call 18; refine (order_any n hpr hp2 fs hfac b a ha _ (by exact hc) A c (by exact hc1) hfl (by exact hs)).mono ?_; rintro e w' ⟨rfl, rfl⟩))
      go_ret
      exact ⟨rfl, below_drewN hb2 _⟩
    · have t2 : (fv (el n a) == 0) = false := by rw [beq_eq_false_iff_ne]; exact fun h => hx (fv_eq_zero.1 h)
      have ho := ordN_ord hpr hx
      have ho1 := ho.pos hpr hx
      have hod := ho.dvd hpr hx
      have hole : ordN (el n a) ≤ n - 1 := Nat.le_of_dvd (by omega) hod
      obtain ⟨o, hoo⟩ : ∃ o, o = ordN (el n a) := ⟨_, rfl⟩
      rw [← hoo] at ho1 hod hole
      have hone : pw (el n a) o = 1 := by rw [hoo]; exact ho.one
      have t3 : ¬ ((o : Int) < 1) := by omega
      have e1 : ((n : Int) - 1) % (o : Int) = 0 := by
        have : ((n : Int) - 1) = ((n - 1 : Nat) : Int) := by omega
        rw [this, ← Int.natCast_emod, Nat.mod_eq_zero_of_dvd hod]; rfl
      have t4 : ((((n : Int) - 1) % (o : Int)) != 0) = false := by rw [e1]; rfl
      have t5 : (fv (zpw (el n a) (o : Int)) == 1) = true := by rw [zpw, if_pos (by omega), Int.toNat_natCast, hone, fv_one hp1]; rfl
      have hoI : I64 (o : Int) := ⟨by omega, by omega⟩
      have HX := Lib.hid hx
      have HOO := Lib.hid hoo
      have HONE := Lib.hid hone
      clear hx hoo hone e1 hod ho
      go_wp2_with fail
      refine (pow_any n hp1 hp2 b a _ ha hp _ (by exact hc)).mono ?_
      rintro e w' ⟨rfl, k, rfl⟩
      go_wp2_with fail
      refine (of_el n hp2 b a ha _ (by exact hc)).mono ?_
      rintro e w' ⟨rfl, rfl⟩
      go_wp2_with fail
      refine (order_any n hpr hp2 fs hfac b a ha _ (by exact hc) A c (by exact hc1) hfl (by exact hs)).mono ?_
      rintro e w' ⟨rfl, rfl⟩
      rw [← HOO.out]
      go_wp2_with fail
      refine (pow_any n hp1 hp2 b a _ ha hoI _ (by exact hc)).mono ?_
      rintro e w' ⟨rfl, k2, rfl⟩
      go_wp2
      go_ret
      exact ⟨rfl, below_drewN hb2 _⟩
  · have hn := fun w => new_none p w hF
    have HN := Lib.hid hn
    clear hn hF
    go_enter Try.func4, Try.ntmps4
    go_wp2_with fail
    refine (lives1_any _).mono ?_
    rintro e w1 ⟨b0, rfl, _, hbel0⟩
    go_wp2_with fail
    refine (HN.out _).mono ?_
    rintro e w2 ⟨rfl, rfl⟩
    go_wp2
    go_ret
    exact ⟨rfl, hbel0⟩
end Go.Proofs.Ytehgeiaglddabaa
