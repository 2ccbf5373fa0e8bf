/- Walks: sponge.gcd, sponge.inverse. -/
import Derived.Test.YtabhndfdioimcaaFw4
import Derived.Test.YtabhndfdioimcaaIv
import Derived.IntWalk
set_option linter.unusedVariables false
namespace Go.Proofs.Ytabhndfdioimcaa
open Go.RowKit Zp

set_option maxHeartbeats 1000000 in
theorem sgcd_any (a n : Nat) (ha : a ≤ 2147483647) (hn : n ≤ 2147483647) (w : World) :
    Calls Try.prog 62 #[vi a, vi n] w fun e w' => e = .returned (vi (Nat.gcd a n)) ∧ ∃ k, w' = w.drewN k := by
  go_enter Try.func62, Try.ntmps62
  go_wp2
  go_loopw [0, 1] (fun x y wr => ∃ (r s k : Nat), x = vi r ∧ y = vi s ∧ r ≤ 2147483647 ∧ s ≤ 2147483647 ∧ Nat.gcd r s = Nat.gcd a n ∧ wr = w.drewN k) (fun _ y _ => (intOf y).toNat)
  case atStart => exact ⟨a, n, 0, rfl, rfl, ha, hn, rfl, rfl⟩
  case round =>
    obtain ⟨r, s, k, rfl, rfl, hr, hs, hg, rfl⟩ := hrel
    have HG := Lib.hid hg
    clear hg
    by_cases h0 : s = 0
    · have HH := Lib.hid h0
      have t1 : ¬ (0 : Int) < (s : Int) := by omega
      clear h0
      go_wp2
      go_ret
      exact ⟨ret_int (by have := HG.out; rw [HH.out, Nat.gcd_zero_right] at this; rw [this]), k, rfl⟩
    · have t1 : (0 : Int) < (s : Int) := by omega
      have t2 : ¬ s = 0 := h0
      have t3 : ((s : Int) == 0) = false := by rw [beq_eq_false_iff_ne]; omega
      have e1 : (r : Int).tmod (s : Int) = ((r % s : Nat) : Int) := by rw [Int.tmod_eq_emod_of_nonneg (by omega), Int.natCast_emod]
      have hlt := Nat.mod_lt r (show 0 < s by omega)
      have hgs := gcd_step r s
      obtain ⟨m, hm⟩ : ∃ m, m = r % s := ⟨_, rfl⟩
      rw [← hm] at e1 hlt hgs
      have HGS := Lib.hid hgs
      clear hgs hm
      go_wp2
      go_region
      all_goals (
        go_wp2
        go_roundw
        case rel => exact ⟨s, m, k + 1, rfl, rfl, hs, by omega, by rw [HGS.out, HG.out], rfl⟩
        case measure => simp [intOf]; omega)
set_option maxHeartbeats 2000000 in
theorem sinv_any (a n : Nat) (ha0 : 0 < a) (ha : a ≤ 2147483647) (hn0 : 0 < n) (hn : n ≤ 2147483647) (hg : Nat.gcd a n = 1) (w : World) :
    Calls Try.prog 63 #[vi a, vi n] w fun e w' => (∃ m : Nat, e = .returned (vi m) ∧ m < n ∧ ∃ t : Int, (m : Int) * a = 1 + t * (n : Int)) ∧ w = w' := by
  have HG := Lib.hid hg
  clear hg
  go_enter Try.func63, Try.ntmps63
  go_wp2
  go_loop [5, 6, 7, 8] (fun x y r s => ∃ (g : Bool) (X Y R S : Nat), x = vi (sgnd g X) ∧ y = vi (- sgnd g Y) ∧ r = vi R ∧ s = vi S ∧ Euc a n g X Y R S) (fun _ _ _ s => (intOf s).toNat)
  case atStart => exact ⟨true, 1, 0, a, n, rfl, rfl, rfl, rfl, Euc.start a n ha0⟩
  case round =>
    obtain ⟨g, X, Y, R, S, rfl, rfl, rfl, rfl, he⟩ := hrel
    have HE := Lib.hid he
    have hX := he.Xle
    have hR := he.rle
    have hSle := he.sle
    obtain ⟨hY, hq⟩ := he.bounds
    clear he
    have hxb : -(X : Int) ≤ sgnd g X ∧ sgnd g X ≤ X := by unfold sgnd; cases g <;> simp <;> omega
    have hyb : -(Y : Int) ≤ sgnd g Y ∧ sgnd g Y ≤ Y := by unfold sgnd; cases g <;> simp <;> omega
    by_cases h0 : S = 0
    · have hE := HE.out
      rw [h0] at hE
      have hd := hE.done HG.out hn0
      obtain ⟨d1, d2, d3⟩ := hd
      have ex : ((sgnd g X).tmod n + n).tmod n = (sgnd g X) % (n : Int) := by
        have hb1 := Int.tmod_lt_of_pos (sgnd g X) (show (0 : Int) < n by omega)
        have hb2 := Int.lt_tmod_of_pos (sgnd g X) (show (0 : Int) < n by omega)
        rw [Int.tmod_eq_emod_of_nonneg (by omega), Int.add_emod_right, Int.tmod_eq_emod]
        split
        · rw [show ((0 : Nat) : Int) = 0 from rfl, Int.sub_zero, Int.emod_emod_of_dvd _ (Int.dvd_refl _)]
        · rw [Int.natAbs_natCast, Int.sub_emod, Int.emod_self, Int.sub_zero, Int.emod_emod_of_dvd _ (Int.dvd_refl _), Int.emod_emod_of_dvd _ (Int.dvd_refl _)]
      have hb1 := Int.tmod_lt_of_pos (sgnd g X) (show (0 : Int) < n by omega)
      have hb2 := Int.lt_tmod_of_pos (sgnd g X) (show (0 : Int) < n by omega)
      obtain ⟨m, hm⟩ := Int.eq_ofNat_of_zero_le d1
      rw [hm] at ex d2 d3
      have D3 := Lib.hid d3
      have t1 : ¬ (0 : Int) < (S : Int) := by omega
      have t3 : ((n : Int) == 0) = false := by rw [beq_eq_false_iff_ne]; omega
      have t4 : ¬ n = 0 := by omega
      obtain ⟨Z, hZ⟩ : ∃ Z, Z = sgnd g X := ⟨_, rfl⟩
      rw [← hZ] at ex hb1 hb2 ⊢
      have i1 : IntKind.i64.wrap (Z.tmod n + n) = Z.tmod n + n := IntWalk.i64_in _ (by omega)
      have i2 : IntKind.i64.wrap (Z.tmod n) = Z.tmod n := IntWalk.i64_in _ (by omega)
      clear d1 d3 hm hZ hE h0 hxb
      go_wp2
      go_ret
      exact ⟨⟨m, rfl, by omega, D3.out⟩, rfl⟩
    · have hS0 : 0 < S := by omega
      have hst := HE.out.step hS0
      have hq' := hq hS0
      have hrm := Nat.mod_lt R hS0
      have hdm := Nat.div_add_mod R S
      obtain ⟨Q, hQ⟩ : ∃ Q, Q = R / S := ⟨_, rfl⟩
      have e1 : (R : Int).tdiv (S : Int) = (Q : Int) := by rw [Int.tdiv_eq_ediv_of_nonneg (by omega), hQ, Int.natCast_ediv]
      rw [← hQ] at hst hq' hdm
      have e2 : (R : Int) - (Q : Int) * S = ((R % S : Nat) : Int) := by
        have h := congrArg (fun n : Nat => (n : Int)) hdm
        simp only [Int.natCast_add, Int.natCast_mul] at h
        rw [Int.mul_comm (S : Int)] at h
        omega
      have e3 : sgnd g X - (Q : Int) * (- sgnd g Y) = - sgnd (!g) (X + Q * Y) := by
        rw [sgnd_not, Int.neg_neg]
        unfold sgnd
        cases g
        · simp only [Bool.false_eq_true, if_false]
          rw [Int.natCast_add, Int.natCast_mul, Int.neg_neg, Int.neg_add]
          omega
        · simp only [if_true]
          rw [Int.natCast_add, Int.natCast_mul, Int.mul_neg]
          omega
      have hQS : Q * S ≤ R := by rw [Nat.mul_comm]; omega
      have hQY : Q * Y ≤ n := by omega
      have b1 : (Q : Int) * S = ((Q * S : Nat) : Int) := by rw [Int.natCast_mul]
      have b2 : (Q : Int) * (- sgnd g Y) = - sgnd g (Q * Y) := by
        unfold sgnd
        cases g
        · simp only [Bool.false_eq_true, if_false]
          rw [Int.neg_neg, Int.neg_neg, Int.natCast_mul]
        · simp only [if_true]
          rw [Int.natCast_mul, Int.mul_neg]
      have b3 : -((Q * Y : Nat) : Int) ≤ sgnd g (Q * Y) ∧ sgnd g (Q * Y) ≤ ((Q * Y : Nat) : Int) := by unfold sgnd; cases g <;> simp <;> omega
      have hQ1 : Q ≤ R := by rw [hQ]; exact Nat.div_le_self _ _
      have hm0 : (R % S : Nat) < S := hrm
      obtain ⟨M, hM⟩ : ∃ M, M = R % S := ⟨_, rfl⟩
      rw [← hM] at hst e2 hm0
      have f1 : sgnd g Y = - (- sgnd g Y) := by omega
      obtain ⟨U, hU⟩ : ∃ U, U = sgnd g X := ⟨_, rfl⟩
      obtain ⟨V, hV⟩ : ∃ V, V = - sgnd g Y := ⟨_, rfl⟩
      rw [← hU, ← hV] at e3
      rw [← hV] at b2
      have hx2 : - sgnd g Y = sgnd (!g) Y := by rw [sgnd_not]
      have HST := Lib.hid hst
      have HE3 := Lib.hid e3
      have HVV := Lib.hid (hV.trans hx2)
      have t1 : (0 : Int) < (S : Int) := by omega
      have t3 : ((S : Int) == 0) = false := by rw [beq_eq_false_iff_ne]; omega
      have t4 : ¬ S = 0 := by omega
      have i1 : IntKind.i64.wrap ((Q : Int) * S) = (Q : Int) * S := IntWalk.i64_in _ (by omega)
      have i2 : IntKind.i64.wrap ((Q : Int) * V) = (Q : Int) * V := IntWalk.i64_in _ (by omega)
      have i3 : IntKind.i64.wrap (U - (Q : Int) * V) = U - (Q : Int) * V := IntWalk.i64_in _ (by omega)
      have i4 : IntKind.i64.wrap (Q : Int) = (Q : Int) := IntWalk.i64_in _ (by omega)
      rw [← hU, ← hV]
      clear hst e3 hQ hdm hU hV hx2 f1 hM hq hq' hQS hrm hxb hyb b1 b2 b3
      go_wp2
      go_round
      case rel => exact ⟨!g, Y, X + Q * Y, S, M, by rw [HVV.out], by rw [HE3.out], rfl, rfl, HST.out⟩
      case measure => simp [intOf]; omega
end Go.Proofs.Ytabhndfdioimcaa
