/- Walks of the field's small methods: Of, Add, Sub, Mul, Neg, power, Inv, Div, Pow. -/
import Derived.Test.YtiohededmcfhjaaDoorChecked
import Derived.Test.YtiohededmcfhjaaDoorMem
import Derived.Test.YtiohededmcfhjaaDoorEl
import Derived.Outline
import Derived.Deep.QuietTactic
import Derived.BigQuiet
import Derived.WalkLawsBesides
import Derived.WalkSpells
import Derived.Laws.BitsAllLaws
import Derived.Laws.BitsLemmas
set_option linter.unusedVariables false
namespace Go.Proofs.YtiohededmcfhjaaDoor
open Go.RowKit Zp

theorem tmod_emod (n : Int) (p : Nat) (hp : 0 < p) : n.tmod p = if 0 ≤ n then n % p else if n % p = 0 then 0 else n % p - p := by
  have hp' : (0 : Int) < p := by omega
  by_cases h : 0 ≤ n
  · rw [if_pos h, Int.tmod_eq_emod_of_nonneg h]
  · rw [if_neg h, Int.tmod_eq_emod]
    have hd : (p : Int) ∣ n ↔ n % p = 0 := Int.dvd_iff_emod_eq_zero
    by_cases h0 : n % (p : Int) = 0
    · rw [if_pos h0, if_pos (Or.inr (hd.2 h0)), h0]; rfl
    · rw [if_neg h0, if_neg (by rw [hd]; simp only [not_or]; exact ⟨by omega, h0⟩)]
      rw [Int.natAbs_natCast]

set_option maxHeartbeats 400000 in
theorem of_any (p : Nat) (hp : 0 < p) (hp2 : p ≤ 2147483647) (b : Nat) (n : Int) (hn : I64 n) (w : World) (hc : w.cell? ⟨b, 0, none⟩ = some (vi p)) :
    Calls Tryd.prog 32 #[.pointer (some ⟨b, 0, none⟩), vi n] w fun e w' => e = .returned (vi (n % p)) ∧ w = w' := by
  obtain ⟨hn1, hn2⟩ := hn
  have ht := tmod_emod n p hp
  have h1 := Int.emod_nonneg n (b := (p : Int)) (by omega)
  have h2 := Int.emod_lt_of_pos n (b := (p : Int)) (by omega)
  have b1 : -(p : Int) < n.tmod p := by rw [ht]; split <;> (try split) <;> omega
  have b2 : n.tmod p < p := by rw [ht]; split <;> (try split) <;> omega
  have H := Lib.hid ht
  clear ht
  go_enter Tryd.func32, Tryd.ntmps32
  go_wp2
  · go_ret
    have hlt : n.tmod p < 0 := by assumption
    have h := H.out
    refine ⟨ret_int ?_, rfl⟩
    rw [h] at hlt ⊢
    split at hlt <;> (try split at hlt) <;> simp_all <;> omega
  · go_ret
    have hge : 0 ≤ n.tmod p := by assumption
    have h := H.out
    refine ⟨ret_int ?_, rfl⟩
    rw [h] at hge ⊢
    split at hge <;> (try split at hge) <;> simp_all <;> omega

theorem of_el (p : Nat) [NeZero p] (hp2 : p ≤ 2147483647) (b : Nat) (n : Int) (hn : I64 n) (w : World) (hc : w.cell? ⟨b, 0, none⟩ = some (vi p)) :
    Calls Tryd.prog 32 #[.pointer (some ⟨b, 0, none⟩), vi n] w fun e w' => e = .returned (vi (fv (el p n))) ∧ w' = w :=
  (of_any p ppos hp2 b n hn w hc).mono fun e w' ⟨h1, h2⟩ => ⟨by rw [h1, fv_el], h2.symm⟩

set_option maxHeartbeats 400000 in
theorem add_any (p : Nat) [NeZero p] (hp2 : p ≤ 2147483647) (b : Nat) (m n : Int) (hm : I64 m) (hn : I64 n) (w : World) (hc : w.cell? ⟨b, 0, none⟩ = some (vi p)) :
    Calls Tryd.prog 33 #[.pointer (some ⟨b, 0, none⟩), vi m, vi n] w fun e w' => e = .returned (vi (fv (el p m + el p n))) ∧ ∃ k, w' = w.drewN k := by
  have h1 := fv_nonneg (el p m)
  have h2 := fv_lt (el p m)
  have h3 := fv_nonneg (el p n)
  have h4 := fv_lt (el p n)
  go_enter Tryd.func33, Tryd.ntmps33
  go_wp2
  go_quiet ((go_at_call 32; exact Calls.quiet_of_same (of_el p hp2 b _ ‹_› _ hc)))
  go_wp2
  go_ret
  exact ⟨ret_int (fv_add _ _).symm, _, rfl⟩

theorem mul_bd {p : Nat} (x y : Fin p) (hp2 : p ≤ 2147483647) : 0 ≤ fv x * fv y ∧ fv x * fv y ≤ 4611686014132420609 := by
  have h1 := x.isLt
  have h2 := y.isLt
  have h3 : x.val * y.val ≤ 2147483647 * 2147483647 := Nat.mul_le_mul (by omega) (by omega)
  have e : fv x * fv y = ((x.val * y.val : Nat) : Int) := by unfold fv; rw [Int.natCast_mul]
  rw [e]; omega

set_option maxHeartbeats 400000 in
theorem mul_any (p : Nat) [NeZero p] (hp2 : p ≤ 2147483647) (b : Nat) (m n : Int) (hm : I64 m) (hn : I64 n) (w : World) (hc : w.cell? ⟨b, 0, none⟩ = some (vi p)) :
    Calls Tryd.prog 25 #[.pointer (some ⟨b, 0, none⟩), vi m, vi n] w fun e w' => e = .returned (vi (fv (el p m * el p n))) ∧ ∃ k, w' = w.drewN k := by
  have h1 := fv_nonneg (el p m)
  have h2 := fv_lt (el p m)
  have h3 := fv_nonneg (el p n)
  have h4 := fv_lt (el p n)
  obtain ⟨h5, h6⟩ := mul_bd (el p m) (el p n) hp2
  go_enter Tryd.func25, Tryd.ntmps25
  go_wp2
  go_quiet ((go_at_call 32; exact Calls.quiet_of_same (of_el p hp2 b _ ‹_› _ hc)))
  go_wp2
  go_ret
  exact ⟨ret_int (fv_mul _ _).symm, _, rfl⟩

set_option maxHeartbeats 400000 in
theorem sub_any (p : Nat) [NeZero p] (hp2 : p ≤ 2147483647) (b : Nat) (m n : Int) (hm : I64 m) (hn : I64 n) (w : World) (hc : w.cell? ⟨b, 0, none⟩ = some (vi p)) :
    Calls Tryd.prog 26 #[.pointer (some ⟨b, 0, none⟩), vi m, vi n] w fun e w' => e = .returned (vi (fv (el p m - el p n))) ∧ w = w' := by
  have h1 := fv_nonneg (el p m)
  have h2 := fv_lt (el p m)
  have h3 := fv_nonneg (el p n)
  have h4 := fv_lt (el p n)
  have h5 : I64 (fv (el p m) - fv (el p n)) := by constructor <;> omega
  go_enter Tryd.func26, Tryd.ntmps26
  go_wp2_with (go_at_call 32; refine (of_el p hp2 b _ (by first | assumption | (constructor <;> omega)) _ hc).mono ?_; rintro e w' ⟨rfl, rfl⟩)
  go_ret
  exact ⟨ret_int (by rw [el_sub, el_fv, el_fv]), rfl⟩


theorem ofInt_i64 (a : Nat) (ha : a < 9223372036854775808) : (BitVec.ofInt 64 (a : Int)).toNat = a := by
  rw [BitVec.ofInt_natCast, BitVec.toNat_ofNat]; exact Nat.mod_eq_of_lt (by omega)
theorem i64_and_nat (a b : Nat) (ha : a < 9223372036854775808) (hb : b < 9223372036854775808) : bits .and .i64 (a : Int) (b : Int) = ((a &&& b : Nat) : Int) := by
  have hx : a &&& b < 2 ^ 63 := Nat.and_lt_two_pow _ (by omega)
  show IntKind.i64.wrap ((BitVec.ofInt 64 (a : Int) &&& BitVec.ofInt 64 (b : Int)).toNat : Int) = _
  rw [BitVec.toNat_and, ofInt_i64 a ha, ofInt_i64 b hb, IntKind.wrap_i64]
  omega
theorem and_one (k : Nat) (hk : (k : Int) ≤ 9223372036854775807) : bits .and .i64 (k : Int) 1 = ((k % 2 : Nat) : Int) := by
  have := i64_and_nat k 1 (by omega) (by omega)
  rw [Nat.and_one_is_mod] at this
  exact this

set_option maxHeartbeats 400000 in
theorem power_any (p : Nat) [NeZero p] (hp1 : 2 ≤ p) (hp2 : p ≤ 2147483647) (b : Nat) (m n : Int) (hm : I64 m) (hn : I64 n) (hn0 : 0 ≤ n) (w : World) (hc : w.cell? ⟨b, 0, none⟩ = some (vi p)) :
    Calls Tryd.prog 48 #[.pointer (some ⟨b, 0, none⟩), vi m, vi n] w fun e w' => e = .returned (vi (fv (pw (el p m) n.toNat))) ∧ w = w' := by
  have h1 := fv_nonneg (el p m)
  have h2 := fv_lt (el p m)
  go_enter Tryd.func48, Tryd.ntmps48
  go_wp2_with (go_at_call 32; refine (of_el p hp2 b _ hm _ hc).mono ?_; rintro e w' ⟨rfl, rfl⟩)
  go_loop [1, 2, 7] (fun a n' out => ∃ (k : Nat) (A O : Fin p), (k : Int) ≤ n ∧ a = vi (fv A) ∧ n' = vi k ∧ out = vi (fv O) ∧ O * pw A k = pw (el p m) n.toNat) (fun _ n' _ => (intOf n').toNat)
  case atStart => exact ⟨n.toNat, el p m, 1, by omega, rfl, by go_num, by rw [fv_one hp1], by grind⟩
  case round =>
    obtain ⟨k, A, O, hk, rfl, rfl, rfl, hO⟩ := hrel
    obtain ⟨h5, h6⟩ := mul_bd O A hp2
    obtain ⟨h7, h8⟩ := mul_bd A A hp2
    have hs := pow_step A k
    have hb := and_one k (by have := hn.2; omega)
    have HO := Lib.hid hO
    have HS := Lib.hid hs
    have HB := Lib.hid hb
    clear hO hs hb
    go_wp2
    · have h1 : (bits BinOp.and IntKind.i64 (↑k) 1 == 1) = true := by assumption
      rw [HB.out, beq_iff_eq] at h1
      have h0 : 0 < k := by assumption
      go_round
      case rel => exact ⟨k / 2, A * A, O * A, by omega, by rw [fv_mul], by go_num, by rw [fv_mul], by rw [← HO.out, HS.out, if_pos (by omega)]; grind⟩
      case measure => simp [intOf]; omega
    · have h1 : (bits BinOp.and IntKind.i64 (↑k) 1 == 1) = false := by assumption
      rw [HB.out, beq_eq_false_iff_ne] at h1
      have h0 : 0 < k := by assumption
      go_round
      case rel => exact ⟨k / 2, A * A, O, by omega, by rw [fv_mul], by go_num, rfl, by rw [← HO.out, HS.out, if_neg (by omega)]; grind⟩
      case measure => simp [intOf]; omega
    · have h0 : ¬ 0 < k := by assumption
      obtain rfl : k = 0 := by omega
      go_ret
      have h := HO.out
      refine ⟨ret_int ?_, rfl⟩
      rw [← h, pw_zero]
      congr 1
      grind
end Go.Proofs.YtiohededmcfhjaaDoor
