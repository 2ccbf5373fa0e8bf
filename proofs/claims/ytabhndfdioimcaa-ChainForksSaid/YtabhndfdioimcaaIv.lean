/- Plain facts on the greatest common divisor and on what makes 1 of a number modulo another. No program is in sight. -/
import Derived.Test.YtabhndfdioimcaaEl
set_option linter.unusedVariables false
namespace Zp

theorem gcd_step (a b : Nat) : Nat.gcd b (a % b) = Nat.gcd a b := by rw [Nat.gcd_comm b, ← Nat.gcd_rec, Nat.gcd_comm]
/-- a number with its sign -/
def sgnd (s : Bool) (n : Nat) : Int := if s then (n : Int) else -(n : Int)
theorem sgnd_not (s : Bool) (n : Nat) : sgnd (!s) n = - sgnd s n := by cases s <;> simp [sgnd]
/-- what the program's loop knows: x = sgnd g X, y = - sgnd g Y -/
structure Euc (a n : Nat) (g : Bool) (X Y r s : Nat) : Prop where
  rpos : 0 < r
  sum : X * s + Y * r = n
  xr : ∃ t : Int, sgnd g X * a = r + t * n
  ys : ∃ t : Int, (- sgnd g Y) * a = s + t * n
  gcd : Nat.gcd r s = Nat.gcd a n
  rle : r ≤ a + n
  sle : s ≤ a + n
  Xle : X ≤ n + 1
theorem Euc.start (a n : Nat) (ha : 0 < a) : Euc a n true 1 0 a n :=
  ⟨ha, by omega, ⟨0, by simp [sgnd]⟩, ⟨-1, by simp [sgnd]; omega⟩, rfl, by omega, by omega, by omega⟩
theorem Euc.step {a n : Nat} {g : Bool} {X Y r s : Nat} (h : Euc a n g X Y r s) (hs : 0 < s) : Euc a n (!g) Y (X + r / s * Y) s (r % s) := by
  have hdm := Nat.div_add_mod r s
  have hY : Y ≤ n := by
    have h1 := h.sum
    have h2 : Y * 1 ≤ Y * r := Nat.mul_le_mul_left Y h.rpos
    omega
  refine ⟨hs, ?_, ?_, ?_, ?_, h.sle, by have := Nat.mod_lt r hs; have := h.sle; omega, by omega⟩
  · have h1 := h.sum
    generalize r / s = q at *
    generalize r % s = m at *
    subst hdm
    rw [Nat.add_mul, Nat.mul_add] at *
    have e : q * Y * s = Y * (s * q) := by rw [Nat.mul_comm q Y, Nat.mul_assoc, Nat.mul_comm q s]
    omega
  · obtain ⟨t, ht⟩ := h.ys
    exact ⟨t, by rw [sgnd_not]; exact ht⟩
  · obtain ⟨t, ht⟩ := h.xr
    obtain ⟨u, hu⟩ := h.ys
    refine ⟨t - (r / s : Nat) * u, ?_⟩
    have e1 : (- sgnd (!g) (X + r / s * Y) : Int) = sgnd g X - ((r / s : Nat) : Int) * (- sgnd g Y) := by
      rw [sgnd_not, Int.neg_neg]
      unfold sgnd
      cases g
      · simp only [Bool.false_eq_true, if_false]
        rw [Int.natCast_add, Int.natCast_mul, Int.neg_neg, Int.neg_add]
        omega
      · simp only [if_true]
        rw [Int.natCast_add, Int.natCast_mul, Int.mul_neg]
        omega
    have e2 : ((r % s : Nat) : Int) = (r : Int) - ((r / s : Nat) : Int) * s := by
      have h := congrArg (fun n : Nat => (n : Int)) hdm
      simp only [Int.natCast_add, Int.natCast_mul] at h
      rw [Int.mul_comm (s : Int)] at h
      omega
    rw [e1, Int.sub_mul, Int.mul_assoc, ht, hu, e2, Int.mul_add, Int.sub_mul, Int.mul_assoc]
    omega
  · rw [gcd_step]; exact h.gcd
theorem Euc.bounds {a n : Nat} {g : Bool} {X Y r s : Nat} (h : Euc a n g X Y r s) : Y ≤ n ∧ (0 < s → X + r / s * Y ≤ n) := by
  have h2 : Y * 1 ≤ Y * r := Nat.mul_le_mul_left Y h.rpos
  have h1 := h.sum
  refine ⟨by omega, fun hs => ?_⟩
  have h3 := (h.step hs).sum
  have h4 : (X + r / s * Y) * 1 ≤ (X + r / s * Y) * s := Nat.mul_le_mul_left _ hs
  omega
/-- what is left at the end makes 1 -/
theorem Euc.done {a n : Nat} {g : Bool} {X Y r : Nat} (h : Euc a n g X Y r 0) (hg : Nat.gcd a n = 1) (hn : 0 < n) : 0 ≤ (sgnd g X) % (n : Int) ∧ (sgnd g X) % (n : Int) < n ∧ ∃ t : Int, ((sgnd g X) % (n : Int)) * a = 1 + t * n := by
  have hr : r = 1 := by have := h.gcd; rw [Nat.gcd_zero_right] at this; omega
  obtain ⟨t, ht⟩ := h.xr
  refine ⟨Int.emod_nonneg _ (by omega), Int.emod_lt_of_pos _ (by omega), t - (sgnd g X) / (n : Int) * a, ?_⟩
  have e := Int.emod_def (sgnd g X) (n : Int)
  rw [e, Int.sub_mul, ht, hr, Int.sub_mul]
  have e2 : (n : Int) * (sgnd g X / n) * a = sgnd g X / n * a * n := by
    rw [Int.mul_comm (n : Int), Int.mul_assoc, Int.mul_comm (n : Int), ← Int.mul_assoc]
  rw [e2]
  omega
/-- what undoes a power -/
theorem pw_root {p : Nat} [NeZero p] (hp : IsPrime p) {k m : Nat} (h2 : 3 ≤ p) (h : ∃ t : Int, (m : Int) * k = 1 + t * ((p - 1 : Nat) : Int)) (z : Fin p) : pw (pw z k) m = z := by
  obtain ⟨t, ht⟩ := h
  have ht0 : 0 ≤ t := by
    false_or_by_contra
    have h1 : 0 ≤ (m : Int) * k := Int.mul_nonneg (by omega) (by omega)
    have h3 : t * ((p - 1 : Nat) : Int) ≤ (-1) * ((p - 1 : Nat) : Int) := Int.mul_le_mul_of_nonneg_right (by omega) (by omega)
    omega
  obtain ⟨u, rfl⟩ := Int.eq_ofNat_of_zero_le ht0
  have e : k * m = 1 + u * (p - 1) := by
    have : ((k * m : Nat) : Int) = ((1 + u * (p - 1) : Nat) : Int) := by
      rw [Int.natCast_mul, Int.natCast_add, Int.natCast_mul, Int.mul_comm]
      exact ht
    exact Int.ofNat.inj this
  rw [← pw_mul, e]
  by_cases hz : z = 0
  · rw [hz, zero_pw _ (by omega)]
  · rw [pw_add, pw_one, Nat.mul_comm, pw_mul, fermat hp hz, one_pw]; grind
end Zp
