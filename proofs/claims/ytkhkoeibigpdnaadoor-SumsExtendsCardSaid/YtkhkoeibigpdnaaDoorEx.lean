/- Plain: a table at a point is straight in each variable; at a place's bits it is what stands there. -/
import Derived.Test.YtkhkoeibigpdnaaDoorSx
import Derived.Test.YtkhkoeibigpdnaaDoorDs
set_option linter.unusedVariables false
namespace Go.Proofs.YtkhkoeibigpdnaaDoor
open Zp
section
variable {p : Nat} [NeZero p]
/-- a table, as a function, at a point -/
def extF (f : Nat → Fin p) : List (Fin p) → Fin p
  | [] => f 0
  | r :: rs => extF (fun i => fixE (f i) (f (i + 2 ^ rs.length)) r) rs
theorem extF_congr {f g : Nat → Fin p} {rs : List (Fin p)} (h : ∀ i, i < 2 ^ rs.length → f i = g i) : extF f rs = extF g rs := by
  induction rs generalizing f g with
  | nil => exact h 0 (by simp)
  | cons r rs ih =>
    rw [extF, extF]
    refine ih fun i hi => ?_
    rw [h i (by simp only [List.length_cons, Nat.pow_succ]; omega), h (i + 2 ^ rs.length) (by simp only [List.length_cons, Nat.pow_succ]; omega)]
theorem co_extL {l : List (Fin p)} {rs : List (Fin p)} (h : l.length = 2 ^ rs.length) : co (extL l rs) 0 = extF (co l) rs := by
  induction rs generalizing l with
  | nil => rfl
  | cons r rs ih =>
    have hh : l.length / 2 = 2 ^ rs.length := by rw [h, List.length_cons, Nat.pow_succ]; omega
    rw [extL, extF, hh, ih (fixL_length _ _ _)]
    exact extF_congr fun i hi => co_fixL l r hi
theorem fixE_lin (a b c d x y r : Fin p) : fixE (a * x + b * y) (a * c + b * d) r = a * fixE x c r + b * fixE y d r := by
  unfold fixE; grind
theorem extF_lin (a b : Fin p) (f g : Nat → Fin p) (rs : List (Fin p)) : extF (fun i => a * f i + b * g i) rs = a * extF f rs + b * extF g rs := by
  induction rs generalizing f g with
  | nil => rfl
  | cons r rs ih =>
    rw [extF, extF, extF, ← ih]
    exact extF_congr fun i hi => fixE_lin _ _ _ _ _ _ _
theorem extF_cons (f : Nat → Fin p) (r : Fin p) (rs : List (Fin p)) : extF f (r :: rs) = (1 - r) * extF f rs + r * extF (fun i => f (i + 2 ^ rs.length)) rs := by
  rw [extF, ← extF_lin]
  exact extF_congr fun i hi => by unfold fixE; grind
/-- straight in each variable -/
theorem extF_line (f : Nat → Fin p) (rs : List (Fin p)) (j : Nat) (hj : j < rs.length) (r : Fin p) :
    extF f (rs.set j r) = extF f (rs.set j 0) + (extF f (rs.set j 1) - extF f (rs.set j 0)) * r := by
  induction rs generalizing f j with
  | nil => simp at hj
  | cons s rs ih =>
    cases j with
    | zero =>
      simp only [List.set_cons_zero]
      rw [extF_cons, extF_cons f 0, extF_cons f 1]
      grind
    | succ j =>
      simp only [List.set_cons_succ]
      rw [extF, extF, extF]
      simp only [List.length_set]
      exact ih _ j (by simpa using hj)
/-- the bits of i, v of them, the highest first -/
def bitsL (v i : Nat) : List (Fin p) := match v with
  | 0 => []
  | v + 1 => el p ((i / 2 ^ v % 2 : Nat) : Int) :: bitsL v i
theorem bitsL_length (v i : Nat) : (bitsL v i : List (Fin p)).length = v := by
  induction v with
  | zero => rfl
  | succ v ih => rw [bitsL, List.length_cons, ih]
theorem bitsL_add (w v i : Nat) (hw : w ≤ v) : (bitsL w (i + 2 ^ v) : List (Fin p)) = bitsL w i := by
  induction w with
  | zero => rfl
  | succ w ih =>
    have e : 2 ^ v = 2 ^ w * (2 * 2 ^ (v - w - 1)) := by
      rw [← Nat.mul_assoc, Nat.mul_comm (2 ^ w) 2, Nat.mul_assoc, ← Nat.pow_add, Nat.mul_comm, ← Nat.pow_succ]
      congr 1; omega
    have h : (i + 2 ^ v) / 2 ^ w % 2 = i / 2 ^ w % 2 := by
      rw [e, Nat.add_mul_div_left _ _ (Nat.pow_pos (by omega))]; omega
    rw [bitsL, bitsL, ih (by omega), h]
/-- at a place's bits a table is what stands there -/
theorem extF_bits (v : Nat) (f : Nat → Fin p) (i : Nat) (hi : i < 2 ^ v) : extF f (bitsL v i) = f i := by
  induction v generalizing f i with
  | zero =>
    obtain rfl : i = 0 := by rw [Nat.pow_zero] at hi; omega
    rfl
  | succ v ih =>
    rw [Nat.pow_succ] at hi
    rw [bitsL, extF, bitsL_length]
    have hp := Nat.pow_pos (n := v) (show 0 < 2 by omega)
    by_cases h : i < 2 ^ v
    · have e : i / 2 ^ v % 2 = 0 := by rw [Nat.div_eq_of_lt h]
      rw [ih _ i h, e]
      show fixE _ _ (el p 0) = _
      rw [el_zero, fixE]; grind
    · obtain ⟨k, rfl⟩ : ∃ k, i = k + 2 ^ v := ⟨i - 2 ^ v, by omega⟩
      have e : (k + 2 ^ v) / 2 ^ v % 2 = 1 := by
        rw [Nat.add_div_right _ hp, Nat.div_eq_of_lt (by omega)]
      rw [bitsL_add v v k (Nat.le_refl _), ih _ k (by omega), e]
      show fixE _ _ (el p 1) = _
      rw [el_one, fixE]; grind
end
end Go.Proofs.YtkhkoeibigpdnaaDoor
