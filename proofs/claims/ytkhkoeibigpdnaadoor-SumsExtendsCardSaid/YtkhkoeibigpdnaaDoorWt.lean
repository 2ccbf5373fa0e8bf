/- Plain facts: what a table is at a point, by the weights of its places. No program is in sight. -/
import Derived.Test.YtkhkoeibigpdnaaDoorEx
import Derived.Test.YtkhkoeibigpdnaaDoorDs
set_option linter.unusedVariables false
namespace Go.Proofs.YtkhkoeibigpdnaaDoor
open Zp
section wt
variable {p : Nat} [NeZero p]

/-- one variable's factor at a place -/
def wtE (r : Fin p) (m i : Nat) : Fin p := if i / 2 ^ m % 2 = 0 then 1 - r else r
/-- the weight of a place at a point -/
def wtL : List (Fin p) → Nat → Fin p
  | [], _ => 1
  | r :: rs, i => wtL rs i * wtE r rs.length i
theorem wtE_lo (r : Fin p) (m i : Nat) (h : i < 2 ^ m) : wtE r m i = 1 - r := by
  unfold wtE; rw [Nat.div_eq_of_lt h, if_pos (by omega)]
theorem wtE_hi (r : Fin p) (m i : Nat) (h : i < 2 ^ m) : wtE r m (i + 2 ^ m) = r := by
  unfold wtE; rw [Nat.add_div_right _ (Nat.pow_pos (by omega)), Nat.div_eq_of_lt h, if_neg (by omega)]
theorem wtE_add (r : Fin p) (m k i : Nat) (h : m < k) : wtE r m (i + 2 ^ k) = wtE r m i := by
  unfold wtE
  obtain ⟨d, rfl⟩ : ∃ d, k = m + d + 1 := ⟨k - m - 1, by omega⟩
  have e : (2 : Nat) ^ (m + d + 1) = 2 ^ m * (2 * 2 ^ d) := by rw [Nat.pow_succ, Nat.pow_add]; grind
  rw [e, Nat.add_mul_div_left _ _ (Nat.pow_pos (by omega))]
  have e2 : (i / 2 ^ m + 2 * 2 ^ d) % 2 = i / 2 ^ m % 2 := by omega
  rw [e2]
theorem wtL_add : ∀ (rs : List (Fin p)) (k i : Nat), rs.length ≤ k → wtL rs (i + 2 ^ k) = wtL rs i
  | [], _, _, _ => rfl
  | r :: rs, k, i, h => by
    rw [List.length_cons] at h
    rw [wtL, wtL, wtL_add rs k i (by omega), wtE_add r _ k i (by omega)]
theorem sumT_split' (m k : Nat) (f : Nat → Fin p) : sumT (m + k) f = sumT m f + sumT k (fun i => f (i + m)) := by
  induction k with
  | zero => simp only [sumT, Nat.add_zero]; grind
  | succ k ih => rw [← Nat.add_assoc, sumT_succ, ih, sumT_succ, Nat.add_comm k m]; grind
theorem extF_sum : ∀ (rs : List (Fin p)) (f : Nat → Fin p), extF f rs = sumT (2 ^ rs.length) (fun i => f i * wtL rs i)
  | [], f => by
    simp only [extF, List.length_nil, Nat.pow_zero, sumT, wtL]; grind
  | r :: rs, f => by
    rw [extF_cons, extF_sum rs f, extF_sum rs (fun i => f (i + 2 ^ rs.length)), List.length_cons, Nat.pow_succ, Nat.mul_two, sumT_split', ← sumT_smul, ← sumT_smul]
    congr 1
    · refine sumT_congr fun i hi => ?_
      rw [wtL, wtE_lo r _ i hi]; grind
    · refine sumT_congr fun i hi => ?_
      rw [wtL, wtE_hi r _ i hi, wtL_add rs _ i (Nat.le_refl _)]; grind
end wt
end Go.Proofs.YtkhkoeibigpdnaaDoor
