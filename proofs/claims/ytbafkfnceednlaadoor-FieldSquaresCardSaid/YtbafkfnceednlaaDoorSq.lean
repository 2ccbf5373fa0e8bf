/- Plain facts: square roots by the root of two's power order. No program is in sight. -/
import Derived.Test.YtbafkfnceednlaaDoorEl
set_option linter.unusedVariables false
namespace Zp
section sq
variable {p : Nat} [NeZero p]

theorem neg_one_of (hp : IsPrime p) {x : Fin p} (h : x * x = 1) (hne : x ≠ 1) : x = -1 := by
  have h0 : (x - 1) * (x + 1) = 0 := by grind
  rcases mul_eq_zero hp h0 with h1 | h1
  · exact absurd (by grind) hne
  · grind
/-- what the outer loop knows -/
structure TS (a R E U : Fin p) (t : Nat) : Prop where
  sq : R * R = a * E
  pos : 1 ≤ t
  half : pw E (2 ^ (t - 1)) = 1
  unit : Ord U (2 ^ t)
theorem pw_two (x : Fin p) (k : Nat) : pw x (2 ^ (k + 1)) = pw x (2 ^ k) * pw x (2 ^ k) := by
  rw [Nat.pow_succ, Nat.mul_two, pw_add]
theorem TS.step (hp : IsPrime p) {a R E U : Fin p} {t k : Nat} (h : TS a R E U t) (hk : 1 ≤ k) (hkt : k ≤ t - 1) (h1 : pw E (2 ^ k) = 1) (h0 : pw E (2 ^ (k - 1)) ≠ 1) :
    TS a (R * pw U (2 ^ (t - k - 1))) (E * (pw U (2 ^ (t - k - 1)) * pw U (2 ^ (t - k - 1)))) (pw U (2 ^ (t - k - 1)) * pw U (2 ^ (t - k - 1))) k := by
  have ht := h.pos
  have es : pw U (2 ^ (t - k - 1)) * pw U (2 ^ (t - k - 1)) = pw U (2 ^ (t - k)) := by
    rw [← pw_two, show t - k - 1 + 1 = t - k by omega]
  have ho : Ord (pw U (2 ^ (t - k))) (2 ^ k) := fun j => by
    rw [← pw_mul, h.unit (2 ^ (t - k) * j)]
    have e : (2 : Nat) ^ t = 2 ^ (t - k) * 2 ^ k := by rw [← Nat.pow_add, show t - k + k = t by omega]
    rw [e]
    exact Nat.mul_dvd_mul_iff_left (Nat.pow_pos (by omega))
  rw [es]
  refine ⟨?_, hk, ?_, ho⟩
  · have e2 : R * pw U (2 ^ (t - k - 1)) * (R * pw U (2 ^ (t - k - 1))) = R * R * (pw U (2 ^ (t - k - 1)) * pw U (2 ^ (t - k - 1))) := by grind
    rw [e2, es, h.sq]; grind
  · rw [mul_pw]
    have hx : pw E (2 ^ (k - 1)) = -1 := neg_one_of hp (by rw [← pw_two, show k - 1 + 1 = k by omega]; exact h1) h0
    have hy : pw (pw U (2 ^ (t - k))) (2 ^ (k - 1)) = -1 := by
      refine neg_one_of hp (by rw [← pw_two, show k - 1 + 1 = k by omega]; exact ho.one) fun hc => ?_
      have hd := (ho _).1 hc
      have hle := Nat.le_of_dvd (Nat.pow_pos (by omega)) hd
      have hlt : (2 : Nat) ^ (k - 1) < 2 ^ k := Nat.pow_lt_pow_right (by omega) (by omega)
      omega
    rw [hx, hy]; grind
theorem TS.start (hp : IsPrime p) {a g : Fin p} (hg : Ord g (p - 1)) {odd t : Nat} (ho : odd % 2 = 1) (ht : 1 ≤ t) (he : p - 1 = odd * 2 ^ t) (ha : pw a ((p - 1) / 2) = 1) :
    TS a (pw a ((odd + 1) / 2)) (pw a odd) (pw g odd) t := by
  have e : (p - 1) / 2 = odd * 2 ^ (t - 1) := by
    rw [he, show t = t - 1 + 1 by omega, Nat.pow_succ, ← Nat.mul_assoc, Nat.mul_div_cancel _ (by omega), Nat.add_sub_cancel]
  refine ⟨?_, ht, ?_, fun j => ?_⟩
  · rw [← pw_add, show (odd + 1) / 2 + (odd + 1) / 2 = odd + 1 by omega, pw_succ]; grind
  · rw [← pw_mul, ← e]; exact ha
  · rw [← pw_mul, hg (odd * j), he]
    exact Nat.mul_dvd_mul_iff_left (by omega)
/-- halving until odd -/
theorem halving {N odd t : Nat} (h : N = odd * 2 ^ t) (h2 : odd % 2 = 0) : N = odd / 2 * 2 ^ (t + 1) := by
  obtain ⟨k, rfl⟩ : ∃ k, odd = 2 * k := ⟨odd / 2, by omega⟩
  rw [h, Nat.mul_div_cancel_left _ (by omega), Nat.pow_succ]; grind
/-- which numbers have a root -/
theorem no_root (hp : IsPrime p) {a x : Fin p} (hx : x * x = a) (ha : a ≠ 0) (h2 : 2 ∣ p - 1) : pw a ((p - 1) / 2) = 1 := by
  have hx0 : x ≠ 0 := fun h => ha (by rw [← hx, h]; grind)
  obtain ⟨k, hk⟩ := h2
  rw [hk, Nat.mul_div_cancel_left _ (by omega), ← hx, ← pw_one (x * x)]
  have e : pw (pw (x * x) 1) k = pw x (2 * k) := by rw [pw_one, mul_pw, ← pw_add, Nat.two_mul]
  rw [e, ← hk]
  exact fermat hp hx0
end sq
end Zp
