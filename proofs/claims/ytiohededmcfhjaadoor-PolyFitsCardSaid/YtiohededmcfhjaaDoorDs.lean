/- Plain facts on domains: the sum of a polynomial's values; how long a product is. No program is in sight. -/
import Derived.Test.YtiohededmcfhjaaDoorDm
set_option linter.unusedVariables false
namespace Zp
section ds
variable {p : Nat} [NeZero p]

theorem trimL_length_of {l : List (Fin p)} {n : Nat} (h : ∀ i, n ≤ i → co l i = 0) : (trimL l).length ≤ n := by
  rcases (trimAt_iff_co.1 (trimL_at l)).2 with h0 | h0
  · omega
  · false_or_by_contra
    rename_i hn
    exact h0 (h _ (by omega))
theorem mulL_trim_length (a b : List (Fin p)) : (trimL (mulL a b)).length ≤ a.length + b.length := trimL_length_of fun i hi => co_mulL_ge b a i (by omega)

/-- the sum of f 0 .. f (n - 1) -/
def sumT (n : Nat) (f : Nat → Fin p) : Fin p := match n with
  | 0 => 0
  | n + 1 => sumT n f + f n
theorem sumT_succ (n : Nat) (f : Nat → Fin p) : sumT (n + 1) f = sumT n f + f n := rfl
theorem sumT_congr {n : Nat} {f g : Nat → Fin p} (h : ∀ i, i < n → f i = g i) : sumT n f = sumT n g := by
  induction n with
  | zero => rfl
  | succ n ih => rw [sumT_succ, sumT_succ, ih (fun i hi => h i (by omega)), h n (by omega)]
theorem sumT_add (n : Nat) (f g : Nat → Fin p) : sumT n (fun i => f i + g i) = sumT n f + sumT n g := by
  induction n with
  | zero => simp only [sumT]; grind
  | succ n ih => rw [sumT_succ, sumT_succ, sumT_succ, ih]; grind
theorem sumT_smul (n : Nat) (c : Fin p) (f : Nat → Fin p) : sumT n (fun i => c * f i) = c * sumT n f := by
  induction n with
  | zero => simp only [sumT]; grind
  | succ n ih => rw [sumT_succ, sumT_succ, ih]; grind
theorem sumT_zero (n : Nat) : sumT n (fun _ => (0 : Fin p)) = 0 := by
  induction n with
  | zero => rfl
  | succ n ih => rw [sumT_succ, ih]; grind
theorem sumT_one (n : Nat) : sumT n (fun _ => (1 : Fin p)) = el p (n : Int) := by
  induction n with
  | zero => exact el_zero.symm
  | succ n ih => rw [sumT_succ, ih, Int.natCast_add, el_add, show el p ((1 : Nat) : Int) = 1 from el_one]
theorem geom (x : Fin p) (n : Nat) : (x - 1) * sumT n (fun j => pw x j) = pw x n - 1 := by
  induction n with
  | zero => simp only [sumT, pw_zero]; grind
  | succ n ih => rw [sumT_succ, pw_succ]; grind
/-- the powers of an element that is not 1, but whose n-th power is, come to 0 -/
theorem geom_zero (hp : IsPrime p) {x : Fin p} {n : Nat} (h1 : x ≠ 1) (hn : pw x n = 1) : sumT n (fun j => pw x j) = 0 := by
  have h := geom x n
  rw [hn] at h
  have : (x - 1) * sumT n (fun j => pw x j) = 0 := by grind
  exact (mul_eq_zero hp this).resolve_left (fun h => h1 (by grind))
theorem powers_sum (hp : IsPrime p) {r : Fin p} {n : Nat} (hr : Ord r n) (s : Fin p) (k : Nat) (hk0 : 0 < k) (hk : k < n) : sumT n (fun j => pw (s * pw r j) k) = 0 := by
  have e : ∀ j, pw (s * pw r j) k = pw s k * pw (pw r k) j := fun j => by rw [mul_pw, ← pw_mul, ← pw_mul, Nat.mul_comm]
  rw [sumT_congr (fun j _ => e j), sumT_smul, geom_zero hp (fun h => by have := Nat.le_of_dvd hk0 ((hr k).1 h); omega) (by rw [← pw_mul, Nat.mul_comm, pw_mul, hr.one, one_pw])]
  grind
theorem tail_sum (hp : IsPrime p) {r : Fin p} {n : Nat} (hr : Ord r n) (s : Fin p) : ∀ (a : List (Fin p)) (k : Nat), 0 < k → k + a.length ≤ n → sumT n (fun j => pw (s * pw r j) k * ev a (s * pw r j)) = 0
  | [], k, _, _ => by
    rw [sumT_congr (g := fun _ => 0) (fun j _ => by simp only [ev]; grind), sumT_zero]
  | c :: a, k, hk, hl => by
    rw [List.length_cons] at hl
    have ih := tail_sum hp hr s a (k + 1) (by omega) (by omega)
    have e : ∀ j, pw (s * pw r j) k * ev (c :: a) (s * pw r j) = c * pw (s * pw r j) k + pw (s * pw r j) (k + 1) * ev a (s * pw r j) := fun j => by
      rw [ev, pw_succ]; grind
    rw [sumT_congr (fun j _ => e j), sumT_add, sumT_smul, powers_sum hp hr s k hk (by omega), ih]
    grind
/-- the sum of a polynomial's values -/
theorem vals_sum (hp : IsPrime p) {r : Fin p} {n : Nat} (hr : Ord r n) (s : Fin p) (a : List (Fin p)) (hn : 0 < n) (hl : (trimL a).length ≤ n) : sumT n (fun j => ev a (s * pw r j)) = co a 0 * el p (n : Int) := by
  rw [sumT_congr (g := fun j => ev (trimL a) (s * pw r j)) (fun j _ => (ev_trim a _).symm), ← co_trim a 0]
  generalize trimL a = l at hl
  cases l with
  | nil =>
    have h0 : ∀ j, j < n → ev ([] : List (Fin p)) (s * pw r j) = 0 := fun _ _ => rfl
    rw [sumT_congr h0, sumT_zero, co_nil]
    grind
  | cons c l =>
    rw [List.length_cons] at hl
    have h := tail_sum hp hr s l 1 (by omega) (by omega)
    have e : ∀ j, ev (c :: l) (s * pw r j) = c * 1 + pw (s * pw r j) 1 * ev l (s * pw r j) := fun j => by
      rw [ev, pw_one]; grind
    rw [sumT_congr (fun j _ => e j), sumT_add, sumT_smul, sumT_one, h, co_cons_zero]
    grind
theorem valL_mul (s r : Fin p) (n : Nat) (a b : List (Fin p)) (i : Nat) : co (valL s r n (trimL (mulL a b))) i = co (valL s r n a) i * co (valL s r n b) i := by
  unfold valL
  rw [co_tab, co_tab, co_tab]
  split
  · rw [ev_trim, ev_mulL]
  · grind
end ds
end Zp
