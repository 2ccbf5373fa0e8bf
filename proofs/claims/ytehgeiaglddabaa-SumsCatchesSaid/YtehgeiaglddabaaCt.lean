/- Plain facts: the round's polynomial of a sum; what is not true is caught. No program is in sight but for the words of the tables. -/
import Derived.Test.YtehgeiaglddabaaSm4
import Derived.Test.YtehgeiaglddabaaFt
set_option linter.unusedVariables false
namespace Go.Proofs.Ytehgeiaglddabaa
open Zp
section ct
variable {p : Nat} [NeZero p]

theorem fixE_eq (a b r : Fin p) : fixE a b r = a + (b - a) * r := by unfold fixE; grind

/-- a product of straight lines is a polynomial -/
theorem prod_poly (d : Nat) (f g : Nat → Fin p) : ∃ Q : List (Fin p), Q.length ≤ d + 1 ∧ ∀ r, ev Q r = prodT d fun j => fixE (f j) (g j) r := by
  induction d with
  | zero => exact ⟨[1], by simp, fun r => by simp only [ev, prodT]; grind⟩
  | succ d ih =>
    obtain ⟨Q, h1, h2⟩ := ih
    refine ⟨trimL (mulL Q [f d, g d - f d]), ?_, fun r => ?_⟩
    · have h3 : (trimL (mulL Q [f d, g d - f d])).length ≤ Q.length + 1 := trimL_length_of fun i hi => co_mulL_ge _ Q i (by simp; omega)
      omega
    · rw [ev_trim, ev_mulL, h2, prodT_succ, fixE_eq]
      simp only [ev]
      grind
theorem sum_poly (d h : Nat) (F G : Nat → Nat → Fin p) : ∃ Q : List (Fin p), Q.length ≤ d + 1 ∧ ∀ r, ev Q r = sumT h fun i => prodT d fun j => fixE (F i j) (G i j) r := by
  induction h with
  | zero => exact ⟨[], by simp, fun r => rfl⟩
  | succ h ih =>
    obtain ⟨Q, h1, h2⟩ := ih
    obtain ⟨R, h3, h4⟩ := prod_poly d (F h) (G h)
    refine ⟨addL Q R, ?_, fun r => ?_⟩
    · rw [addL, tab_length]; omega
    · rw [ev_addL, h2, h4, sumT_succ]
theorem sumT_split (m k : Nat) (f : Nat → Fin p) : sumT (m + k) f = sumT m f + sumT k (fun i => f (i + m)) := by
  induction k with
  | zero => simp only [sumT, Nat.add_zero]; grind
  | succ k ih => rw [← Nat.add_assoc, sumT_succ, ih, sumT_succ, Nat.add_comm k m]; grind

/-- the tables with the first variable let be r -/
def fixT (h : Nat) (T : Nat → List (Fin p)) (r : Fin p) (j : Nat) : List (Fin p) := fixL h (T j) r
theorem tot_fix (d h : Nat) (T : Nat → List (Fin p)) (r : Fin p) : totP d h (fixT h T r) = sumT h fun i => prodT d fun j => fixE (co (T j) i) (co (T j) (i + h)) r :=
  sumT_congr fun i hi => prodT_congr fun j hj => by rw [fixT, co_fixL _ _ hi]
theorem tot_round (d h : Nat) (T : Nat → List (Fin p)) : totP d (2 * h) T = totP d h (fixT h T 0) + totP d h (fixT h T 1) := by
  rw [tot_fix, tot_fix, totP, Nat.two_mul, sumT_split]
  congr 1
  · exact sumT_congr fun i _ => prodT_congr fun j _ => by rw [fixE_eq]; grind
  · exact sumT_congr fun i _ => prodT_congr fun j _ => by rw [fixE_eq]; grind

/-- if all of d + 1 unlike elements are met, the sum is true -/
theorem catch_law (hp : IsPrime p) {d h : Nat} (T : Nat → List (Fin p)) {g : List (Fin p)} (hg : g.length ≤ d + 1) {rs : List (Fin p)} (hn : rs.Nodup) (hl : rs.length = d + 1) (hr : ∀ r ∈ rs, totP d h (fixT h T r) = ev g r) :
    totP d (2 * h) T = ev g 0 + ev g 1 := by
  obtain ⟨Q, h1, h2⟩ := sum_poly d h (fun i j => co (T j) i) (fun i j => co (T j) (i + h))
  have hQ : ∀ r, ev Q r = totP d h (fixT h T r) := fun r => by rw [h2, tot_fix]
  have hz : trimL (subL Q g) = [] := zero_of_roots hp hn (fun r hrm => by rw [ev_subL, hQ, hr r hrm]; grind) (by rw [subL, tab_length]; omega)
  have he : ∀ r, ev Q r = ev g r := fun r => by
    have h3 := ev_trim (subL Q g) r
    rw [hz, ev_subL] at h3
    simp only [ev] at h3
    grind
  rw [tot_round, ← hQ, ← hQ, he, he]
end ct
end Go.Proofs.Ytehgeiaglddabaa
