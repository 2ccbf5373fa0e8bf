/- Plain facts on the reference's division. No program is in sight. -/
import Derived.Test.YtiohededmcfhjaaDoorPs
set_option linter.unusedVariables false
namespace Zp
section ps
variable {p : Nat} [NeZero p]
theorem mulF_below (g : Nat → Fin p) : ∀ (n : Nat) (f : Nat → Fin p), (∀ j, j ≤ n → f j = 0) → mulF f g n = 0
  | 0, f, h => by rw [mulF, h 0 (by omega)]; grind
  | n + 1, f, h => by rw [mulF, h 0 (by omega), mulF_below g n _ (fun j hj => h (j + 1) (by omega))]; grind
theorem mulF_one (g f : Nat → Fin p) (h : ∀ j, f (j + 1) = 0) (n : Nat) : mulF f g n = f 0 * g n := by
  cases n with
  | zero => rfl
  | succ n => rw [mulF, mulF_congr (f' := fun _ => 0) (g' := g) h (fun _ => rfl), mulF_zero]; grind
/-- times c x^k -/
theorem ofL_scl (b : List (Fin p)) (c : Fin p) (k : Nat) : ofL (sclL b c k) = ofL (sclL [1] c k) * ofL b := funext fun i => by
  have h1 : ∀ j, co (sclL [(1 : Fin p)] c k) j = if j = k then c else 0 := fun j => by
    rw [co_sclL]
    by_cases h : j < k
    · rw [if_pos h, if_neg (by omega)]
    · rw [if_neg h]
      by_cases h2 : j = k
      · subst h2; rw [if_pos rfl, Nat.sub_self, co_cons_zero]; grind
      · rw [if_neg h2, co_of_ge (by simp; omega)]; grind
  show co (sclL b c k) i = mulF (co (sclL [1] c k)) (co b) i
  rw [co_sclL]
  by_cases h : i < k
  · rw [if_pos h, mulF_below _ i _ (fun j hj => (h1 j).trans (if_neg (by omega)))]
  · obtain ⟨n, rfl⟩ : ∃ n, i = k + n := ⟨i - k, by omega⟩
    have e1 := mulF_one (co b) (fun i => co (sclL [1] c k) (k + i)) (fun j => (h1 _).trans (if_neg (show ¬ k + (j + 1) = k by omega))) n
    rw [if_neg h, mulF_low _ _ n k (fun j hj => (h1 j).trans (if_neg (by omega))), e1]
    have e : co (sclL [1] c k) (k + 0) = c := (h1 _).trans (if_pos rfl)
    rw [e, show k + n - k = n from by omega]; grind
/-- what the reference's division knows -/
structure DivR (al bl Q R : List (Fin p)) : Prop where
  tq : trimL Q = Q
  tr : trimL R = R
  lq : Q.length ≤ al.length
  lr : R.length ≤ al.length
  eq : ofL al = ofL Q * ofL bl + ofL R
theorem DivR.start {al bl : List (Fin p)} (h : trimL al = al) : DivR al bl [] al := ⟨rfl, h, by simp, Nat.le_refl _, by rw [ofL_nil, PS.zero_mul, PS.zero_add]⟩
theorem DivR.step (hp : IsPrime p) {al bl Q R : List (Fin p)} {k last : Nat} (h : DivR al bl Q R) (hb : bl.length = last + 1) (hb0 : co bl last ≠ 0) (hk : R.length = last + 1 + k) :
    DivR al bl (trimL (addL Q (sclL [1] (co R (last + k) * Zp.inv (co bl last)) k))) (trimL (subL R (sclL bl (co R (last + k) * Zp.inv (co bl last)) k))) ∧ (trimL (subL R (sclL bl (co R (last + k) * Zp.inv (co bl last)) k))).length < R.length := by
  obtain ⟨c, hc⟩ : ∃ c, c = co R (last + k) * Zp.inv (co bl last) := ⟨_, rfl⟩
  rw [← hc]
  have hi := mul_inv hp hb0
  have hlt : (trimL (subL R (sclL bl c k))).length ≤ last + k := trimL_length_of fun i hi' => by
    rw [co_subL, co_sclL, if_neg (by omega)]
    by_cases he : i = last + k
    · subst he
      rw [show last + k - k = last from by omega, hc]
      have : co bl last * (co R (last + k) * Zp.inv (co bl last)) = co R (last + k) * (co bl last * Zp.inv (co bl last)) := by grind
      rw [this, hi]; grind
    · rw [co_of_ge (l := R) (by omega), co_of_ge (l := bl) (by omega)]; grind
  have hlr := h.lr
  refine ⟨⟨trimL_trim _, trimL_trim _, ?_, by omega, ?_⟩, by omega⟩
  · refine trimL_length_of fun i hi' => ?_
    rw [co_addL, co_sclL, co_of_ge (l := Q) (by have := h.lq; omega), if_neg (by omega), co_of_ge (by simp; omega)]; grind
  · rw [ofL_trim, ofL_trim, ofL_add, ofL_sub, ofL_scl bl c k, h.eq, PS.add_mul]
    refine funext fun n => ?_
    simp only [PS.add_ap, PS.sub_ap]
    grind
theorem DivR.done {al bl Q R : List (Fin p)} (h : DivR al bl Q R) (hb : trimL bl = bl) (hl : R.length < bl.length) : DivOk al bl Q R := ⟨h.tq, h.tr, by rw [hb]; exact hl, h.eq⟩
end ps
end Zp
