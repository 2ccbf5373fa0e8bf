/- Plain facts on folding: a word that becomes one of low degree with two unlike elements was one. No program is in sight. -/
import Derived.Test.YtehgeiaglddabaaFd
import Derived.Test.YtehgeiaglddabaaIp
set_option linter.unusedVariables false
namespace Zp
section fc
variable {p : Nat} [NeZero p]

theorem trimL_le_iff {l : List (Fin p)} {n : Nat} : (trimL l).length ≤ n ↔ ∀ i, n ≤ i → co l i = 0 :=
  ⟨fun h i hi => by rw [← co_trim]; exact co_of_ge (by omega), trimL_length_of⟩
theorem foldP_length (r : Fin p) (a : List (Fin p)) : (foldP r a).length = (a.length + 1) / 2 := tab_length _ _

/-- what is told of a folded word is the folded polynomial -/
theorem fold_coef (hp : IsPrime p) (h3 : 3 ≤ p) {s r : Fin p} {m : Nat} (hm : 0 < m) (hd : 2 * m ∣ p - 1) (hs : s ≠ 0) (hr : Ord r (2 * m)) {l : List (Fin p)} (hl : l.length = 2 * m) (c : Fin p) :
    trimL (coefL (s * s) (r * r) m (foldL s r m l c)) = trimL (foldP c (coefL s r (2 * m) l)) := by
  have h1 := valL_coefL hp (by omega) hd hr hs hl
  have h2 : foldL s r m l c = valL (s * s) (r * r) m (foldP c (coefL s r (2 * m) l)) := by
    rw [← fold_vals hp h3 hm hs hr, h1]
  rw [h2]
  refine coefL_valL hp hm (Nat.dvd_trans ⟨2, by omega⟩ hd) (ord_sq hm hr) (mul_ne_zero hp hs hs) ?_
  have := trimL_length_le (foldP c (coefL s r (2 * m) l))
  rw [foldP_length, coefL_length] at this
  omega
theorem folds_low {a : List (Fin p)} {k : Nat} (h : (trimL a).length ≤ 2 * k) (c : Fin p) : (trimL (foldP c a)).length ≤ k := by
  rw [trimL_le_iff] at h ⊢
  intro i hi
  rw [co_foldP, co_evens, co_odds, h _ (by omega), h _ (by omega)]; grind
theorem folds_high (hp : IsPrime p) {a : List (Fin p)} {k : Nat} {c d : Fin p} (hcd : c - d ≠ 0) (h1 : (trimL (foldP c a)).length ≤ k) (h2 : (trimL (foldP d a)).length ≤ k) : (trimL a).length ≤ 2 * k := by
  rw [trimL_le_iff] at h1 h2 ⊢
  have key : ∀ t, k ≤ t → co (evens a) t = 0 ∧ co (odds a) t = 0 := fun t ht => by
    have e1 := h1 t ht
    have e2 := h2 t ht
    rw [co_foldP] at e1 e2
    have e3 : (c - d) * co (odds a) t = 0 := by grind
    have e4 := (mul_eq_zero hp e3).resolve_left hcd
    rw [e4] at e1
    exact ⟨by grind, e4⟩
  intro i hi
  have hpar : i = 2 * (i / 2) ∨ i = 2 * (i / 2) + 1 := by omega
  rcases hpar with h | h
  · rw [h, ← co_evens]; exact (key (i / 2) (by omega)).1
  · rw [h, ← co_odds]; exact (key (i / 2) (by omega)).2
end fc
end Zp
