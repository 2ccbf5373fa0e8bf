/- Plain facts on codewords: at how many places two lists differ; two polynomials of low degree agree at few points. No program is in sight. -/
import Derived.Test.YtiohededmcfhjaaDoorDs
set_option linter.unusedVariables false
namespace Zp
section cd
variable {p : Nat} [NeZero p]

/-- at how many places below n do two differ? -/
def diffN (n : Nat) (f g : Nat → Fin p) : Nat := match n with
  | 0 => 0
  | n + 1 => diffN n f g + if f n = g n then 0 else 1
omit [NeZero p] in
theorem diffN_succ (n : Nat) (f g : Nat → Fin p) : diffN (n + 1) f g = diffN n f g + if f n = g n then 0 else 1 := rfl
omit [NeZero p] in
theorem diffN_le (n : Nat) (f g : Nat → Fin p) : diffN n f g ≤ n := by
  induction n with
  | zero => exact Nat.le_refl _
  | succ n ih => rw [diffN_succ]; split <;> omega
omit [NeZero p] in
theorem diffN_zero {n : Nat} {f g : Nat → Fin p} (h : ∀ i, i < n → f i = g i) : diffN n f g = 0 := by
  induction n with
  | zero => rfl
  | succ n ih => rw [diffN_succ, ih (fun i hi => h i (by omega)), if_pos (h n (by omega))]
omit [NeZero p] in
theorem diffN_congr {n : Nat} {f g f' g' : Nat → Fin p} (h : ∀ i, i < n → f i = f' i) (k : ∀ i, i < n → g i = g' i) : diffN n f g = diffN n f' g' := by
  induction n with
  | zero => rfl
  | succ n ih => rw [diffN_succ, diffN_succ, ih (fun i hi => h i (by omega)) (fun i hi => k i (by omega)), h n (by omega), k n (by omega)]
/-- the places at which two agree -/
def agree (n : Nat) (f g : Nat → Fin p) : List Nat := (List.range n).filter (fun i => decide (f i = g i))
omit [NeZero p] in
theorem agree_diff (n : Nat) (f g : Nat → Fin p) : (agree n f g).length + diffN n f g = n := by
  induction n with
  | zero => rfl
  | succ n ih =>
    have e : agree (n + 1) f g = agree n f g ++ if f n = g n then [n] else [] := by
      unfold agree
      rw [List.range_succ, List.filter_append]
      congr 1
      by_cases h : f n = g n <;> simp [h]
    rw [e, diffN_succ, List.length_append]
    by_cases h : f n = g n
    · rw [if_pos h, if_pos h]; simp; omega
    · rw [if_neg h, if_neg h]; simp; omega
omit [NeZero p] in
theorem mem_agree {n : Nat} {f g : Nat → Fin p} {i : Nat} : i ∈ agree n f g ↔ i < n ∧ f i = g i := by simp [agree]
omit [NeZero p] in
theorem agree_nodup (n : Nat) (f g : Nat → Fin p) : (agree n f g).Nodup := List.nodup_range.filter _

theorem nodup_map_on {α β : Type} {f : α → β} : ∀ {l : List α}, (∀ a ∈ l, ∀ b ∈ l, f a = f b → a = b) → l.Nodup → (l.map f).Nodup
  | [], _, _ => List.nodup_nil
  | x :: l, hf, h => by
    have h' := List.nodup_cons.1 h
    rw [List.map_cons]
    refine List.nodup_cons.2 ⟨fun hm => ?_, nodup_map_on (fun a ha b hb => hf a (by simp [ha]) b (by simp [hb])) h'.2⟩
    obtain ⟨y, hy, e⟩ := List.mem_map.1 hm
    exact h'.1 (hf x (by simp) y (by simp [hy]) e.symm ▸ hy)

/-- the powers of an element of the order n are unlike -/
theorem ord_inj (hp : IsPrime p) {r : Fin p} {n : Nat} (hr : Ord r n) (hn : 0 < n) {i j : Nat} (hi : i < n) (hj : j < n) (h : pw r i = pw r j) : i = j := by
  have hr0 := hr.ne_zero hp hn
  have key : ∀ i j, i ≤ j → j < n → pw r i = pw r j → i = j := by
    intro i j hij hj h
    have e : pw r j = pw r i * pw r (j - i) := by rw [← pw_add, show i + (j - i) = j from by omega]
    have h1 : pw r (j - i) = 1 := by
      have : pw r i * pw r (j - i) = pw r i * 1 := by rw [← e, ← h]; grind
      exact mul_left_cancel hp (pw_ne_zero hp hr0 i) this
    have h2 := (hr _).1 h1
    rcases Nat.eq_zero_or_pos (j - i) with h3 | h3
    · omega
    · have := Nat.le_of_dvd h3 h2
      omega
  rcases Nat.le_total i j with h1 | h1
  · exact key i j h1 hj h
  · exact (key j i h1 hi h.symm).symm
/-- the points are unlike -/
theorem pts_inj (hp : IsPrime p) {r s : Fin p} {n : Nat} (hr : Ord r n) (hn : 0 < n) (hs : s ≠ 0) {i j : Nat} (hi : i < n) (hj : j < n) (h : s * pw r i = s * pw r j) : i = j :=
  ord_inj hp hr hn hi hj (mul_left_cancel hp hs h)

/-- two polynomials that are unlike agree at fewer points than their difference has places -/
theorem agree_lt (hp : IsPrime p) {r s : Fin p} {n : Nat} (hr : Ord r n) (hn : 0 < n) (hs : s ≠ 0) (a b : List (Fin p)) (h : 0 < (trimL (subL a b)).length) :
    (agree n (co (valL s r n a)) (co (valL s r n b))).length < (trimL (subL a b)).length := by
  have h1 := roots_lt hp h (xs := (agree n (co (valL s r n a)) (co (valL s r n b))).map (fun j => s * pw r j))
    (nodup_map_on (fun i hi j hj e => pts_inj hp hr hn hs (mem_agree.1 hi).1 (mem_agree.1 hj).1 e) (agree_nodup _ _ _)) (fun x hx => by
      obtain ⟨j, hj, rfl⟩ := List.mem_map.1 hx
      obtain ⟨h1, h2⟩ := mem_agree.1 hj
      unfold valL at h2
      rw [co_tab, co_tab, if_pos h1, if_pos h1] at h2
      rw [ev_subL, h2]; grind)
  simpa using h1
theorem subL_length {a b : List (Fin p)} {k : Nat} (ha : (trimL a).length ≤ k) (hb : (trimL b).length ≤ k) : (trimL (subL a b)).length ≤ k := trimL_length_of fun i hi => by
  rw [co_subL, ← co_trim a, ← co_trim b, co_of_ge (by omega), co_of_ge (by omega)]; grind
/-- SINGLETON -/
theorem singleton (hp : IsPrime p) {r s : Fin p} {n k : Nat} (hr : Ord r n) (hn : 0 < n) (hs : s ≠ 0) (a b : List (Fin p)) (ha : (trimL a).length ≤ k) (hb : (trimL b).length ≤ k) (h : 0 < (trimL (subL a b)).length) :
    n + 1 ≤ k + diffN n (co (valL s r n a)) (co (valL s r n b)) := by
  have h1 := agree_lt hp hr hn hs a b h
  have h2 := agree_diff n (co (valL s r n a)) (co (valL s r n b))
  have h3 := subL_length ha hb
  omega
theorem vals_same {r s : Fin p} {n : Nat} {a b : List (Fin p)} (h : (trimL (subL a b)).length = 0) (i : Nat) : co (valL s r n a) i = co (valL s r n b) i := by
  have h0 : ∀ j, co a j = co b j := fun j => by
    have := co_trim (subL a b) j
    rw [List.length_eq_zero_iff.1 h, co_nil, co_subL] at this
    grind
  unfold valL
  rw [co_tab, co_tab]
  split
  · exact ev_congr h0 _
  · rfl
end cd
end Zp
