/- Plain facts on polynomials: sums, differences, products, by their places and by what they are at an element. No program is in sight. -/
import Derived.Test.YtiohededmcfhjaaDoorPl
set_option linter.unusedVariables false
namespace Zp
section pm
variable {p : Nat} [NeZero p]

/-- a list by its places -/
def tab (n : Nat) (f : Nat → Fin p) : List (Fin p) := (List.range n).map f
omit [NeZero p] in
theorem tab_length (n : Nat) (f : Nat → Fin p) : (tab n f).length = n := by simp [tab]
theorem co_tab (n : Nat) (f : Nat → Fin p) (i : Nat) : co (tab n f) i = if i < n then f i else 0 := by
  by_cases h : i < n
  · rw [if_pos h, co_of_lt (by rw [tab_length]; exact h)]; simp [tab]
  · rw [if_neg h, co_of_ge (by rw [tab_length]; omega)]
omit [NeZero p] in
theorem tab_get (n : Nat) (f : Nat → Fin p) (i : Nat) (h : i < (tab n f).length) : (tab n f)[i] = f i := by simp [tab]
omit [NeZero p] in
theorem tab_get? (n : Nat) (f : Nat → Fin p) (i : Nat) (h : i < n) : (tab n f)[i]? = some (f i) := by simp [tab, h]
omit [NeZero p] in
theorem tab_succ (n : Nat) (f : Nat → Fin p) : tab (n + 1) f = tab n f ++ [f n] := by simp [tab, List.range_succ]
theorem ext_co {l m : List (Fin p)} (hl : l.length = m.length) (h : ∀ i, i < l.length → co l i = co m i) : l = m := by
  apply List.ext_getElem hl
  intro i h1 h2
  rw [← co_of_lt h1, ← co_of_lt h2, h i h1]
theorem tab_co (l : List (Fin p)) : tab l.length (co l) = l := ext_co (by rw [tab_length]) (fun i hi => by rw [tab_length] at hi; rw [co_tab, if_pos hi])

def addL (a b : List (Fin p)) : List (Fin p) := tab (max a.length b.length) (fun i => co a i + co b i)
def subL (a b : List (Fin p)) : List (Fin p) := tab (max a.length b.length) (fun i => co a i - co b i)
def smulL (c : Fin p) (a : List (Fin p)) : List (Fin p) := a.map (c * ·)
theorem co_addL (a b : List (Fin p)) (i : Nat) : co (addL a b) i = co a i + co b i := by
  rw [addL, co_tab]
  split
  · rfl
  · rw [co_of_ge (l := a) (by omega), co_of_ge (l := b) (by omega)]; grind
theorem co_subL (a b : List (Fin p)) (i : Nat) : co (subL a b) i = co a i - co b i := by
  rw [subL, co_tab]
  split
  · rfl
  · rw [co_of_ge (l := a) (by omega), co_of_ge (l := b) (by omega)]; grind
theorem co_smulL (c : Fin p) (a : List (Fin p)) (i : Nat) : co (smulL c a) i = c * co a i := by
  unfold co smulL
  rw [List.getElem?_map]
  cases a[i]? with
  | none => simp; grind
  | some x => rfl
def mulL : List (Fin p) → List (Fin p) → List (Fin p)
  | [], _ => []
  | x :: a, b => addL (smulL x b) (0 :: mulL a b)
theorem co_mulL_cons (x : Fin p) (a b : List (Fin p)) (m : Nat) : co (mulL (x :: a) b) m = x * co b m + if m = 0 then 0 else co (mulL a b) (m - 1) := by
  rw [mulL, co_addL, co_smulL]
  cases m with
  | zero => simp [co_cons_zero]
  | succ m => simp [co_cons_succ]
theorem co_mulL_snoc (b : List (Fin p)) (x : Fin p) : ∀ (a : List (Fin p)) (m : Nat), co (mulL (a ++ [x]) b) m = co (mulL a b) m + if a.length ≤ m then x * co b (m - a.length) else 0
  | [], m => by
    rw [List.nil_append, co_mulL_cons, mulL, co_nil]
    simp only [List.length_nil, Nat.zero_le, if_true, Nat.sub_zero, co_nil]
    split <;> grind
  | y :: a, m => by
    rw [List.cons_append, co_mulL_cons, co_mulL_cons, List.length_cons]
    cases m with
    | zero => simp
    | succ m =>
      have ih := co_mulL_snoc b x a m
      simp only [Nat.succ_ne_zero, if_false, Nat.add_sub_cancel]
      rw [ih]
      by_cases h : a.length ≤ m
      · rw [if_pos h, if_pos (by omega), show m + 1 - (a.length + 1) = m - a.length from by omega]; grind
      · rw [if_neg h, if_neg (by omega)]; grind

theorem ev_tab_succ (n : Nat) (f : Nat → Fin p) (x : Fin p) : ev (tab (n + 1) f) x = f 0 + x * ev (tab n (fun i => f (i + 1))) x := by
  unfold tab
  rw [List.range_succ_eq_map, List.map_cons, ev, List.map_map]
  rfl
theorem ev_tab_add (n : Nat) (f g : Nat → Fin p) (x : Fin p) : ev (tab n (fun i => f i + g i)) x = ev (tab n f) x + ev (tab n g) x := by
  induction n generalizing f g with
  | zero => simp only [tab, List.range_zero, List.map_nil, ev]; grind
  | succ n ih => rw [ev_tab_succ, ev_tab_succ, ev_tab_succ, ih]; grind
theorem ev_tab_smul (n : Nat) (c : Fin p) (f : Nat → Fin p) (x : Fin p) : ev (tab n (fun i => c * f i)) x = c * ev (tab n f) x := by
  induction n generalizing f with
  | zero => simp only [tab, List.range_zero, List.map_nil, ev]; grind
  | succ n ih => rw [ev_tab_succ, ev_tab_succ, ih]; grind
theorem ev_tab_co {l : List (Fin p)} {n : Nat} (h : l.length ≤ n) (x : Fin p) : ev (tab n (co l)) x = ev l x := ev_congr (fun i => by
  rw [co_tab]
  split
  · rfl
  · rw [co_of_ge (by omega)]) x
theorem ev_addL (a b : List (Fin p)) (x : Fin p) : ev (addL a b) x = ev a x + ev b x := by
  rw [addL, ev_tab_add, ev_tab_co (by omega), ev_tab_co (by omega)]
theorem ev_smulL (c : Fin p) (a : List (Fin p)) (x : Fin p) : ev (smulL c a) x = c * ev a x := by
  induction a with
  | nil => simp only [smulL, List.map_nil, ev]; grind
  | cons d a ih =>
    have : smulL c (d :: a) = c * d :: smulL c a := rfl
    rw [this, ev, ev, ih]; grind
theorem ev_subL (a b : List (Fin p)) (x : Fin p) : ev (subL a b) x = ev a x - ev b x := by
  have h : ev (subL a b) x = ev (addL a (smulL (-1) b)) x := ev_congr (fun i => by rw [co_subL, co_addL, co_smulL]; grind) x
  rw [h, ev_addL, ev_smulL]; grind
theorem ev_mulL (b : List (Fin p)) (x : Fin p) : ∀ a : List (Fin p), ev (mulL a b) x = ev a x * ev b x
  | [] => by simp only [mulL, ev]; grind
  | y :: a => by
    rw [mulL, ev_addL, ev_smulL, ev, ev_mulL b x a, ev]; grind

/-- the places of a product depend on the places alone -/
theorem co_mulL_zero_left {a : List (Fin p)} (h : ∀ i, co a i = 0) (b : List (Fin p)) (m : Nat) : co (mulL a b) m = 0 := by
  induction a generalizing m with
  | nil => exact co_nil m
  | cons x a ih =>
    have h0 := h 0
    rw [co_cons_zero] at h0
    rw [co_mulL_cons, h0]
    have ih' := ih (fun i => by rw [← co_cons_succ x]; exact h (i + 1)) (m - 1)
    rw [ih']
    split <;> grind
theorem co_mulL_zero_right {b : List (Fin p)} (h : ∀ i, co b i = 0) : ∀ (a : List (Fin p)) (m : Nat), co (mulL a b) m = 0
  | [], m => co_nil m
  | x :: a, m => by
    rw [co_mulL_cons, h, co_mulL_zero_right h a]
    split <;> grind
theorem co_mulL_congr_right {b b' : List (Fin p)} (h : ∀ i, co b i = co b' i) : ∀ (a : List (Fin p)) (m : Nat), co (mulL a b) m = co (mulL a b') m
  | [], m => rfl
  | x :: a, m => by rw [co_mulL_cons, co_mulL_cons, h, co_mulL_congr_right h a]
theorem co_mulL_congr_left {b : List (Fin p)} : ∀ {a a' : List (Fin p)} (h : ∀ i, co a i = co a' i) (m : Nat), co (mulL a b) m = co (mulL a' b) m
  | [], a', h, m => by rw [co_mulL_zero_left (a := a') (fun i => by rw [← h i, co_nil])]; exact co_nil m
  | x :: a, [], h, m => by rw [co_mulL_zero_left (a := x :: a) (fun i => by rw [h i, co_nil])]; exact (co_nil m).symm
  | x :: a, y :: a', h, m => by
    have h0 := h 0
    rw [co_cons_zero, co_cons_zero] at h0
    rw [co_mulL_cons, co_mulL_cons, h0, co_mulL_congr_left (a := a) (a' := a') (fun i => by rw [← co_cons_succ x, ← co_cons_succ y]; exact h (i + 1))]
theorem co_mulL_congr {a a' b b' : List (Fin p)} (ha : ∀ i, co a i = co a' i) (hb : ∀ i, co b i = co b' i) (m : Nat) : co (mulL a b) m = co (mulL a' b') m := by
  rw [co_mulL_congr_left ha, co_mulL_congr_right hb]
theorem co_mulL_ge (b : List (Fin p)) : ∀ (a : List (Fin p)) (m : Nat), a.length + b.length ≤ m + 1 → co (mulL a b) m = 0
  | [], m, _ => co_nil m
  | x :: a, m, h => by
    rw [List.length_cons] at h
    rw [co_mulL_cons, co_of_ge (l := b) (by omega)]
    by_cases hm : m = 0
    · rw [if_pos hm]; grind
    · rw [if_neg hm, co_mulL_ge b a (m - 1) (by omega)]; grind
end pm
end Zp
