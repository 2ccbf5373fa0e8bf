/- Plain facts on domains: roots of unity, powers of two, sums over a circle, values by halves. No program is in sight. -/
import Derived.Test.YtiohededmcfhjaaDoorPm
set_option linter.unusedVariables false
namespace Zp

theorem two_pow_iff (n : Nat) (h1 : 1 ≤ n) : (n &&& (n - 1)) = 0 ↔ ∃ k, n = 2 ^ k := Nat.and_sub_one_eq_zero_iff_isPowerOfTwo (by omega)

section dm
variable {p : Nat} [NeZero p]

/-- an element of the order n; 0: there is none -/
noncomputable def rootI (p : Nat) [NeZero p] (n : Int) : Fin p := if 0 < n ∧ ((p : Int) - 1) % n = 0 then pw (el p (genN p : Int)) (((p : Int) - 1) / n).toNat else 0
theorem rootI_no {n : Int} (h : ¬ (0 < n ∧ ((p : Int) - 1) % n = 0)) : rootI p n = 0 := if_neg h
theorem rootI_nat {n : Nat} (h0 : 0 < n) (hd : n ∣ p - 1) (hp : 1 ≤ p) : rootI p (n : Int) = pw (el p (genN p : Int)) ((p - 1) / n) := by
  have e : ((p : Int) - 1) = ((p - 1 : Nat) : Int) := by omega
  rw [rootI, if_pos ⟨by omega, by rw [e, ← Int.natCast_emod, Nat.mod_eq_zero_of_dvd hd]; rfl⟩, e, ← Int.natCast_ediv]
  rfl
theorem rootI_ord (hp : IsPrime p) {n : Nat} (h0 : 0 < n) (hd : n ∣ p - 1) : Ord (rootI p (n : Int)) n := by
  rw [rootI_nat h0 hd (by have := hp.1; omega)]
  have hg := (genN_is hp).2.2.1
  intro k
  rw [← pw_mul, hg]
  obtain ⟨c, hc⟩ := hd
  have hp1 := hp.1
  have hc0 : 0 < c := by
    rcases Nat.eq_zero_or_pos c with h | h
    · rw [h, Nat.mul_zero] at hc; omega
    · exact h
  rw [hc, Nat.mul_div_cancel_left _ h0, Nat.mul_comm n c]
  exact ⟨fun h => Nat.dvd_of_mul_dvd_mul_left hc0 h, fun h => Nat.mul_dvd_mul_left c h⟩
theorem rootI_ne (hp : IsPrime p) {n : Nat} (h0 : 0 < n) (hd : n ∣ p - 1) : rootI p (n : Int) ≠ 0 := (rootI_ord hp h0 hd).ne_zero hp h0

/-- half of an even order makes -1 -/
theorem ord_half (hp : IsPrime p) {r : Fin p} {m : Nat} (hm : 0 < m) (h : Ord r (2 * m)) : pw r m = -1 := by
  have h1 : pw r m * pw r m = 1 := by rw [← pw_add]; rw [show m + m = 2 * m from by omega]; exact h.one
  have h2 : pw r m ≠ 1 := fun e => by
    have := Nat.le_of_dvd hm ((h m).1 e)
    omega
  have h3 : (pw r m - 1) * (pw r m + 1) = 0 := by grind
  rcases mul_eq_zero hp h3 with h4 | h4
  · exact absurd (by grind) h2
  · grind
theorem ord_sq {r : Fin p} {m : Nat} (hm : 0 < m) (h : Ord r (2 * m)) : Ord (r * r) m := by
  intro k
  have e : pw (r * r) k = pw r (2 * k) := by
    rw [pw_mul]
    congr 1
    simp only [pw]; grind
  rw [e, h]
  exact ⟨fun h => Nat.dvd_of_mul_dvd_mul_left (by omega) h, fun h => Nat.mul_dvd_mul_left 2 h⟩

/-! values by halves -/
def evens : List (Fin p) → List (Fin p)
  | [] => []
  | [x] => [x]
  | x :: _ :: l => x :: evens l
def odds : List (Fin p) → List (Fin p)
  | [] => []
  | [_] => []
  | _ :: y :: l => y :: odds l
theorem ev_halves (x : Fin p) : ∀ l : List (Fin p), ev l x = ev (evens l) (x * x) + x * ev (odds l) (x * x)
  | [] => by simp only [evens, odds, ev]; grind
  | [a] => by simp only [evens, odds, ev]; grind
  | a :: b :: l => by
    have ih := ev_halves x l
    simp only [evens, odds, ev]
    rw [ih]
    grind
omit [NeZero p] in
theorem evens_length : ∀ (l : List (Fin p)) (m : Nat), l.length = 2 * m → (evens l).length = m ∧ (odds l).length = m
  | [], m, h => by simp at h; simp [evens, odds]; omega
  | [_], m, h => by simp at h; omega
  | _ :: _ :: l, m, h => by
    simp at h
    obtain ⟨m', rfl⟩ : ∃ m', m = m' + 1 := ⟨m - 1, by omega⟩
    have := evens_length l m' (by omega)
    simp [evens, odds, this]

/-- what a list's polynomial is at the powers of r -/
def dft (r : Fin p) (n : Nat) (l : List (Fin p)) : List (Fin p) := tab n (fun i => ev l (pw r i))
theorem dft_length (r : Fin p) (n : Nat) (l : List (Fin p)) : (dft r n l).length = n := tab_length _ _
theorem dft_lo (r : Fin p) (l : List (Fin p)) (i : Nat) : ev l (pw r i) = ev (evens l) (pw (r * r) i) + pw r i * ev (odds l) (pw (r * r) i) := by
  rw [ev_halves, mul_pw]
theorem dft_hi {r : Fin p} {m : Nat} (h : pw r m = -1) (l : List (Fin p)) (i : Nat) : ev l (pw r (i + m)) = ev (evens l) (pw (r * r) i) - pw r i * ev (odds l) (pw (r * r) i) := by
  have e1 : pw r (i + m) = - pw r i := by rw [pw_add, h]; grind
  have e2 : pw r (i + m) * pw r (i + m) = pw (r * r) i := by rw [e1, mul_pw]; grind
  rw [ev_halves, e2, e1]
  grind
theorem co_evens : ∀ (l : List (Fin p)) (t : Nat), co (evens l) t = co l (2 * t)
  | [], t => by rw [evens, co_nil, co_nil]
  | [x], t => by rw [evens]; cases t with
    | zero => rfl
    | succ t => rw [co_of_ge (by simp), co_of_ge (by simp; omega)]
  | x :: y :: l, t => by rw [evens]; cases t with
    | zero => rfl
    | succ t => rw [co_cons_succ, co_evens l t, show 2 * (t + 1) = 2 * t + 1 + 1 from by omega, co_cons_succ, co_cons_succ]
theorem co_odds : ∀ (l : List (Fin p)) (t : Nat), co (odds l) t = co l (2 * t + 1)
  | [], t => by rw [odds, co_nil, co_nil]
  | [x], t => by rw [odds, co_nil, co_of_ge (by simp)]
  | x :: y :: l, t => by rw [odds]; cases t with
    | zero => rfl
    | succ t => rw [co_cons_succ, co_odds l t, show 2 * (t + 1) + 1 = 2 * t + 1 + 1 + 1 from by omega, co_cons_succ, co_cons_succ]

/-- of the first j places those of an even number; those of an odd one -/
def evI (xs : List Int) (j : Nat) : List Int := (List.range ((j + 1) / 2)).map (fun t => xs.getD (2 * t) 0)
def odI (xs : List Int) (j : Nat) : List Int := (List.range (j / 2)).map (fun t => xs.getD (2 * t + 1) 0)
theorem evI_even {xs : List Int} {j : Nat} (h : j % 2 = 0) (hj : j < xs.length) : evI xs j ++ [xs[j]] = evI xs (j + 1) ∧ odI xs (j + 1) = odI xs j := by
  refine ⟨?_, ?_⟩
  · unfold evI
    rw [show (j + 1 + 1) / 2 = (j + 1) / 2 + 1 from by omega, List.range_succ, List.map_append]
    congr 1
    rw [List.map_singleton, show 2 * ((j + 1) / 2) = j from by omega, List.getD_eq_getElem?_getD, List.getElem?_eq_getElem hj]; rfl
  · unfold odI
    rw [show (j + 1) / 2 = j / 2 from by omega]
theorem odI_odd {xs : List Int} {j : Nat} (h : ¬ j % 2 = 0) (hj : j < xs.length) : odI xs j ++ [xs[j]] = odI xs (j + 1) ∧ evI xs (j + 1) = evI xs j := by
  refine ⟨?_, ?_⟩
  · unfold odI
    rw [show (j + 1) / 2 = j / 2 + 1 from by omega, List.range_succ, List.map_append]
    congr 1
    rw [List.map_singleton, show 2 * (j / 2) + 1 = j from by omega, List.getD_eq_getElem?_getD, List.getElem?_eq_getElem hj]; rfl
  · unfold evI
    rw [show (j + 1 + 1) / 2 = (j + 1) / 2 from by omega]
theorem evI_mem {xs : List Int} {P : Int → Prop} (h0 : P 0) (h : ∀ x ∈ xs, P x) (j : Nat) : (∀ x ∈ evI xs j, P x) ∧ ∀ x ∈ odI xs j, P x := by
  have hg : ∀ t, P (xs.getD t 0) := fun t => by
    rw [List.getD_eq_getElem?_getD]
    cases e : xs[t]? with
    | none => exact h0
    | some x => exact h x (List.mem_of_getElem? e)
  refine ⟨fun x hx => ?_, fun x hx => ?_⟩ <;> (obtain ⟨t, _, rfl⟩ := List.mem_map.1 hx; exact hg _)
theorem co_els (xs : List Int) (t : Nat) : co (els p xs) t = el p (xs.getD t 0) := by
  unfold co
  rw [List.getElem?_map, List.getD_eq_getElem?_getD]
  cases xs[t]? with
  | none => exact el_zero.symm
  | some x => rfl
theorem els_evI {xs : List Int} {m : Nat} (h : xs.length = 2 * m) : els p (evI xs (2 * m)) = evens (els p xs) ∧ els p (odI xs (2 * m)) = odds (els p xs) := by
  obtain ⟨h1, h2⟩ := evens_length (els p xs) m (by simpa using h)
  refine ⟨ext_co (by simp [evI, h1]; omega) fun i hi => ?_, ext_co (by simp [odI, h2]) fun i hi => ?_⟩
  · rw [co_evens, co_els, co_els]
    have : i < (2 * m + 1) / 2 := by simpa [evI] using hi
    congr 1
    simp [evI, List.getD_eq_getElem?_getD, this]
  · rw [co_odds, co_els, co_els]
    have : i < 2 * m / 2 := by simpa [odI] using hi
    congr 1
    have h3 : i < m := by omega
    simp [odI, List.getD_eq_getElem?_getD, h3]
theorem ev_snoc (y c : Fin p) : ∀ l : List (Fin p), ev (l ++ [c]) y = ev l y + c * pw y l.length
  | [] => by simp only [List.nil_append, ev, List.length_nil, pw_zero]; grind
  | a :: l => by
    have ih := ev_snoc y c l
    rw [List.cons_append, ev, ev, ih, List.length_cons, pw_succ]
    grind
theorem ev_set (y c : Fin p) : ∀ (l : List (Fin p)) (j : Nat), j < l.length → ev (l.set j (co l j + c)) y = ev l y + c * pw y j
  | [], j, h => by simp at h
  | a :: l, 0, _ => by
    rw [List.set_cons_zero, co_cons_zero, ev, ev, pw_zero]
    grind
  | a :: l, j + 1, h => by
    have ih := ev_set y c l j (by simpa using h)
    rw [List.set_cons_succ, co_cons_succ, ev, ev, ih, pw_succ]
    grind
/-- values at the points s, s r, s r^2 .. -/
def valL (s r : Fin p) (n : Nat) (a : List (Fin p)) : List (Fin p) := tab n (fun j => ev a (s * pw r j))
theorem valL_length (s r : Fin p) (n : Nat) (a : List (Fin p)) : (valL s r n a).length = n := tab_length _ _
/-- what Values' first loop knows: a list of n places that is, at whatever y^n = 1, what the first k places are at s y -/
def Wrapped (s : Fin p) (n : Nat) (a : List (Fin p)) (k : Nat) (L : List (Fin p)) : Prop := L.length = n ∧ ∀ y, pw y n = 1 → ev L y = ev (a.take k) (s * y)
theorem Wrapped.start (s : Fin p) (n : Nat) (a : List (Fin p)) : Wrapped s n a 0 (List.replicate n 0) := ⟨by simp, fun y _ => by
  rw [List.take_zero, ev]
  exact ev_all_zero (fun i => by
    unfold co
    rw [List.getElem?_replicate]
    split <;> rfl) y⟩
theorem Wrapped.step {s : Fin p} {n : Nat} {a : List (Fin p)} {k : Nat} {L : List (Fin p)} (h : Wrapped s n a k L) (hn : 0 < n) (hk : k < a.length) : Wrapped s n a (k + 1) (L.set (k % n) (co L (k % n) + pw s k * co a k)) := by
  refine ⟨by simp [h.1], fun y hy => ?_⟩
  rw [ev_set y _ L _ (by rw [h.1]; exact Nat.mod_lt _ hn), h.2 y hy, List.take_succ_eq_append_getElem hk, ev_snoc, List.length_take, Nat.min_eq_left (by omega), ← co_of_lt hk, mul_pw, pw_mod hy]
  grind
theorem Wrapped.done {s : Fin p} {n : Nat} {a : List (Fin p)} {L : List (Fin p)} (h : Wrapped s n a a.length L) {r : Fin p} (hr : pw r n = 1) : dft r n L = valL s r n a := by
  unfold dft valL
  refine ext_co (by rw [tab_length, tab_length]) fun i hi => ?_
  rw [tab_length] at hi
  rw [co_tab, co_tab, if_pos hi, if_pos hi, h.2 _ (by rw [← pw_mul, Nat.mul_comm, pw_mul, hr, one_pw]), List.take_length]
end dm
end Zp
