/- Plain facts on the polynomial through points, as the program makes it: what vanishes at the points, place by place; what is left of it without one point. No program is in sight. -/
import Derived.Test.YtiohededmcfhjaaDoorPs
set_option linter.unusedVariables false
namespace Zp
section fp
variable {p : Nat} [NeZero p]

theorem co_two_zero (c d : Fin p) : co [c, d] 0 = c := rfl
theorem co_two_one (c d : Fin p) : co [c, d] 1 = d := rfl
theorem co_two_ge (c d : Fin p) {m : Nat} (h : 2 ≤ m) : co [c, d] m = 0 := co_of_ge (by simpa using h)
/-- times x + c -/
theorem co_mulL_two (c : Fin p) : ∀ (o : List (Fin p)) (m : Nat), co (mulL o [c, 1]) m = co o m * c + if m = 0 then 0 else co o (m - 1)
  | [], m => by
    simp only [mulL, co_nil]
    split <;> grind
  | y :: o, 0 => by
    rw [co_mulL_cons, co_two_zero, if_pos rfl, if_pos rfl, co_cons_zero y o]
  | y :: o, m + 1 => by
    rw [co_mulL_cons, if_neg (by omega), if_neg (by omega), Nat.add_sub_cancel, co_cons_succ y o m, co_mulL_two c o m]
    cases m with
    | zero => rw [co_two_one, if_pos rfl, co_cons_zero y o]; grind
    | succ m => rw [co_two_ge c 1 (m := m + 1 + 1) (by omega), if_neg (by omega), Nat.add_sub_cancel, co_cons_succ y o m]; grind

/-- its last place is 1 -/
structure Monic (o : List (Fin p)) (n : Nat) : Prop where
  len : o.length = n + 1
  top : co o n = 1
theorem Monic.trim (hp : IsPrime p) {o : List (Fin p)} {n : Nat} (h : Monic o n) : trimL o = o := by
  have : TrimAt o (n + 1) := trimAt_iff_co.2 ⟨fun i hi => co_of_ge (by rw [h.len]; exact hi), .inr (by rw [Nat.add_sub_cancel, h.top]; exact one_ne_zero hp)⟩
  rw [this.trim, ← h.len, List.take_length]
theorem Monic.vanS (hp : IsPrime p) {o : List (Fin p)} {n : Nat} (h : Monic o n) (x : Fin p) : Monic (vanS o x) (n + 1) ∧ ∀ m, co (vanS o x) m = co o m * (0 - x) + if m = 0 then 0 else co o (m - 1) := by
  have hc : ∀ m, co (Zp.vanS o x) m = co o m * (0 - x) + if m = 0 then 0 else co o (m - 1) := fun m => by rw [Zp.vanS, co_trim, co_mulL_two]
  have ht : co (Zp.vanS o x) (n + 1) = 1 := by
    rw [hc, if_neg (by omega), Nat.add_sub_cancel, h.top, co_of_ge (by rw [h.len]; exact Nat.le_refl _)]; grind
  refine ⟨⟨?_, ht⟩, hc⟩
  have : TrimAt (mulL o [0 - x, 1]) (n + 2) := trimAt_iff_co.2 ⟨fun i hi => by
    rw [co_mulL_two, if_neg (by omega), co_of_ge (by rw [h.len]; omega), co_of_ge (by rw [h.len]; omega)]; grind, .inr (by
    rw [show n + 2 - 1 = n + 1 from rfl, ← co_trim]
    exact fun e => one_ne_zero hp (ht.symm.trans e))⟩
  exact this.length
theorem monic_one : Monic ([1] : List (Fin p)) 0 := ⟨rfl, rfl⟩
theorem monic_foldV (hp : IsPrime p) : ∀ (l o : List (Fin p)) (n : Nat), Monic o n → Monic (l.foldl Zp.vanS o) (n + l.length)
  | [], o, n, h => h
  | x :: l, o, n, h => by
    rw [List.foldl_cons, List.length_cons, show n + (l.length + 1) = n + 1 + l.length from by omega]
    exact monic_foldV hp l _ _ (h.vanS hp x).1
theorem monic_van (hp : IsPrime p) (l : List (Fin p)) : Monic (vanL l) l.length := by
  have := monic_foldV hp l [1] 0 monic_one
  rwa [Nat.zero_add] at this

/-- what the inner loop of Vanish has laid: k places -/
def VanIn (o : List (Fin p)) (x : Fin p) (k : Nat) (N : List (Fin p)) : Prop := N.length = o.length + 1 ∧ ∀ m, co N m = (if 1 ≤ m ∧ m ≤ k then co o (m - 1) else 0) - (if m < k then x * co o m else 0)
theorem VanIn.start (o : List (Fin p)) (x : Fin p) (n : Nat) (h : n = o.length + 1) : VanIn o x 0 (List.replicate n 0) := ⟨by simp [h], fun m => by
  have e : co (List.replicate n (0 : Fin p)) m = 0 := by
    unfold co
    rw [List.getElem?_replicate]
    split <;> rfl
  rw [e, if_neg (by omega), if_neg (by omega)]; grind⟩
theorem co_set' (L : List (Fin p)) (j : Nat) (x : Fin p) (hj : j < L.length) (m : Nat) : co (L.set j x) m = if m = j then x else co L m := by
  unfold co
  rw [List.getElem?_set]
  by_cases h : m = j
  · subst h; rw [if_pos rfl, if_pos rfl, if_pos hj]; rfl
  · rw [if_neg (fun e => h e.symm), if_neg h]
theorem VanIn.step {o : List (Fin p)} {x : Fin p} {k : Nat} {N : List (Fin p)} (h : VanIn o x k N) (hk : k < o.length) {a c : Fin p} (ha : a = co N (k + 1) + co o k) (hc : c = co N k - x * co o k) : VanIn o x (k + 1) ((N.set (k + 1) a).set k c) := by
  have hl := h.1
  refine ⟨by rw [List.length_set, List.length_set, hl], fun m => ?_⟩
  rw [co_set' _ _ _ (by rw [List.length_set]; omega), co_set' _ _ _ (by omega)]
  by_cases h1 : m = k
  · subst h1
    rw [if_pos rfl, hc, h.2 m, if_neg (show ¬ m < m by omega), if_pos (show m < m + 1 by omega)]
    by_cases h2 : 1 ≤ m
    · rw [if_pos ⟨h2, Nat.le_refl _⟩, if_pos ⟨h2, by omega⟩]; grind
    · rw [if_neg (by omega), if_neg (by omega)]; grind
  · rw [if_neg h1]
    by_cases h2 : m = k + 1
    · subst h2
      rw [if_pos rfl, ha, h.2, if_neg (by omega), if_neg (by omega), if_pos ⟨by omega, Nat.le_refl _⟩, if_neg (by omega), Nat.add_sub_cancel]; grind
    · rw [if_neg h2, h.2]
      by_cases h3 : m < k
      · rw [if_pos h3, if_pos (show m < k + 1 by omega)]
        by_cases h4 : 1 ≤ m
        · rw [if_pos ⟨h4, by omega⟩, if_pos ⟨h4, by omega⟩]
        · rw [if_neg (by omega), if_neg (by omega)]
      · rw [if_neg h3, if_neg (show ¬ m < k + 1 by omega), if_neg (by omega), if_neg (by omega)]
theorem VanIn.done (hp : IsPrime p) {o : List (Fin p)} {x : Fin p} {n : Nat} {N : List (Fin p)} (ho : Monic o n) (h : VanIn o x o.length N) : N = vanS o x := by
  obtain ⟨h1, h2⟩ := ho.vanS hp x
  refine ext_co (by rw [h.1, h1.len, ho.len]) fun m hm => ?_
  rw [h.1, ho.len] at hm
  rw [h.2, h2, ho.len]
  by_cases h3 : m < n + 1
  · rw [if_pos h3]
    by_cases h4 : m = 0
    · subst h4; rw [if_neg (by omega), if_pos rfl]; grind
    · rw [if_pos ⟨by omega, by omega⟩, if_neg h4]; grind
  · rw [if_neg h3, if_pos (show 1 ≤ m ∧ m ≤ n + 1 from ⟨by omega, by omega⟩), if_neg (show ¬ m = 0 by omega), co_of_ge (l := o) (i := m) (by rw [ho.len]; omega)]; grind

/-- the product of x - each -/
def PP : List (Fin p) → PS p
  | [] => 1
  | x :: l => ofL [0 - x, 1] * PP l
theorem ofL_foldV : ∀ (l o : List (Fin p)), ofL (l.foldl vanS o) = ofL o * PP l
  | [], o => by rw [List.foldl_nil, PP, PS.mul_one]
  | x :: l, o => by rw [List.foldl_cons, ofL_foldV l, vanS, ofL_trim, ofL_mul, PP, PS.mul_assoc]
theorem ofL_van (l : List (Fin p)) : ofL (vanL l) = PP l := by rw [vanL, ofL_foldV, ofL_one, PS.one_mul]
theorem PP_erase : ∀ (l : List (Fin p)) (i : Nat) (h : i < l.length), PP l = ofL [0 - l[i], 1] * PP (l.eraseIdx i)
  | x :: l, 0, _ => rfl
  | x :: l, i + 1, h => by
    rw [List.eraseIdx_cons_succ, PP, PP, PP_erase l i (by simpa using h), PS.mul_left_comm]
    rfl
theorem lin_ne (hp : IsPrime p) (c : Fin p) : ofL [c, 1] ≠ 0 := fun h => one_ne_zero hp (congrFun h 1)

/-- what is left when x is taken out, from the last place on -/
structure PartOk (V : List (Fin p)) (x : Fin p) (P : List (Fin p)) : Prop where
  co : ∀ i, Zp.co P i = ev (V.drop (i + 1)) x
theorem ev_drop (V : List (Fin p)) (x : Fin p) (i : Nat) : ev (V.drop i) x = co V i + x * ev (V.drop (i + 1)) x := by
  rcases Nat.lt_or_ge i V.length with h | h
  · rw [List.drop_eq_getElem_cons h, ev, co_of_lt h]
  · rw [List.drop_eq_nil_of_le h, List.drop_eq_nil_of_le (by omega), co_of_ge h, ev]; grind
theorem PartOk.mul {V P : List (Fin p)} {x : Fin p} (h : PartOk V x P) (h0 : ev V x = 0) : ofL V = ofL P * ofL [0 - x, 1] := by
  rw [← ofL_mul]
  refine funext fun m => ?_
  rw [ofL_ap, ofL_ap, co_mulL_two, h.co]
  cases m with
  | zero =>
    have e := ev_drop V x 0
    rw [List.drop_zero, h0] at e
    rw [if_pos rfl]; grind
  | succ m =>
    have e := ev_drop V x (m + 1)
    rw [if_neg (by omega), Nat.add_sub_cancel, h.co]; grind
/-- .. of what vanishes at all points: what vanishes at the others -/
theorem PartOk.van (hp : IsPrime p) {l P : List (Fin p)} {i : Nat} (hi : i < l.length) (h : PartOk (vanL l) l[i] P) (j : Nat) : Zp.co P j = Zp.co (vanL (butI l (i : Int))) j := by
  have h1 := h.mul (vanL_zero (List.getElem_mem hi))
  rw [ofL_van, PP_erase l i hi] at h1
  have h2 : ofL P = PP (l.eraseIdx i) := by
    refine PS.mul_right_cancel hp (lin_ne hp (0 - l[i])) ?_
    rw [← h1, PS.mul_comm]
  have h3 : ofL (vanL (butI l (i : Int))) = PP (l.eraseIdx i) := by
    rw [ofL_van]
    unfold butI
    rw [if_pos (by omega), Int.toNat_natCast]
  exact congrFun (h2.trans h3.symm) j

/-- what the program's sum holds behind k points -/
structure FitSum (xs ys : List (Fin p)) (k : Nat) (S : List (Fin p)) : Prop where
  len : S.length = xs.length
  is : ∃ o, Fitted xs ys k o ∧ ∀ i, co S i = co o i
theorem FitSum.start (xs ys : List (Fin p)) (n : Nat) (h : n = xs.length) : FitSum xs ys 0 (List.replicate n 0) := ⟨by simp [h], [], Fitted.start xs ys, fun i => by
  have e : co (List.replicate n (0 : Fin p)) i = 0 := by
    unfold co
    rw [List.getElem?_replicate]
    split <;> rfl
  rw [e, co_nil]⟩
/-- what the inner loop of Fit has added: k places -/
def FitIn (P : List (Fin p)) (c : Fin p) (k : Nat) (S M : List (Fin p)) : Prop := M.length = S.length ∧ ∀ m, co M m = co S m + if m < k then c * co P m else 0
theorem FitIn.start (P : List (Fin p)) (c : Fin p) (S : List (Fin p)) : FitIn P c 0 S S := ⟨rfl, fun m => by rw [if_neg (by omega)]; grind⟩
theorem FitIn.step {P : List (Fin p)} {c : Fin p} {k : Nat} {S M : List (Fin p)} (h : FitIn P c k S M) (hk : k < S.length) : FitIn P c (k + 1) S (M.set k (co M k + c * co P k)) := by
  refine ⟨by rw [List.length_set, h.1], fun m => ?_⟩
  rw [co_set' _ _ _ (by rw [h.1]; exact hk)]
  by_cases hm : m = k
  · subst hm; rw [if_pos rfl, h.2, if_neg (by omega), if_pos (by omega)]; grind
  · rw [if_neg hm, h.2]
    by_cases h1 : m < k
    · rw [if_pos h1, if_pos (by omega)]
    · rw [if_neg h1, if_neg (by omega)]
theorem FitSum.step (hp : IsPrime p) {xs ys : List (Fin p)} (hx : xs.Nodup) {k : Nat} {S M P : List (Fin p)} (h : FitSum xs ys k S) (hk : k < xs.length) (hP : PartOk (vanL xs) (co xs k) P) (hPl : P.length = xs.length)
    {c : Fin p} (hc : c = co ys k * Zp.inv (ev P (co xs k))) (hm : FitIn P c P.length S M) : FitSum xs ys (k + 1) M := by
  obtain ⟨o, ho, hS⟩ := h.is
  have hv := fun j => PartOk.van hp hk (by rw [← co_of_lt hk]; exact hP) j
  refine ⟨by rw [hm.1, h.len], _, ho.step hp hx hk, fun i => ?_⟩
  rw [hm.2, co_trim, co_addL, co_sclL, if_neg (show ¬ i < 0 by omega), Nat.sub_zero, hS, ← ev_congr hv, ← hv, ← hc]
  by_cases hi : i < P.length
  · rw [if_pos hi]; grind
  · rw [if_neg hi, co_of_ge (l := P) (by omega)]; grind
theorem FitSum.done {xs ys S : List (Fin p)} (h : FitSum xs ys xs.length S) : Fitted xs ys xs.length (trimL S) := by
  obtain ⟨o, ho, hS⟩ := h.is
  have e : trimL S = o := by rw [← ho.trim]; exact trimL_congr hS
  rw [e]; exact ho
end fp
end Zp
