/- Plain facts on the places of polynomials as power series: a ring without factors of zero; division of polynomials, of one quotient and rest alone. No program is in sight. -/
import Derived.Test.YtiohededmcfhjaaDoorFt
set_option linter.unusedVariables false
namespace Zp
section ps
variable {p : Nat} [NeZero p]

/-- products by places -/
def mulF (f g : Nat → Fin p) : Nat → Fin p
  | 0 => f 0 * g 0
  | n + 1 => f 0 * g (n + 1) + mulF (fun i => f (i + 1)) g n
omit [NeZero p] in
theorem mulF_succ (f g : Nat → Fin p) (n : Nat) : mulF f g (n + 1) = f 0 * g (n + 1) + mulF (fun i => f (i + 1)) g n := rfl
theorem mulF_right (f g : Nat → Fin p) (n : Nat) : mulF f g (n + 1) = f (n + 1) * g 0 + mulF f (fun i => g (i + 1)) n := by
  induction n generalizing f with
  | zero => simp only [mulF]; grind
  | succ n ih =>
    rw [mulF, ih]
    show f 0 * g (n + 2) + (f (n + 2) * g 0 + mulF (fun i => f (i + 1)) (fun i => g (i + 1)) n) = f (n + 2) * g 0 + (f 0 * g (n + 2) + mulF (fun i => f (i + 1)) (fun i => g (i + 1)) n)
    grind
theorem mulF_comm (f g : Nat → Fin p) (n : Nat) : mulF f g n = mulF g f n := by
  induction n generalizing f with
  | zero => simp only [mulF]; grind
  | succ n ih => rw [mulF, mulF_right g f, ih]; grind
theorem mulF_add (f h g : Nat → Fin p) (n : Nat) : mulF (fun i => f i + h i) g n = mulF f g n + mulF h g n := by
  induction n generalizing f h with
  | zero => simp only [mulF]; grind
  | succ n ih => rw [mulF, mulF, mulF, ih (fun i => f (i + 1)) (fun i => h (i + 1))]; grind
theorem mulF_smul (c : Fin p) (f g : Nat → Fin p) (n : Nat) : mulF (fun i => c * f i) g n = c * mulF f g n := by
  induction n generalizing f with
  | zero => simp only [mulF]; grind
  | succ n ih => rw [mulF, mulF, ih (fun i => f (i + 1))]; grind
theorem mulF_assoc (f g h : Nat → Fin p) (n : Nat) : mulF (mulF f g) h n = mulF f (mulF g h) n := by
  induction n generalizing f with
  | zero => simp only [mulF]; grind
  | succ n ih =>
    have e : (fun i => mulF f g (i + 1)) = fun i => (f 0 * g (i + 1)) + mulF (fun i => f (i + 1)) g i := rfl
    rw [mulF, e, mulF_add (fun i => f 0 * g (i + 1)) (mulF (fun i => f (i + 1)) g), mulF_smul (f 0) (fun i => g (i + 1)), ih, mulF, mulF, mulF]
    grind
omit [NeZero p] in
theorem mulF_congr {f f' g g' : Nat → Fin p} (hf : ∀ i, f i = f' i) (hg : ∀ i, g i = g' i) (n : Nat) : mulF f g n = mulF f' g' n := by
  rw [show f = f' from funext hf, show g = g' from funext hg]
theorem mulF_zero (g : Nat → Fin p) (n : Nat) : mulF (fun _ => 0) g n = 0 := by
  induction n with
  | zero => simp only [mulF]; grind
  | succ n ih => rw [mulF, ih]; grind
theorem mulF_low (f g : Nat → Fin p) (n : Nat) : ∀ m, (∀ i, i < m → f i = 0) → mulF f g (m + n) = mulF (fun i => f (m + i)) g n := fun m => by
  induction m generalizing f with
  | zero => intro _; rw [Nat.zero_add]; exact mulF_congr (fun i => by rw [Nat.zero_add]) (fun _ => rfl) n
  | succ m ih =>
    intro h
    rw [show m + 1 + n = m + n + 1 from by omega, mulF, h 0 (by omega), ih (fun i => f (i + 1)) (fun i hi => h (i + 1) (by omega))]
    have e : (fun i => f (m + i + 1)) = fun i => f (m + 1 + i) := funext fun i => by rw [show m + i + 1 = m + 1 + i from by omega]
    rw [e]; grind
theorem mulF_top (g : Nat → Fin p) (n : Nat) (hg : ∀ j, n < j → g j = 0) : ∀ (m : Nat) (f : Nat → Fin p), (∀ i, m < i → f i = 0) → mulF f g (m + n) = f m * g n := fun m => by
  induction m with
  | zero =>
    intro f hf
    rw [Nat.zero_add]
    cases n with
    | zero => rfl
    | succ n =>
      rw [mulF, mulF_congr (f' := fun _ => 0) (g' := g) (fun i => hf (i + 1) (by omega)) (fun _ => rfl), mulF_zero]; grind
  | succ m ih =>
    intro f hf
    rw [show m + 1 + n = m + n + 1 from by omega, mulF, ih (fun i => f (i + 1)) (fun i hi => hf (i + 1) (by omega)), hg (m + n + 1) (by omega)]; grind

/-- a power series -/
def PS (p : Nat) : Type := Nat → Fin p
instance : Add (PS p) := ⟨fun f g n => f n + g n⟩
instance : Sub (PS p) := ⟨fun f g n => f n - g n⟩
instance : Mul (PS p) := ⟨mulF⟩
instance : Zero (PS p) := ⟨fun _ => 0⟩
instance : One (PS p) := ⟨fun n => if n = 0 then 1 else 0⟩
namespace PS
omit [NeZero p] in
theorem add_ap (f g : PS p) (n : Nat) : (f + g) n = f n + g n := rfl
omit [NeZero p] in
theorem sub_ap (f g : PS p) (n : Nat) : (f - g) n = f n - g n := rfl
omit [NeZero p] in
theorem mul_ap (f g : PS p) (n : Nat) : (f * g) n = mulF f g n := rfl
theorem zero_ap (n : Nat) : (0 : PS p) n = 0 := rfl
theorem one_ap (n : Nat) : (1 : PS p) n = if n = 0 then 1 else 0 := rfl
protected theorem add_comm (f g : PS p) : f + g = g + f := funext fun n => by rw [add_ap, add_ap]; grind
protected theorem add_assoc (f g h : PS p) : f + g + h = f + (g + h) := funext fun n => by simp only [add_ap]; grind
protected theorem add_left_comm (f g h : PS p) : f + (g + h) = g + (f + h) := funext fun n => by simp only [add_ap]; grind
protected theorem add_zero (f : PS p) : f + 0 = f := funext fun n => by rw [add_ap, zero_ap]; grind
protected theorem zero_add (f : PS p) : 0 + f = f := funext fun n => by rw [add_ap, zero_ap]; grind
protected theorem mul_comm (f g : PS p) : f * g = g * f := funext fun n => mulF_comm f g n
protected theorem mul_assoc (f g h : PS p) : f * g * h = f * (g * h) := funext fun n => mulF_assoc f g h n
protected theorem mul_left_comm (f g h : PS p) : f * (g * h) = g * (f * h) := by rw [← PS.mul_assoc, PS.mul_comm f g, PS.mul_assoc]
protected theorem add_mul (f g h : PS p) : (f + g) * h = f * h + g * h := funext fun n => mulF_add f g h n
protected theorem mul_add (f g h : PS p) : f * (g + h) = f * g + f * h := by rw [PS.mul_comm f, PS.add_mul, PS.mul_comm g, PS.mul_comm h]
protected theorem zero_mul (f : PS p) : 0 * f = 0 := funext fun n => mulF_zero f n
protected theorem mul_zero (f : PS p) : f * 0 = 0 := by rw [PS.mul_comm, PS.zero_mul]
protected theorem one_mul (f : PS p) : 1 * f = f := funext fun n => by
  show mulF (fun n => if n = 0 then (1 : Fin p) else 0) f n = f n
  cases n with
  | zero => show (if 0 = 0 then (1 : Fin p) else 0) * f 0 = f 0; rw [if_pos rfl]; grind
  | succ n =>
    have e := mulF_succ (fun n => if n = 0 then (1 : Fin p) else 0) f n
    have e2 : mulF (fun i => if i + 1 = 0 then (1 : Fin p) else 0) f n = 0 := (mulF_congr (f' := fun _ => 0) (g' := f) (fun i => if_neg (by omega)) (fun _ => rfl) n).trans (mulF_zero _ _)
    rw [e, e2, if_pos rfl]; grind
protected theorem mul_one (f : PS p) : f * 1 = f := by rw [PS.mul_comm, PS.one_mul]
protected theorem sub_eq_iff {f g h : PS p} : f - g = h ↔ f = h + g := by
  constructor
  · rintro rfl; exact funext fun n => by rw [add_ap, sub_ap]; grind
  · rintro rfl; exact funext fun n => by rw [sub_ap, add_ap]; grind
protected theorem sub_mul (f g h : PS p) : (f - g) * h = f * h - g * h := by
  have e : f * h = (f - g) * h + g * h := by rw [← PS.add_mul, ← PS.sub_eq_iff.1 rfl]
  exact (PS.sub_eq_iff.2 e).symm
protected theorem mul_sub (f g h : PS p) : f * (g - h) = f * g - f * h := by rw [PS.mul_comm f, PS.sub_mul, PS.mul_comm g, PS.mul_comm h]
protected theorem sub_self (f : PS p) : f - f = 0 := funext fun n => by rw [sub_ap, zero_ap]; grind
protected theorem eq_of_sub {f g : PS p} (h : f - g = 0) : f = g := by rw [PS.sub_eq_iff.1 h, PS.zero_add]

theorem least {f : PS p} (h : f ≠ 0) : ∃ m, f m ≠ 0 ∧ ∀ i, i < m → f i = 0 := by
  have hex : ∃ m, f m ≠ 0 := by
    false_or_by_contra
    rename_i hn
    refine h (funext fun n => ?_)
    false_or_by_contra
    rename_i h'
    exact hn ⟨n, h'⟩
  have : ∀ n, (∃ m, m ≤ n ∧ f m ≠ 0) → ∃ m, f m ≠ 0 ∧ ∀ i, i < m → f i = 0 := by
    intro n
    induction n with
    | zero => rintro ⟨m, h1, h2⟩; exact ⟨m, h2, fun i hi => by omega⟩
    | succ n ih =>
      intro hm
      by_cases hn : ∃ m, m ≤ n ∧ f m ≠ 0
      · exact ih hn
      · obtain ⟨m, h1, h2⟩ := hm
        refine ⟨m, h2, fun i hi => ?_⟩
        false_or_by_contra
        rename_i h'
        exact hn ⟨i, by omega, h'⟩
  obtain ⟨m, hm⟩ := hex
  exact this m ⟨m, Nat.le_refl _, hm⟩
/-- no factors of zero -/
theorem mul_eq_zero (hp : IsPrime p) {f g : PS p} (h : f * g = 0) : f = 0 ∨ g = 0 := by
  by_cases hf : f = 0
  · exact .inl hf
  · by_cases hg : g = 0
    · exact .inr hg
    · exfalso
      obtain ⟨m, hm, hm'⟩ := least hf
      obtain ⟨n, hn, hn'⟩ := least hg
      have e : (f * g) (m + n) = f m * g n := by
        have e1 := mulF_low f g n m hm'
        have e2 := mulF_comm (fun i => f (m + i)) g n
        have e3 := mulF_low g (fun i => f (m + i)) 0 n hn'
        have e4 : mulF (fun i => g (n + i)) (fun i => f (m + i)) 0 = g n * f m := rfl
        exact e1.trans (e2.trans (e3.trans (e4.trans (by grind))))
      rw [h, zero_ap] at e
      rcases Zp.mul_eq_zero hp e.symm with h' | h'
      · exact hm h'
      · exact hn h'
theorem mul_right_cancel (hp : IsPrime p) {f g h : PS p} (hh : h ≠ 0) (e : f * h = g * h) : f = g := by
  have : (f - g) * h = 0 := by rw [PS.sub_mul, e, PS.sub_self]
  exact PS.eq_of_sub ((mul_eq_zero hp this).resolve_right hh)
end PS

/-- the places of a list -/
def ofL (l : List (Fin p)) : PS p := co l
theorem ofL_ap (l : List (Fin p)) (n : Nat) : ofL l n = co l n := rfl
theorem ofL_nil : ofL ([] : List (Fin p)) = 0 := funext fun n => co_nil n
theorem ofL_one : ofL [(1 : Fin p)] = 1 := funext fun n => by
  rw [ofL_ap, PS.one_ap]
  cases n with
  | zero => rfl
  | succ n => rw [co_of_ge (by simp)]; rfl
theorem ofL_trim (l : List (Fin p)) : ofL (trimL l) = ofL l := funext fun n => co_trim l n
theorem ofL_add (a b : List (Fin p)) : ofL (addL a b) = ofL a + ofL b := funext fun n => co_addL a b n
theorem ofL_sub (a b : List (Fin p)) : ofL (subL a b) = ofL a - ofL b := funext fun n => co_subL a b n
theorem ofL_mul (b : List (Fin p)) : ∀ a : List (Fin p), ofL (mulL a b) = ofL a * ofL b := fun a => funext fun n => by
  show co (mulL a b) n = mulF (co a) (co b) n
  induction a generalizing n with
  | nil => rw [mulL, co_nil, mulF_congr (f' := fun _ => 0) (g' := co b) (fun i => co_nil i) (fun _ => rfl), mulF_zero]
  | cons x a ih =>
    rw [co_mulL_cons]
    cases n with
    | zero => rw [if_pos rfl, mulF, co_cons_zero]; grind
    | succ n =>
      rw [if_neg (by omega), Nat.add_sub_cancel, ih, mulF, co_cons_zero]
      rfl
theorem trim_of_ofL {a b : List (Fin p)} (h : ofL a = ofL b) : trimL a = trimL b := trimL_congr fun i => congrFun h i
theorem eq_of_ofL {a b : List (Fin p)} (ha : trimL a = a) (hb : trimL b = b) (h : ofL a = ofL b) : a = b := by rw [← ha, ← hb, trim_of_ofL h]
theorem ofL_zero {a : List (Fin p)} (ha : trimL a = a) (h : ofL a = 0) : a = [] := eq_of_ofL ha rfl (h.trans ofL_nil.symm)
theorem ofL_ne {a : List (Fin p)} (h : trimL a ≠ []) : ofL a ≠ 0 := fun e => h (trim_of_ofL (e.trans ofL_nil.symm))

/-- the last place that is not 0 -/
theorem top_ne {l : List (Fin p)} (h : 0 < (trimL l).length) : co l ((trimL l).length - 1) ≠ 0 := by
  rcases (trimAt_iff_co.1 (trimL_at l)).2 with h0 | h0
  · omega
  · exact h0
theorem top_zero (l : List (Fin p)) {i : Nat} (h : (trimL l).length ≤ i) : co l i = 0 := (trimAt_iff_co.1 (trimL_at l)).1 i h
/-- the length of a product -/
theorem mul_length (hp : IsPrime p) {a b : List (Fin p)} (ha : 0 < (trimL a).length) (hb : 0 < (trimL b).length) : (trimL (mulL a b)).length + 1 = (trimL a).length + (trimL b).length := by
  obtain ⟨m, hm⟩ : ∃ m, (trimL a).length = m + 1 := ⟨_, (Nat.succ_pred_eq_of_pos ha).symm⟩
  obtain ⟨n, hn⟩ : ∃ n, (trimL b).length = n + 1 := ⟨_, (Nat.succ_pred_eq_of_pos hb).symm⟩
  have a1 := top_ne ha
  have b1 := top_ne hb
  rw [hm, Nat.add_sub_cancel] at a1
  rw [hn, Nat.add_sub_cancel] at b1
  have a2 : ∀ i, m < i → co a i = 0 := fun i hi => top_zero a (by omega)
  have b2 : ∀ i, n < i → co b i = 0 := fun i hi => top_zero b (by omega)
  have hc : ∀ i, co (mulL a b) i = mulF (co a) (co b) i := fun i => congrFun (ofL_mul b a) i
  have : (trimL (mulL a b)).length = m + n + 1 := by
    refine TrimAt.length (trimAt_iff_co.2 ⟨fun i hi => ?_, .inr ?_⟩)
    · rw [← co_mulL_congr (a := trimL a) (b := trimL b) (a' := a) (b' := b) (fun i => co_trim a i) (fun i => co_trim b i)]
      exact co_mulL_ge _ _ i (by omega)
    · rw [Nat.add_sub_cancel, hc, mulF_top (co b) n b2 m (co a) a2]
      exact mul_ne_zero hp a1 b1
  omega

/-- quotient and rest -/
structure DivOk (a b Q R : List (Fin p)) : Prop where
  tq : trimL Q = Q
  tr : trimL R = R
  lt : R.length < (trimL b).length
  eq : ofL a = ofL Q * ofL b + ofL R
theorem DivOk.unique (hp : IsPrime p) {a b Q R Q' R' : List (Fin p)} (h : DivOk a b Q R) (h' : DivOk a b Q' R') : Q = Q' ∧ R = R' := by
  have hb : 0 < (trimL b).length := by have := h.lt; omega
  have e : ofL (mulL (subL Q Q') b) = ofL (subL R' R) := by
    rw [ofL_mul, ofL_sub, ofL_sub, PS.sub_mul, PS.sub_eq_iff]
    have e1 := h.eq.symm.trans h'.eq
    have e2 : ofL Q * ofL b = ofL Q' * ofL b + ofL R' - ofL R := (PS.sub_eq_iff.2 e1.symm).symm
    rw [e2, PS.sub_eq_iff]
    refine funext fun n => ?_
    simp only [PS.add_ap, PS.sub_ap]
    grind
  have hq : trimL (subL Q Q') = [] := by
    rcases Nat.eq_zero_or_pos (trimL (subL Q Q')).length with h0 | h0
    · exact List.length_eq_zero_iff.1 h0
    · exfalso
      have h1 := mul_length hp h0 hb
      rw [trim_of_ofL e] at h1
      have h2 : (trimL (subL R' R)).length < (trimL b).length := by
        refine Nat.lt_of_le_of_lt (trimL_length_le _) ?_
        rw [subL, tab_length]
        have := h.lt; have := h'.lt
        omega
      omega
  have e3 : ofL Q = ofL Q' := PS.eq_of_sub (by rw [← ofL_sub, ← ofL_trim, hq, ofL_nil])
  refine ⟨eq_of_ofL h.tq h'.tq e3, eq_of_ofL h.tr h'.tr ?_⟩
  have e4 := h.eq.symm.trans h'.eq
  rw [e3] at e4
  refine funext fun n => ?_
  have e5 := congrFun e4 n
  simp only [PS.add_ap] at e5
  grind

/-- a place of a quotient is set -/
theorem co_mulL_set (b : List (Fin p)) (c : Fin p) : ∀ (a : List (Fin p)) (i m : Nat), i < a.length → co a i = 0 → co (mulL (a.set i c) b) m = co (mulL a b) m + if i ≤ m then c * co b (m - i) else 0
  | [], i, m, hi, _ => by simp at hi
  | x :: a, 0, m, _, h0 => by
    rw [co_cons_zero] at h0
    rw [List.set_cons_zero, co_mulL_cons, co_mulL_cons, h0, if_pos (Nat.zero_le _), Nat.sub_zero]; grind
  | x :: a, i + 1, m, hi, h0 => by
    rw [co_cons_succ] at h0
    rw [List.set_cons_succ, co_mulL_cons, co_mulL_cons]
    by_cases hm : m = 0
    · subst hm; rw [if_pos rfl, if_pos rfl, if_neg (by omega)]; grind
    · rw [if_neg hm, if_neg hm, co_mulL_set b c a i (m - 1) (by simpa using hi) h0]
      by_cases h : i + 1 ≤ m
      · rw [if_pos (by omega), if_pos h, show m - 1 - i = m - (i + 1) from by omega]; grind
      · rw [if_neg (by omega), if_neg h]; grind

/-- what the program's division knows: j places of the quotient are left -/
structure Divs (a b : List (Fin p)) (last j : Nat) (Q R : List (Fin p)) : Prop where
  qz : ∀ i, i < j → co Q i = 0
  rz : ∀ i, j + last ≤ i → co R i = 0
  eq : ∀ i, co a i = co (mulL Q b) i + co R i
/-- what its inner loop knows: k places of the row are taken off -/
def Dived (b : List (Fin p)) (c : Fin p) (j k : Nat) (R M : List (Fin p)) : Prop := M.length = R.length ∧ ∀ m, co M m = co R m - if j ≤ m ∧ m < j + k then c * co b (m - j) else 0
theorem Dived.start (b : List (Fin p)) (c : Fin p) (j : Nat) (R : List (Fin p)) : Dived b c j 0 R R := ⟨rfl, fun m => by rw [if_neg (by omega)]; grind⟩
theorem Dived.step {b : List (Fin p)} {c : Fin p} {j k : Nat} {R M : List (Fin p)} (h : Dived b c j k R M) (hl : j + k < R.length) : Dived b c j (k + 1) R (M.set (j + k) (co M (j + k) - c * co b k)) := by
  refine ⟨by rw [List.length_set, h.1], fun m => ?_⟩
  by_cases hm : m = j + k
  · subst hm
    rw [co_of_lt (by rw [List.length_set, h.1]; exact hl), List.getElem_set_self, h.2, if_neg (by omega), if_pos ⟨by omega, by omega⟩, show j + k - j = k from by omega]; grind
  · have e : co (M.set (j + k) (co M (j + k) - c * co b k)) m = co M m := by
      unfold co
      rw [List.getElem?_set_ne (by omega)]
    rw [e, h.2]
    by_cases h1 : j ≤ m ∧ m < j + k
    · rw [if_pos h1, if_pos ⟨h1.1, by omega⟩]
    · rw [if_neg h1, if_neg (by omega)]
theorem Divs.step {a b : List (Fin p)} {last j : Nat} {Q R M : List (Fin p)} {c inv : Fin p} (h : Divs a b last (j + 1) Q R) (hb : b.length = last + 1) (hi : inv * co b last = 1) (hj : j < Q.length) (hc : c = co R (j + last) * inv) (hm : Dived b c j b.length R M) :
    Divs a b last j (Q.set j c) M := by
  refine ⟨fun i hi' => ?_, fun i hi' => ?_, fun i => ?_⟩
  · unfold co
    rw [List.getElem?_set_ne (by omega)]
    exact h.qz i (by omega)
  · rw [hm.2]
    by_cases he : i = j + last
    · subst he
      rw [if_pos ⟨by omega, by omega⟩, show j + last - j = last from by omega, hc]
      have : co R (j + last) * inv * co b last = co R (j + last) * (inv * co b last) := by grind
      rw [this, hi]; grind
    · rw [if_neg (by omega), h.rz i (by omega)]; grind
  · rw [co_mulL_set b c Q j i hj (h.qz j (by omega)), hm.2, h.eq]
    by_cases h1 : j ≤ i
    · rw [if_pos h1]
      by_cases h2 : i < j + b.length
      · rw [if_pos ⟨h1, h2⟩]; grind
      · rw [if_neg (by omega), co_of_ge (l := b) (by omega)]; grind
    · rw [if_neg h1, if_neg (by omega)]; grind
theorem Divs.done {a b : List (Fin p)} {last : Nat} {Q R : List (Fin p)} (h : Divs a b last 0 Q R) (hb : (trimL b).length = last + 1) : DivOk a b (trimL Q) (trimL R) := by
  refine ⟨trimL_trim _, trimL_trim _, ?_, ?_⟩
  · rw [hb]
    have h1 : (trimL R).length ≤ last := trimL_length_of fun i hi => h.rz i (by omega)
    omega
  · rw [ofL_trim, ofL_trim, ← ofL_mul]
    exact funext fun i => h.eq i
end ps
end Zp
