/- Plain facts on folding: words near two of low degree, by two unlike elements, make one near the word itself. No program is in sight. -/
import Derived.Test.YtehgeiaglddabaaFc
set_option linter.unusedVariables false
namespace Zp
section fn
variable {p : Nat} [NeZero p]

/-- two polynomials' places in turn -/
def weave (e o : List (Fin p)) (k : Nat) : List (Fin p) := tab (2 * k) (fun j => if j % 2 = 0 then co e (j / 2) else co o (j / 2))
theorem weave_length (e o : List (Fin p)) (k : Nat) : (weave e o k).length = 2 * k := tab_length _ _
theorem weave_succ (e o : List (Fin p)) (k : Nat) : weave e o (k + 1) = weave e o k ++ [co e k, co o k] := by
  unfold weave
  rw [show 2 * (k + 1) = 2 * k + 1 + 1 from by omega, tab_succ, tab_succ, List.append_assoc]
  congr 1
  rw [if_pos (by omega), if_neg (by omega), show 2 * k / 2 = k from by omega, show (2 * k + 1) / 2 = k from by omega]
  rfl
theorem co_evens_weave {e o : List (Fin p)} {k : Nat} (he : ∀ i, k ≤ i → co e i = 0) (t : Nat) : co (evens (weave e o k)) t = co e t := by
  rw [co_evens, weave, co_tab]
  by_cases h : 2 * t < 2 * k
  · rw [if_pos h, if_pos (by omega), show 2 * t / 2 = t from by omega]
  · rw [if_neg h, he t (by omega)]
theorem co_odds_weave {e o : List (Fin p)} {k : Nat} (ho : ∀ i, k ≤ i → co o i = 0) (t : Nat) : co (odds (weave e o k)) t = co o t := by
  rw [co_odds, weave, co_tab]
  by_cases h : 2 * t + 1 < 2 * k
  · rw [if_pos h, if_neg (by omega), show (2 * t + 1) / 2 = t from by omega]
  · rw [if_neg h, ho t (by omega)]

theorem unfold_pair (hp : IsPrime p) (h3 : 3 ≤ p) {x r s : Fin p} (hx : x ≠ 0) (hrs : s - r ≠ 0) {a b e o : Fin p} (h1 : foldE a b r x = e + r * o) (h2 : foldE a b s x = e + s * o) : a = e + x * o ∧ b = e - x * o := by
  unfold foldE at h1 h2
  have h2m := half2_mul hp h3
  have hix := mul_inv hp hx
  generalize half2 p = i2 at *
  generalize Zp.inv x = ix at *
  have e1 : (s - r) * ((a - b) * i2 * ix) = (s - r) * o := by grind
  have e2 : (a - b) * i2 * ix = o := mul_left_cancel hp hrs e1
  rw [e2] at h1
  have e3 : (a + b) * i2 = e := by grind
  have e4 : (a - b) * i2 = x * o := by
    have : x * ((a - b) * i2 * ix) = (a - b) * i2 * (x * ix) := by grind
    rw [hix, e2] at this
    grind
  have e5 : a = (a + b) * i2 + (a - b) * i2 := by
    have : (a + b) * i2 + (a - b) * i2 = a * ((1 + 1) * i2) := by grind
    rw [this, h2m]; grind
  have e6 : b = (a + b) * i2 - (a - b) * i2 := by
    have : (a + b) * i2 - (a - b) * i2 = b * ((1 + 1) * i2) := by grind
    rw [this, h2m]; grind
  rw [e3, e4] at e5 e6
  exact ⟨e5, e6⟩

omit [NeZero p] in
theorem diffN_split (m : Nat) (f g : Nat → Fin p) : ∀ k, diffN (m + k) f g = diffN m f g + diffN k (fun i => f (i + m)) (fun i => g (i + m))
  | 0 => rfl
  | k + 1 => by rw [← Nat.add_assoc, diffN_succ, diffN_split m f g k, diffN_succ, Nat.add_assoc, show m + k = k + m from by omega]
omit [NeZero p] in
theorem diffN_bound {m : Nat} {f g f' g' u v u' v' : Nat → Fin p} (h : ∀ i, i < m → u i = v i → u' i = v' i → f i = g i ∧ f' i = g' i) : diffN m f g + diffN m f' g' ≤ 2 * (diffN m u v + diffN m u' v') := by
  induction m with
  | zero => exact Nat.le_refl _
  | succ m ih =>
    have ih := ih (fun i hi => h i (by omega))
    have h1 := h m (by omega)
    rw [diffN_succ, diffN_succ, diffN_succ, diffN_succ]
    by_cases hu : u m = v m
    · by_cases hv : u' m = v' m
      · obtain ⟨h2, h3⟩ := h1 hu hv
        rw [if_pos hu, if_pos hv, if_pos h2, if_pos h3]; omega
      · rw [if_pos hu, if_neg hv]; split <;> split <;> omega
    · rw [if_neg hu]; split <;> split <;> split <;> omega

/-- WHAT IS FAR STAYS FAR -/
theorem near_law (hp : IsPrime p) (h3 : 3 ≤ p) {s r : Fin p} {m k : Nat} (hm : 0 < m) (hs : s ≠ 0) (hr : Ord r (2 * m)) {c d : Fin p} (hcd : d - c ≠ 0) (word a b e o : List (Fin p))
    (he : ∀ i, co e i = co a i - co o i * c) (ho : ∀ i, co o i = (co b i - co a i) * Zp.inv (d - c)) (ha : ∀ i, k ≤ i → co a i = 0) (hb : ∀ i, k ≤ i → co b i = 0) :
    diffN (2 * m) (co word) (co (valL s r (2 * m) (weave e o k))) ≤ 2 * (diffN m (co (foldL s r m word c)) (co (valL (s * s) (r * r) m a)) + diffN m (co (foldL s r m word d)) (co (valL (s * s) (r * r) m b))) := by
  have hr0 := hr.ne_zero hp (by omega)
  have ho0 : ∀ i, k ≤ i → co o i = 0 := fun i hi => by rw [ho, ha i hi, hb i hi]; grind
  have he0 : ∀ i, k ≤ i → co e i = 0 := fun i hi => by rw [he, ha i hi, ho0 i hi]; grind
  have hpa : ∀ y, ev a y = ev e y + c * ev o y := fun y => by
    rw [ev_congr (m := addL e (smulL c o)) (fun i => by rw [co_addL, co_smulL, he]; grind) y, ev_addL, ev_smulL]
  have hid := mul_inv hp hcd
  have hpb : ∀ y, ev b y = ev e y + d * ev o y := fun y => by
    rw [ev_congr (m := addL e (smulL d o)) (fun i => by
      rw [co_addL, co_smulL, he]
      have : (d - c) * co o i = co b i - co a i := by
        rw [ho]
        have : (d - c) * ((co b i - co a i) * Zp.inv (d - c)) = (co b i - co a i) * ((d - c) * Zp.inv (d - c)) := by grind
        rw [this, hid]; grind
      grind) y, ev_addL, ev_smulL]
  rw [show 2 * m = m + m from by omega, diffN_split]
  refine diffN_bound fun i hi h1 h2 => ?_
  rw [foldL, co_tab, if_pos hi, valL, co_tab, if_pos hi] at h1 h2
  have hx : s * pw r i ≠ 0 := pt_ne hp hs hr0 i
  have e2 : s * s * pw (r * r) i = (s * pw r i) * (s * pw r i) := by rw [mul_pw]; grind
  have e1 : s * pw r (i + m) = - (s * pw r i) := by rw [pw_add, ord_half hp hm hr]; grind
  rw [e2, hpa] at h1
  rw [e2, hpb] at h2
  obtain ⟨g1, g2⟩ := unfold_pair hp h3 hx hcd h1 h2
  have hw1 : ∀ y, ev (evens (weave e o k)) y = ev e y := fun y => ev_congr (co_evens_weave he0) y
  have hw2 : ∀ y, ev (odds (weave e o k)) y = ev o y := fun y => ev_congr (co_odds_weave ho0) y
  constructor
  · rw [valL, co_tab, if_pos (by omega), ev_halves, hw1, hw2]; exact g1
  · rw [valL, co_tab, if_pos (by omega), e1, ev_halves, hw1, hw2, g2]
    generalize s * pw r i = x
    have : -x * -x = x * x := by grind
    rw [this]; grind
theorem co_mulL_one (a : List (Fin p)) (c : Fin p) (i : Nat) : co (mulL a [c]) i = co a i * c := by
  induction a generalizing i with
  | nil => rw [mulL, co_nil]; grind
  | cons x a ih =>
    rw [co_mulL_cons]
    cases i with
    | zero => rw [if_pos rfl, co_cons_zero, co_cons_zero]; grind
    | succ i =>
      rw [if_neg (by omega), Nat.add_sub_cancel, ih, co_cons_succ, co_cons_succ, co_nil]; grind
end fn
end Zp
