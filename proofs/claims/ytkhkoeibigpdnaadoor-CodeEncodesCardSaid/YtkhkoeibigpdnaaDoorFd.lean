/- Plain facts on folding: what two elements at a place become; values of a polynomial become values of e + r o. No program is in sight. -/
import Derived.Test.YtkhkoeibigpdnaaDoorCd
set_option linter.unusedVariables false
namespace Zp
section fd
variable {p : Nat} [NeZero p]

theorem two_ne (h3 : 3 ≤ p) : el p 2 ≠ 0 := fun h => by
  have := el_eq_zero.1 h
  rw [Int.emod_eq_of_lt (by omega) (by omega)] at this
  omega
theorem el_two : el p 2 = 1 + 1 := by
  have : el p (1 + 1) = el p 1 + el p 1 := el_add 1 1
  rw [el_one] at this
  exact this
/-- what makes 1 of 2 -/
def half2 (p : Nat) [NeZero p] : Fin p := Zp.inv (el p 2)
theorem half2_mul (hp : IsPrime p) (h3 : 3 ≤ p) : (1 + 1) * half2 p = 1 := by
  have := mul_inv hp (two_ne h3)
  rw [← el_two]; exact this
/-- what two elements at the point x become -/
def foldE (a b r x : Fin p) : Fin p := (a + b) * half2 p + r * ((a - b) * half2 p * Zp.inv x)
theorem foldE_of (hp : IsPrime p) (h3 : 3 ≤ p) {x : Fin p} (hx : x ≠ 0) (e o r : Fin p) : foldE (e + x * o) (e - x * o) r x = e + r * o := by
  have h1 := half2_mul hp h3
  have h2 := mul_inv hp hx
  unfold foldE
  generalize half2 p = i2 at *
  generalize Zp.inv x = ix at *
  have e1 : (e + x * o + (e - x * o)) * i2 = e * ((1 + 1) * i2) := by grind
  have e2 : (e + x * o - (e - x * o)) * i2 * ix = o * (x * ix) * ((1 + 1) * i2) := by grind
  rw [e1, e2, h1, h2]
  grind
/-- a polynomial folded: e + r o -/
def foldP (r : Fin p) (a : List (Fin p)) : List (Fin p) := tab ((a.length + 1) / 2) (fun t => co a (2 * t) + r * co a (2 * t + 1))
theorem co_foldP (r : Fin p) (a : List (Fin p)) (t : Nat) : co (foldP r a) t = co (evens a) t + r * co (odds a) t := by
  rw [foldP, co_tab, co_evens, co_odds]
  split
  · rfl
  · rw [co_of_ge (l := a) (by omega), co_of_ge (l := a) (by omega)]; grind
theorem ev_foldP (r : Fin p) (a : List (Fin p)) (y : Fin p) : ev (foldP r a) y = ev (evens a) y + r * ev (odds a) y := by
  rw [ev_congr (m := addL (evens a) (smulL r (odds a))) (fun i => by rw [co_foldP, co_addL, co_smulL]) y, ev_addL, ev_smulL]

/-- a word of n = 2 h elements folded -/
def foldL (s r : Fin p) (h : Nat) (word : List (Fin p)) (c : Fin p) : List (Fin p) := tab h (fun i => foldE (co word i) (co word (i + h)) c (s * pw r i))
theorem foldL_length (s r : Fin p) (h : Nat) (word : List (Fin p)) (c : Fin p) : (foldL s r h word c).length = h := tab_length _ _
theorem pt_ne (hp : IsPrime p) {s r : Fin p} (hs : s ≠ 0) (hr : r ≠ 0) (i : Nat) : s * pw r i ≠ 0 := mul_ne_zero hp hs (pw_ne_zero hp hr i)
/-- values are folded to values over the squares -/
theorem fold_vals (hp : IsPrime p) (h3 : 3 ≤ p) {s r : Fin p} {h : Nat} (hh : 0 < h) (hs : s ≠ 0) (hr : Ord r (2 * h)) (a : List (Fin p)) (c : Fin p) :
    foldL s r h (valL s r (2 * h) a) c = valL (s * s) (r * r) h (foldP c a) := by
  have hr0 := hr.ne_zero hp (by omega)
  unfold foldL valL
  refine ext_co (by rw [tab_length, tab_length]) fun i hi => ?_
  rw [tab_length] at hi
  rw [co_tab, co_tab, co_tab, co_tab, if_pos hi, if_pos hi, if_pos (by omega), if_pos (by omega)]
  have hx : s * pw r i ≠ 0 := pt_ne hp hs hr0 i
  have e1 : s * pw r (i + h) = - (s * pw r i) := by rw [pw_add, ord_half hp hh hr]; grind
  have e2 : s * s * pw (r * r) i = (s * pw r i) * (s * pw r i) := by rw [mul_pw]; grind
  rw [e1, e2, ev_foldP, ev_halves (s * pw r i) a, ev_halves (-(s * pw r i)) a]
  generalize s * pw r i = x at *
  have e3 : -x * -x = x * x := by grind
  rw [e3]
  have e4 : ev (evens a) (x * x) + -x * ev (odds a) (x * x) = ev (evens a) (x * x) - x * ev (odds a) (x * x) := by grind
  rw [e4]
  exact foldE_of hp h3 hx _ _ _
/-- the root of half the order is the square -/
theorem rootI_half {h : Nat} (hh : 0 < h) (hd : 2 * h ∣ p - 1) (hp : 1 ≤ p) : rootI p ((h : Nat) : Int) = rootI p ((2 * h : Nat) : Int) * rootI p ((2 * h : Nat) : Int) := by
  have hd2 : h ∣ p - 1 := Nat.dvd_trans ⟨2, by omega⟩ hd
  rw [rootI_nat (by omega) hd hp, rootI_nat hh hd2 hp, ← pw_add]
  congr 1
  obtain ⟨c, hc⟩ := hd
  rw [hc, Nat.mul_div_cancel_left _ (by omega), show 2 * h * c = h * (c + c) from by rw [Nat.mul_add, Nat.mul_comm 2 h, Nat.mul_assoc, Nat.two_mul, Nat.mul_add], Nat.mul_div_cancel_left _ hh]
end fd
end Zp
