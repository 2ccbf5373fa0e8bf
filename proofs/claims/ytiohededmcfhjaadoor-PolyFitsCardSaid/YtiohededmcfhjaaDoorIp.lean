/- Plain facts on domains: any values are those of one polynomial of low degree. No program is in sight. -/
import Derived.Test.YtiohededmcfhjaaDoorCd
set_option linter.unusedVariables false
namespace Zp
section ip
variable {p : Nat} [NeZero p]

theorem sumT_shift (n : Nat) (f : Nat → Fin p) : sumT (n + 1) f = f 0 + sumT n (fun i => f (i + 1)) := by
  induction n with
  | zero => simp only [sumT]; grind
  | succ n ih => rw [sumT_succ, ih, sumT_succ]; grind
theorem ev_sumT (y : Fin p) : ∀ l : List (Fin p), ev l y = sumT l.length (fun m => co l m * pw y m)
  | [] => rfl
  | c :: l => by
    rw [ev, ev_sumT y l, List.length_cons, sumT_shift, co_cons_zero, pw_zero, ← sumT_smul]
    have e : ∀ i, i < l.length → y * (co l i * pw y i) = co (c :: l) (i + 1) * pw y (i + 1) := fun i _ => by rw [co_cons_succ, pw_succ]; grind
    rw [sumT_congr e]
    grind
theorem sumT_comm (m n : Nat) (f : Nat → Nat → Fin p) : sumT m (fun i => sumT n (fun j => f i j)) = sumT n (fun j => sumT m (fun i => f i j)) := by
  induction m with
  | zero => exact (sumT_zero n).symm
  | succ m ih =>
    rw [sumT_succ, ih, ← sumT_add]
    rfl
theorem sumT_single {n : Nat} {f : Nat → Fin p} {j : Nat} (hj : j < n) (h : ∀ i, i < n → i ≠ j → f i = 0) : sumT n f = f j := by
  induction n with
  | zero => omega
  | succ n ih =>
    rw [sumT_succ]
    by_cases he : j = n
    · subst he
      rw [sumT_congr (g := fun _ => 0) (fun i hi => h i (by omega) (by omega)), sumT_zero]; grind
    · rw [ih (by omega) (fun i hi hne => h i (by omega) hne), h n (by omega) (fun e => he e.symm)]; grind

theorem inv_mul' (hp : IsPrime p) {x : Fin p} (hx : x ≠ 0) : Zp.inv x * x = 1 := by
  have := mul_inv hp hx
  grind
theorem pw_inv_pw (hp : IsPrime p) {x : Fin p} (hx : x ≠ 0) (n : Nat) : pw (Zp.inv x) n * pw x n = 1 := by rw [← mul_pw, inv_mul' hp hx, one_pw]
/-- an element of the order n: the same of what makes 1 of it -/
theorem ord_inv (hp : IsPrime p) {r : Fin p} {n : Nat} (hr : Ord r n) (hn : 0 < n) : Ord (Zp.inv r) n := by
  have h0 := hr.ne_zero hp hn
  intro k
  rw [← hr k]
  have h := pw_inv_pw hp h0 k
  constructor
  · intro h1; rw [h1] at h; grind
  · intro h1; rw [h1] at h; grind

/-- the polynomial of n places whose values these are -/
def coefL (s r : Fin p) (n : Nat) (l : List (Fin p)) : List (Fin p) := tab n (fun i => ev l (pw (Zp.inv r) i) * (Zp.inv (el p (n : Int)) * pw (Zp.inv s) i))
theorem coefL_length (s r : Fin p) (n : Nat) (l : List (Fin p)) : (coefL s r n l).length = n := tab_length _ _

theorem el_size_ne (hp : IsPrime p) {n : Nat} (hn : 0 < n) (hd : n ∣ p - 1) : el p (n : Int) ≠ 0 := fun h => by
  have h1 := el_eq_zero.1 h
  have h2 := Nat.le_of_dvd (by have := hp.1; omega) hd
  rw [Int.emod_eq_of_lt (by omega) (by have := hp.1; omega)] at h1
  omega
theorem val_coef (hp : IsPrime p) {s r : Fin p} {n : Nat} (hn : 0 < n) (hd : n ∣ p - 1) (hr : Ord r n) (hs : s ≠ 0) {l : List (Fin p)} (hl : l.length = n) {j : Nat} (hj : j < n) : ev (coefL s r n l) (s * pw r j) = co l j := by
  have hr0 := hr.ne_zero hp hn
  have hnn := el_size_ne hp hn hd
  have e1 : ∀ i, i < n → co (coefL s r n l) i * pw (s * pw r j) i = Zp.inv (el p (n : Int)) * sumT n (fun m => co l m * pw (pw r j * pw (Zp.inv r) m) i) := by
    intro i hi
    rw [coefL, co_tab, if_pos hi, ev_sumT _ l, hl, mul_pw s]
    have e2 : ∀ m, m < n → co l m * pw (pw r j * pw (Zp.inv r) m) i = pw (pw r j) i * (co l m * pw (pw (Zp.inv r) i) m) := fun m _ => by
      rw [mul_pw, ← pw_mul (Zp.inv r) m i, ← pw_mul (Zp.inv r) i m, Nat.mul_comm m i]; grind
    rw [sumT_congr e2, sumT_smul]
    have h3 := pw_inv_pw hp hs i
    generalize sumT n (fun m => co l m * pw (pw (Zp.inv r) i) m) = S
    generalize pw (Zp.inv s) i = a at *
    generalize pw s i = b at *
    have e4 : S * (Zp.inv (el p (n : Int)) * a) * (b * pw (pw r j) i) = Zp.inv (el p (n : Int)) * (pw (pw r j) i * S) * (a * b) := by grind
    rw [e4, h3]; grind
  rw [ev_sumT _ (coefL s r n l), coefL_length, sumT_congr e1, sumT_smul, sumT_comm]
  have e5 : ∀ m, m < n → sumT n (fun i => co l m * pw (pw r j * pw (Zp.inv r) m) i) = if m = j then co l j * el p (n : Int) else 0 := by
    intro m hm
    rw [sumT_smul]
    by_cases he : m = j
    · subst he
      rw [if_pos rfl]
      have h1 : pw r m * pw (Zp.inv r) m = 1 := by have := pw_inv_pw hp hr0 m; grind
      rw [h1, sumT_congr (g := fun _ => 1) (fun i _ => one_pw i), sumT_one]
    · rw [if_neg he, geom_zero hp (x := pw r j * pw (Zp.inv r) m)]
      · grind
      · intro h1
        have h2 := pw_inv_pw hp hr0 m
        have h3 : pw r j = pw r m := by
          have h4 : pw r j * (pw (Zp.inv r) m * pw r m) = 1 * pw r m := by rw [← h1]; grind
          rw [h2] at h4
          grind
        exact he (ord_inj hp hr hn hj hm h3).symm
      · rw [mul_pw, ← pw_mul, ← pw_mul, Nat.mul_comm j n, Nat.mul_comm m n, pw_mul, pw_mul, hr.one, (ord_inv hp hr hn).one, one_pw, one_pw]; grind
  rw [sumT_congr e5, sumT_single hj (fun i _ hne => if_neg hne), if_pos rfl]
  have := inv_mul' hp hnn
  generalize Zp.inv (el p (n : Int)) = a at *
  have e6 : a * (co l j * el p (n : Int)) = co l j * (a * el p (n : Int)) := by grind
  rw [e6, this]; grind
/-- ANY VALUES are those of the polynomial that is told -/
theorem valL_coefL (hp : IsPrime p) {s r : Fin p} {n : Nat} (hn : 0 < n) (hd : n ∣ p - 1) (hr : Ord r n) (hs : s ≠ 0) {l : List (Fin p)} (hl : l.length = n) : valL s r n (coefL s r n l) = l := by
  refine ext_co (by rw [valL_length, hl]) fun j hj => ?_
  rw [valL_length] at hj
  rw [valL, co_tab, if_pos hj]
  exact val_coef hp hn hd hr hs hl hj
/-- .. of one alone -/
theorem vals_unique (hp : IsPrime p) {s r : Fin p} {n : Nat} (hn : 0 < n) (hr : Ord r n) (hs : s ≠ 0) {a b : List (Fin p)} (ha : (trimL a).length ≤ n) (hb : (trimL b).length ≤ n) (h : valL s r n a = valL s r n b) : trimL a = trimL b := by
  rcases Nat.eq_zero_or_pos (trimL (subL a b)).length with h0 | h0
  · refine trimL_congr fun i => ?_
    have := co_trim (subL a b) i
    rw [List.length_eq_zero_iff.1 h0, co_nil, co_subL] at this
    grind
  · exfalso
    have h1 := agree_lt hp hr hn hs a b h0
    have h2 := agree_diff n (co (valL s r n a)) (co (valL s r n b))
    have h3 : diffN n (co (valL s r n a)) (co (valL s r n b)) = 0 := diffN_zero (fun i _ => by rw [h])
    have h4 := subL_length ha hb
    omega
/-- the polynomial that is told of a codeword -/
theorem coefL_valL (hp : IsPrime p) {s r : Fin p} {n : Nat} (hn : 0 < n) (hd : n ∣ p - 1) (hr : Ord r n) (hs : s ≠ 0) {a : List (Fin p)} (ha : (trimL a).length ≤ n) : trimL (coefL s r n (valL s r n a)) = trimL a :=
  vals_unique hp hn hr hs (by have := trimL_length_le (coefL s r n (valL s r n a)); rw [coefL_length] at this; exact this) ha (valL_coefL hp hn hd hr hs (valL_length _ _ _ _))
end ip
end Zp
