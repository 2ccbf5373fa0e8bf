/- Plain facts on elements: which element of 'Fin p' an integer is taken for, its number, how orders are found by striking out prime factors. No program is in sight. -/
import Derived.Test.YtiohededmcfhjaaDoorNum
set_option linter.unusedVariables false
namespace Zp

section el
variable {p : Nat} [NeZero p]

theorem ppos : 0 < p := Nat.pos_of_ne_zero (NeZero.ne p)

/-- the element that a number is taken for -/
def el (p : Nat) [NeZero p] (n : Int) : Fin p := ⟨(n % (p : Int)).toNat, by
  have h := ppos (p := p)
  have h1 := Int.emod_nonneg n (b := (p : Int)) (by omega)
  have h2 := Int.emod_lt_of_pos n (b := (p : Int)) (by omega)
  omega⟩
/-- an element's number -/
def fv (x : Fin p) : Int := (x.val : Int)

omit [NeZero p] in
theorem fv_nonneg (x : Fin p) : 0 ≤ fv x := Int.natCast_nonneg _
omit [NeZero p] in
theorem fv_lt (x : Fin p) : fv x < (p : Int) := by unfold fv; have := x.isLt; omega
omit [NeZero p] in
theorem fv_inj {x y : Fin p} (h : fv x = fv y) : x = y := Fin.ext (by unfold fv at h; omega)
omit [NeZero p] in
theorem fv_eq_iff {x y : Fin p} : fv x = fv y ↔ x = y := ⟨fv_inj, fun h => h ▸ rfl⟩
theorem fv_el (n : Int) : fv (el p n) = n % (p : Int) := by
  have h1 := Int.emod_nonneg n (b := (p : Int)) (by have := ppos (p := p); omega)
  show (((n % (p : Int)).toNat : Nat) : Int) = _
  omega
theorem el_of_fv {n : Int} {x : Fin p} (h : n % (p : Int) = fv x) : el p n = x := fv_inj (by rw [fv_el, h])
omit [NeZero p] in
theorem fv_emod (x : Fin p) : fv x % (p : Int) = fv x := Int.emod_eq_of_lt (fv_nonneg x) (fv_lt x)
theorem el_fv (x : Fin p) : el p (fv x) = x := el_of_fv (fv_emod x)
theorem el_eq_iff {a b : Int} : el p a = el p b ↔ a % (p : Int) = b % (p : Int) := by rw [← fv_eq_iff, fv_el, fv_el]
omit [NeZero p] in
theorem fv_add (x y : Fin p) : fv (x + y) = (fv x + fv y) % (p : Int) := by
  unfold fv; rw [Fin.val_add, Int.natCast_emod, Int.natCast_add]
omit [NeZero p] in
theorem fv_mul (x y : Fin p) : fv (x * y) = (fv x * fv y) % (p : Int) := by
  unfold fv; rw [Fin.val_mul, Int.natCast_emod, Int.natCast_mul]
theorem fv_zero : fv (0 : Fin p) = 0 := rfl
theorem fv_eq_zero {x : Fin p} : fv x = 0 ↔ x = 0 := by rw [← fv_zero (p := p), fv_eq_iff]
theorem fv_one (h : 2 ≤ p) : fv (1 : Fin p) = 1 := by
  show ((1 % p : Nat) : Int) = 1
  rw [Nat.mod_eq_of_lt (by omega)]; rfl
theorem fv_eq_one (h : 2 ≤ p) {x : Fin p} : fv x = 1 ↔ x = 1 := by rw [← fv_one h, fv_eq_iff]
theorem el_emod (n : Int) : el p (n % (p : Int)) = el p n := by rw [el_eq_iff, Int.emod_emod_of_dvd _ (Int.dvd_refl _)]
theorem el_add (a b : Int) : el p (a + b) = el p a + el p b := fv_inj (by rw [fv_add, fv_el, fv_el, fv_el, ← Int.add_emod])
theorem el_mul (a b : Int) : el p (a * b) = el p a * el p b := fv_inj (by rw [fv_mul, fv_el, fv_el, fv_el, ← Int.mul_emod])
theorem el_zero : el p 0 = 0 := el_of_fv (by rw [fv_zero]; exact Int.zero_emod _)
theorem el_one : el p 1 = 1 := by
  apply fv_inj
  rw [fv_el]
  show (1 : Int) % (p : Int) = ((1 % p : Nat) : Int)
  rw [Int.natCast_emod]; rfl
theorem el_neg (a : Int) : el p (-a) = - el p a := by
  have h : el p (-a + a) = el p (-a) + el p a := el_add _ _
  rw [Int.add_left_neg, el_zero] at h
  grind
theorem el_sub (a b : Int) : el p (a - b) = el p a - el p b := by rw [Int.sub_eq_add_neg, el_add, el_neg]; grind
theorem el_eq_zero {a : Int} : el p a = 0 ↔ a % (p : Int) = 0 := by rw [← fv_eq_zero, fv_el]
theorem fv_sub (x y : Fin p) : fv (x - y) = (fv x - fv y) % (p : Int) := by rw [← fv_el, el_sub, el_fv, el_fv]
theorem el_p : el p (p : Int) = 0 := el_eq_zero.2 (Int.emod_self)
theorem el_natCast_of_lt {n : Nat} (h : n < p) : fv (el p (n : Int)) = n := by rw [fv_el]; exact Int.emod_eq_of_lt (by omega) (by omega)
theorem el_ofInt {n : Int} (h0 : 0 ≤ n) (h : n < p) : fv (el p n) = n := by rw [fv_el]; exact Int.emod_eq_of_lt h0 h

theorem map_el_fv (l : List (Fin p)) : (l.map fv).map (el p) = l := by
  rw [List.map_map]
  exact (List.map_congr_left (fun x _ => el_fv x)).trans (List.map_id _)
end el

/-! orders by striking out prime factors -/
section ord
variable {p : Nat} [NeZero p]

theorem prime_dvd_of_ne {d n : Nat} (hn : n ≠ 0) (h : d ∣ n) (hne : d ≠ n) : ∃ q, IsPrime q ∧ q ∣ n ∧ d ∣ n / q := by
  obtain ⟨m, rfl⟩ := h
  have hd : d ≠ 0 := by rintro rfl; simp at hn
  have hm : m ≠ 0 := by rintro rfl; simp at hn
  have hm1 : m ≠ 1 := by rintro rfl; simp at hne
  obtain ⟨q, hq, c, rfl⟩ := exists_prime_dvd m (by omega)
  refine ⟨q, hq, ⟨d * c, by rw [Nat.mul_left_comm]⟩, ⟨c, ?_⟩⟩
  rw [Nat.mul_left_comm, Nat.mul_div_cancel_left _ hq.pos]

/-- when no prime factor can be struck out any more, that is the order -/
theorem ord_of_primes {x : Fin p} {n : Nat} (hn : n ≠ 0) (h : pw x n = 1) (hp : IsPrime p) (hq : ∀ q, IsPrime q → q ∣ n → pw x (n / q) ≠ 1) : Ord x n := by
  have hx : x ≠ 0 := by
    rintro rfl
    rw [zero_pw n hn] at h
    exact one_ne_zero hp h.symm
  obtain ⟨d, hd, ho⟩ := exists_ord hp hx
  have hdn := (ho n).1 h
  by_cases he : d = n
  · exact he ▸ ho
  · obtain ⟨q, hqp, hqn, hdq⟩ := prime_dvd_of_ne hn hdn he
    exact absurd ((ho _).2 hdq) (hq q hqp hqn)

/-- what can't be struck out of a number can't be struck out of its divisor -/
theorem strike_mono {x : Fin p} {n m q : Nat} (hq : 0 < q) (hmn : m ∣ n) (h : ¬ (q ∣ n ∧ pw x (n / q) = 1)) : ¬ (q ∣ m ∧ pw x (m / q) = 1) := by
  rintro ⟨⟨c, rfl⟩, h2⟩
  obtain ⟨k, rfl⟩ := hmn
  rw [Nat.mul_div_cancel_left _ hq] at h2
  refine h ⟨⟨c * k, by rw [Nat.mul_assoc]⟩, ?_⟩
  rw [Nat.mul_assoc, Nat.mul_div_cancel_left _ hq, pw_mul, h2, one_pw]

/-- a list that holds the primes that divide p - 1 -/
structure Facs (p : Nat) (fs : List Nat) : Prop where
  two : ∀ q ∈ fs, 2 ≤ q
  le : ∀ q ∈ fs, q ≤ p - 1
  all : ∀ q, IsPrime q → q ∣ p - 1 → q ∈ fs

/-- what Order's loop knows behind the first k factors -/
structure Struck (x : Fin p) (fs : List Nat) (k n : Nat) : Prop where
  ne : n ≠ 0
  dvd : n ∣ p - 1
  one : pw x n = 1
  done : ∀ q ∈ fs.take k, ¬ (q ∣ n ∧ pw x (n / q) = 1)

theorem Struck.start (hp : IsPrime p) {x : Fin p} (hx : x ≠ 0) (fs : List Nat) : Struck x fs 0 (p - 1) :=
  ⟨by have := hp.1; omega, Nat.dvd_refl _, fermat hp hx, by simp⟩
theorem Struck.strike {x : Fin p} {fs : List Nat} {k n q : Nat} (h : Struck x fs k n) (hf : ∀ q ∈ fs, 2 ≤ q) (hq : 2 ≤ q) (hd : q ∣ n) (h1 : pw x (n / q) = 1) : Struck x fs k (n / q) := by
  have hdv : n / q ∣ n := Nat.div_dvd_of_dvd hd
  refine ⟨?_, Nat.dvd_trans hdv h.dvd, h1, fun r hr => strike_mono (by have := hf r (List.mem_of_mem_take hr); omega) hdv (h.done r hr)⟩
  have := Nat.le_of_dvd (Nat.pos_of_ne_zero h.ne) hd
  have := Nat.div_pos this (by omega)
  omega
theorem Struck.next {x : Fin p} {fs : List Nat} {k n : Nat} (h : Struck x fs k n) (hk : k < fs.length) (hq : ¬ (fs[k] ∣ n ∧ pw x (n / fs[k]) = 1)) : Struck x fs (k + 1) n := by
  refine ⟨h.ne, h.dvd, h.one, fun r hr => ?_⟩
  rw [List.take_succ_eq_append_getElem hk, List.mem_append] at hr
  rcases hr with hr | hr
  · exact h.done r hr
  · rw [List.mem_singleton] at hr
    subst hr
    exact hq
theorem Struck.ord (hp : IsPrime p) {x : Fin p} {fs : List Nat} {n : Nat} (hf : Facs p fs) (h : Struck x fs fs.length n) : Ord x n :=
  ord_of_primes h.ne h.one hp fun q hq hd h1 => h.done q (by rw [List.take_length]; exact hf.all q hq (Nat.dvd_trans hd h.dvd)) ⟨hd, h1⟩

/-- the order of an element, 0 for 0 -/
def IsOrder (x : Fin p) (n : Nat) : Prop := (x = 0 ∧ n = 0) ∨ (x ≠ 0 ∧ Ord x n)

theorem IsOrder.unique (hp : IsPrime p) {x : Fin p} {m n : Nat} (h : IsOrder x m) (h' : IsOrder x n) : m = n := by
  rcases h with ⟨hx, rfl⟩ | ⟨hx, h⟩
  · rcases h' with ⟨_, rfl⟩ | ⟨hx', _⟩
    · rfl
    · exact absurd hx hx'
  · rcases h' with ⟨hx', rfl⟩ | ⟨_, h'⟩
    · exact absurd hx' hx
    · exact h.unique h'
/-- after how many factors an element is 1 (0: 0) -/
noncomputable def ordN (x : Fin p) : Nat := by
  classical
  exact if h : ∃ n, IsOrder x n then Classical.choose h else 0
theorem ordN_eq (hp : IsPrime p) {x : Fin p} {n : Nat} (h : IsOrder x n) : ordN x = n := by
  have hex : ∃ n, IsOrder x n := ⟨n, h⟩
  unfold ordN
  rw [dif_pos hex]
  exact (Classical.choose_spec hex).unique hp h
theorem ordN_is (hp : IsPrime p) (x : Fin p) : IsOrder x (ordN x) := by
  by_cases hx : x = 0
  · have h : IsOrder x 0 := .inl ⟨hx, rfl⟩
    rw [ordN_eq hp h]; exact h
  · obtain ⟨d, _, h⟩ := exists_ord hp hx
    have h : IsOrder x d := .inr ⟨hx, h⟩
    rw [ordN_eq hp h]; exact h
theorem ordN_zero (hp : IsPrime p) : ordN (0 : Fin p) = 0 := ordN_eq hp (.inl ⟨rfl, rfl⟩)
theorem ordN_ord (hp : IsPrime p) {x : Fin p} (hx : x ≠ 0) : Ord x (ordN x) := by
  rcases ordN_is hp x with h | h
  · exact absurd h.1 hx
  · exact h.2
theorem ordN_of_ord (hp : IsPrime p) {x : Fin p} (hx : x ≠ 0) {n : Nat} (h : Ord x n) : ordN x = n := ordN_eq hp (.inr ⟨hx, h⟩)

/-- the least generator -/
def IsGen (p : Nat) [NeZero p] (g : Nat) : Prop := 1 ≤ g ∧ g < p ∧ Ord (el p (g : Int)) (p - 1) ∧ ∀ k : Nat, 1 ≤ k → k < g → ¬ Ord (el p (k : Int)) (p - 1)
theorem gen_exists (hp : IsPrime p) : ∃ r : Nat, 1 ≤ r ∧ r < p ∧ Ord (el p (r : Int)) (p - 1) := by
  obtain ⟨x, hx⟩ := ord_exists hp (p - 1) (Nat.dvd_refl _)
  have h2 := hp.1
  have hx0 : x ≠ 0 := hx.ne_zero hp (by omega)
  refine ⟨x.val, ?_, x.isLt, ?_⟩
  · rcases Nat.eq_zero_or_pos x.val with h | h
    · exact absurd (Fin.ext (by rw [val_zero']; exact h)) hx0
    · exact h
  · have : el p (x.val : Int) = x := el_fv x
    rw [this]; exact hx
theorem IsGen.unique {g k : Nat} (h : IsGen p g) (h' : IsGen p k) : g = k := by
  rcases Nat.lt_trichotomy g k with hlt | he | hlt
  · exact absurd h.2.2.1 (h'.2.2.2 g h.1 hlt)
  · exact he
  · exact absurd h'.2.2.1 (h.2.2.2 k h'.1 hlt)
theorem isGen_exists (hp : IsPrime p) : ∃ g, IsGen p g := by
  obtain ⟨r, h1, h2, h3⟩ := gen_exists hp
  have : ∀ n, (∃ r, 1 ≤ r ∧ r ≤ n ∧ r < p ∧ Ord (el p (r : Int)) (p - 1)) → ∃ g, IsGen p g := by
    intro n
    induction n with
    | zero => rintro ⟨r, h1, h2, _⟩; omega
    | succ n ih =>
      intro hex
      by_cases hn : ∃ r, 1 ≤ r ∧ r ≤ n ∧ r < p ∧ Ord (el p (r : Int)) (p - 1)
      · exact ih hn
      · obtain ⟨r, h1, h2, h3, h4⟩ := hex
        exact ⟨r, h1, h3, h4, fun k hk hkr hko => hn ⟨k, hk, by omega, by omega, hko⟩⟩
  exact this r ⟨r, h1, Nat.le_refl _, h2, h3⟩
/-- the least element that makes all others -/
noncomputable def genN (p : Nat) [NeZero p] : Nat := by
  classical
  exact if h : ∃ g, IsGen p g then Classical.choose h else 0
theorem genN_eq {g : Nat} (h : IsGen p g) : genN p = g := by
  have hex : ∃ g, IsGen p g := ⟨g, h⟩
  unfold genN
  rw [dif_pos hex]
  exact (Classical.choose_spec hex).unique h
theorem genN_is (hp : IsPrime p) : IsGen p (genN p) := by
  obtain ⟨g, h⟩ := isGen_exists hp
  rw [genN_eq h]; exact h
end ord

/-! trial division -/
/-- no number from 2 up to below d divides n -/
def NoDiv (n d : Nat) : Prop := ∀ e, 2 ≤ e → e < d → ¬ e ∣ n
theorem noDiv_two (n : Nat) : NoDiv n 2 := fun e h1 h2 => by omega
theorem NoDiv.succ {n d : Nat} (h : NoDiv n d) (hd : ¬ d ∣ n) : NoDiv n (d + 1) := fun e h1 h2 => by
  by_cases he : e = d
  · exact he ▸ hd
  · exact h e h1 (by omega)
theorem NoDiv.prime {n d : Nat} (h : NoDiv n d) (hn : 2 ≤ n) (hd : n < d * d) : IsPrime n := by
  refine ⟨hn, fun c hc => ?_⟩
  obtain ⟨m, rfl⟩ := hc
  have hc0 : c ≠ 0 := by rintro rfl; simp at hn
  have hm0 : m ≠ 0 := by rintro rfl; simp at hn
  by_cases hc1 : c = 1
  · exact .inl hc1
  · by_cases hm1 : m = 1
    · right; rw [hm1, Nat.mul_one]
    · exfalso
      have h1 : d ≤ c := by
        rcases Nat.lt_or_ge c d with hlt | hge
        · exact absurd ⟨m, rfl⟩ (h c (by omega) hlt)
        · exact hge
      have h2 : d ≤ m := by
        rcases Nat.lt_or_ge m d with hlt | hge
        · exact absurd ⟨c, Nat.mul_comm _ _⟩ (h m (by omega) hlt)
        · exact hge
      have := Nat.mul_le_mul h1 h2
      omega
theorem not_prime_of_dvd {n d : Nat} (hd : 2 ≤ d) (h : d * d ≤ n) (hdv : d ∣ n) : ¬ IsPrime n := fun hp => by
  have h1 : 2 * d ≤ d * d := Nat.mul_le_mul_right d hd
  rcases hp.2 d hdv with h' | h'
  · omega
  · omega

/-- what the loop that takes a number apart knows: N the number, n what is left, d the next one to be tried -/
structure Apart (N : Nat) (out : List Nat) (n d : Nat) : Prop where
  pos : 0 < n
  two : ∀ q ∈ out, 2 ≤ q
  le : ∀ q ∈ out, q ≤ N
  dvd : n ∣ N
  no : NoDiv n d
  all : ∀ q, IsPrime q → q ∣ N → q ∈ out ∨ q ∣ n
theorem Apart.start {N : Nat} (h : 0 < N) : Apart N [] N 2 := ⟨h, by simp, by simp, Nat.dvd_refl _, noDiv_two _, fun _ _ h => .inr h⟩
theorem Apart.skip {N : Nat} {out : List Nat} {n d : Nat} (h : Apart N out n d) (hd : ¬ d ∣ n) : Apart N out n (d + 1) := ⟨h.pos, h.two, h.le, h.dvd, h.no.succ hd, h.all⟩
/-- while d is being struck out -/
structure Striking (N : Nat) (out : List Nat) (n d : Nat) : Prop where
  pos : 0 < n
  two : ∀ q ∈ out, 2 ≤ q
  le : ∀ q ∈ out, q ≤ N
  dvd : n ∣ N
  no : NoDiv n d
  all : ∀ q, IsPrime q → q ∣ N → q ∈ out ++ [d] ∨ q ∣ n
  here : 2 ≤ d ∧ d ≤ N
theorem NoDiv.of_dvd {n m d : Nat} (h : NoDiv n d) (hm : m ∣ n) : NoDiv m d := fun e h1 h2 h3 => h e h1 h2 (Nat.dvd_trans h3 hm)
theorem Apart.hit {N : Nat} {out : List Nat} {n d : Nat} (h : Apart N out n d) (hd : d ∣ n) (h2 : 2 ≤ d) (hN : 0 < N) : Striking N out n d :=
  ⟨h.pos, h.two, h.le, h.dvd, h.no, fun q hq hqN => (h.all q hq hqN).imp (fun h => List.mem_append_left _ h) id, h2, Nat.le_of_dvd hN (Nat.dvd_trans hd h.dvd)⟩
theorem Striking.strike {N : Nat} {out : List Nat} {n d : Nat} (h : Striking N out n d) (hd : d ∣ n) : Striking N out (n / d) d := by
  have h2 := h.here.1
  have hdv : n / d ∣ n := Nat.div_dvd_of_dvd hd
  refine ⟨Nat.div_pos (Nat.le_of_dvd h.pos hd) (by omega), h.two, h.le, Nat.dvd_trans hdv h.dvd, h.no.of_dvd hdv, fun q hq hqN => ?_, h.here⟩
  rcases h.all q hq hqN with h' | h'
  · exact .inl h'
  · obtain ⟨c, rfl⟩ := hd
    rw [Nat.mul_div_cancel_left _ (by omega)]
    rcases hq.dvd_mul h' with h3 | h3
    · left
      rw [List.mem_append]
      right
      rw [List.mem_singleton]
      -- q divides d; q < d would have been struck out
      rcases Nat.lt_or_ge q d with hlt | hge
      · exact absurd (Nat.dvd_trans h3 (Nat.dvd_mul_right d c)) (h.no q hq.1 hlt)
      · exact Nat.le_antisymm (Nat.le_of_dvd (by omega) h3) hge
    · exact .inr h3
theorem Striking.done {N : Nat} {out : List Nat} {n d : Nat} (h : Striking N out n d) (hd : ¬ d ∣ n) : Apart N (out ++ [d]) n (d + 1) :=
  ⟨h.pos, fun q hq => by
    rcases List.mem_append.1 hq with h' | h'
    · exact h.two q h'
    · rw [List.mem_singleton.1 h']; exact h.here.1, fun q hq => by
    rcases List.mem_append.1 hq with h' | h'
    · exact h.le q h'
    · rw [List.mem_singleton.1 h']; exact h.here.2, h.dvd, h.no.succ hd, h.all⟩
theorem Apart.last {N : Nat} {out : List Nat} {n d : Nat} (h : Apart N out n d) (hN : 0 < N) (hd : n < d * d) (h1 : 1 < n) :
    (∀ q ∈ out ++ [n], 2 ≤ q) ∧ (∀ q ∈ out ++ [n], q ≤ N) ∧ ∀ q, IsPrime q → q ∣ N → q ∈ out ++ [n] := by
  have hnp : IsPrime n := h.no.prime h1 hd
  refine ⟨fun q hq => ?_, fun q hq => ?_, fun q hq hqN => ?_⟩
  · rcases List.mem_append.1 hq with h' | h'
    · exact h.two q h'
    · rw [List.mem_singleton.1 h']; exact h1
  · rcases List.mem_append.1 hq with h' | h'
    · exact h.le q h'
    · rw [List.mem_singleton.1 h']; exact Nat.le_of_dvd hN h.dvd
  · rcases h.all q hq hqN with h' | h'
    · exact List.mem_append_left _ h'
    · rcases hnp.2 q h' with h3 | h3
      · have := hq.1; omega
      · exact List.mem_append_right _ (by simp [h3])
theorem Apart.none {N : Nat} {out : List Nat} {n d : Nat} (h : Apart N out n d) (h1 : ¬ 1 < n) :
    (∀ q ∈ out, 2 ≤ q) ∧ (∀ q ∈ out, q ≤ N) ∧ ∀ q, IsPrime q → q ∣ N → q ∈ out := by
  refine ⟨h.two, h.le, fun q hq hqN => (h.all q hq hqN).resolve_right fun h' => ?_⟩
  have := Nat.le_of_dvd h.pos h'
  have := hq.1
  omega

/-! powers by squares -/
/-- what power's loop knows: a product of n factors of a is what 'out' is times n' factors of a' -/
theorem pow_step {p : Nat} [NeZero p] (a : Fin p) (n : Nat) : pw a n = (if n % 2 = 1 then a else 1) * pw (a * a) (n / 2) := by
  have e : n = n % 2 + 2 * (n / 2) := by omega
  have h : pw a (2 * (n / 2)) = pw (a * a) (n / 2) := by rw [pw_mul]; congr 1; simp only [pw]; grind
  rw [show pw a n = pw a (n % 2 + 2 * (n / 2)) from by rw [← e], pw_add, h]
  congr 1
  rcases Nat.mod_two_eq_zero_or_one n with h0 | h0
  · rw [h0]; rfl
  · rw [h0, pw_one]; rfl
end Zp
