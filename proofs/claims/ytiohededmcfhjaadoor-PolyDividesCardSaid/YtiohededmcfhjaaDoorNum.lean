/- Plain number theory: numbers modulo a prime as 'Fin p': inverses, powers, Fermat, how many roots a polynomial has, an element whose order is p - 1. No program is in sight. -/
set_option linter.unusedVariables false
namespace Zp

def IsPrime (p : Nat) : Prop := 2 ≤ p ∧ ∀ d, d ∣ p → d = 1 ∨ d = p

theorem IsPrime.pos {p : Nat} (h : IsPrime p) : 0 < p := by have := h.1; omega
theorem IsPrime.ne {p : Nat} (h : IsPrime p) : NeZero p := ⟨by have := h.1; omega⟩

theorem IsPrime.coprime {p : Nat} (h : IsPrime p) {a : Nat} (ha : ¬ p ∣ a) : Nat.Coprime p a := by
  rcases h.2 (Nat.gcd p a) (Nat.gcd_dvd_left p a) with h1 | h1
  · exact h1
  · exact absurd (h1 ▸ Nat.gcd_dvd_right p a) ha

theorem IsPrime.dvd_mul {p : Nat} (h : IsPrime p) {a b : Nat} (hab : p ∣ a * b) : p ∣ a ∨ p ∣ b := by
  by_cases ha : p ∣ a
  · exact .inl ha
  · exact .inr ((h.coprime ha).dvd_of_dvd_mul_left hab)

/-- every number from 2 on has a prime divisor -/
theorem exists_prime_dvd : ∀ (n : Nat), 2 ≤ n → ∃ q, IsPrime q ∧ q ∣ n := by
  intro n
  induction n using Nat.strongRecOn with
  | _ n ih =>
    intro hn
    by_cases hp : IsPrime n
    · exact ⟨n, hp, Nat.dvd_refl n⟩
    · have : ∃ d, d ∣ n ∧ d ≠ 1 ∧ d ≠ n := by
        false_or_by_contra
        rename_i hno
        apply hp
        refine ⟨hn, fun d hd => ?_⟩
        by_cases h1 : d = 1
        · exact .inl h1
        · by_cases h2 : d = n
          · exact .inr h2
          · exact absurd ⟨d, hd, h1, h2⟩ hno
      obtain ⟨d, hd, h1, h2⟩ := this
      have hle := Nat.le_of_dvd (by omega) hd
      have h0 : d ≠ 0 := by rintro rfl; have := Nat.eq_zero_of_zero_dvd hd; omega
      obtain ⟨q, hq, hqd⟩ := ih d (by omega) (by omega)
      exact ⟨q, hq, Nat.dvd_trans hqd hd⟩

theorem isPrime_iff (p : Nat) : IsPrime p ↔ 2 ≤ p ∧ ∀ d, d < p → 2 ≤ d → p % d ≠ 0 := by
  constructor
  · rintro ⟨h1, h2⟩
    refine ⟨h1, fun d hd hd2 h => ?_⟩
    rcases h2 d (Nat.dvd_of_mod_eq_zero h) with h' | h' <;> omega
  · rintro ⟨h1, h2⟩
    refine ⟨h1, fun d hd => ?_⟩
    have hle := Nat.le_of_dvd (by omega) hd
    have h0 : d ≠ 0 := by rintro rfl; have := Nat.eq_zero_of_zero_dvd hd; omega
    by_cases h : d = 1
    · exact .inl h
    · by_cases h' : d = p
      · exact .inr h'
      · exact absurd (Nat.mod_eq_zero_of_dvd hd) (h2 d (by omega) (by omega))
instance (p : Nat) : Decidable (IsPrime p) := decidable_of_iff _ (isPrime_iff p).symm

section field
variable {p : Nat} [NeZero p]

def pw (a : Fin p) : Nat → Fin p
  | 0 => 1
  | n + 1 => pw a n * a

@[simp] theorem pw_zero (a : Fin p) : pw a 0 = 1 := rfl
theorem pw_succ (a : Fin p) (n : Nat) : pw a (n + 1) = pw a n * a := rfl
theorem pw_one (a : Fin p) : pw a 1 = a := by simp only [pw]; grind
theorem pw_add (a : Fin p) (m n : Nat) : pw a (m + n) = pw a m * pw a n := by
  induction n with
  | zero => rw [pw_zero, Nat.add_zero]; grind
  | succ n ih => rw [← Nat.add_assoc, pw_succ, pw_succ, ih]; grind
theorem pw_mul (a : Fin p) (m n : Nat) : pw a (m * n) = pw (pw a m) n := by
  induction n with
  | zero => simp
  | succ n ih => rw [Nat.mul_succ, pw_add, pw_succ, ih]
theorem mul_pw (a b : Fin p) (n : Nat) : pw (a * b) n = pw a n * pw b n := by
  induction n with
  | zero => simp only [pw_zero]; grind
  | succ n ih => rw [pw_succ, pw_succ, pw_succ, ih]; grind
theorem one_pw (n : Nat) : pw (1 : Fin p) n = 1 := by
  induction n with
  | zero => rfl
  | succ n ih => rw [pw_succ, ih]; grind
theorem zero_pw (n : Nat) (h : n ≠ 0) : pw (0 : Fin p) n = 0 := by
  cases n with
  | zero => exact absurd rfl h
  | succ n => rw [pw_succ]; grind

theorem val_zero' : ((0 : Fin p) : Nat) = 0 := rfl

theorem mul_eq_zero (hp : IsPrime p) {a b : Fin p} (h : a * b = 0) : a = 0 ∨ b = 0 := by
  have h1 : (a.val * b.val) % p = 0 := by
    have := congrArg Fin.val h
    rwa [Fin.val_mul, val_zero'] at this
  rcases hp.dvd_mul (Nat.dvd_of_mod_eq_zero h1) with h2 | h2
  · left; apply Fin.ext; rw [val_zero']; exact Nat.eq_zero_of_dvd_of_lt h2 a.isLt
  · right; apply Fin.ext; rw [val_zero']; exact Nat.eq_zero_of_dvd_of_lt h2 b.isLt

theorem mul_ne_zero (hp : IsPrime p) {a b : Fin p} (ha : a ≠ 0) (hb : b ≠ 0) : a * b ≠ 0 := fun h => (mul_eq_zero hp h).elim ha hb

theorem one_ne_zero (hp : IsPrime p) : (1 : Fin p) ≠ 0 := by
  intro h
  have := congrArg Fin.val h
  have h2 := hp.1
  rw [val_zero'] at this
  have : (1 : Nat) % p = 0 := this
  rw [Nat.mod_eq_of_lt (by omega)] at this
  omega

theorem pw_ne_zero (hp : IsPrime p) {a : Fin p} (ha : a ≠ 0) (n : Nat) : pw a n ≠ 0 := by
  induction n with
  | zero => exact one_ne_zero hp
  | succ n ih => exact mul_ne_zero hp ih ha

theorem mul_left_cancel (hp : IsPrime p) {a b c : Fin p} (ha : a ≠ 0) (h : a * b = a * c) : b = c := by
  have : a * (b - c) = 0 := by grind
  rcases mul_eq_zero hp this with h1 | h1
  · exact absurd h1 ha
  · grind

/-! Fermat -/
def nz (p : Nat) [NeZero p] : List (Fin p) := (List.finRange p).filter (fun x => decide (x ≠ 0))
theorem mem_nz {x : Fin p} : x ∈ nz p ↔ x ≠ 0 := by simp [nz, List.mem_finRange]
theorem nodup_nz : (nz p).Nodup := (List.nodup_finRange p).filter _
def prodL : List (Fin p) → Fin p
  | [] => 1
  | x :: l => x * prodL l
theorem prodL_perm {l m : List (Fin p)} (h : l.Perm m) : prodL l = prodL m := by
  induction h with
  | nil => rfl
  | cons x _ ih => simp [prodL, ih]
  | swap x y l => simp only [prodL]; grind
  | trans _ _ h1 h2 => exact h1.trans h2
theorem prodL_map (a : Fin p) (l : List (Fin p)) : prodL (l.map (a * ·)) = pw a l.length * prodL l := by
  induction l with
  | nil => simp [prodL]; grind
  | cons x l ih => simp only [List.map_cons, prodL, List.length_cons, ih, pw_succ]; grind
theorem prodL_ne (hp : IsPrime p) : ∀ (l : List (Fin p)), (∀ x ∈ l, x ≠ 0) → prodL l ≠ 0
  | [], _ => one_ne_zero hp
  | x :: l, h => mul_ne_zero hp (h x (by simp)) (prodL_ne hp l (fun y hy => h y (by simp [hy])))

theorem perm_of_nodup {α : Type} [DecidableEq α] {l m : List α} (hl : l.Nodup) (hm : m.Nodup) (hs : l ⊆ m) (hlen : m.length ≤ l.length) : l.Perm m := by
  have hback : m ⊆ l := by
    intro x hx
    false_or_by_contra
    rename_i hn
    have h1 : (x :: l).Nodup := List.nodup_cons.2 ⟨hn, hl⟩
    have h2 : (x :: l) ⊆ m := by
      intro y hy
      rcases List.mem_cons.1 hy with rfl | hy
      · exact hx
      · exact hs hy
    have := h1.length_le_of_subset h2
    simp at this
    omega
  rw [List.perm_iff_count]
  intro a
  rw [hl.count, hm.count]
  by_cases h : a ∈ l
  · simp [h, hs h]
  · have : a ∉ m := fun h' => h (hback h')
    simp [h, this]

theorem nodup_map {α β : Type} {f : α → β} (hf : ∀ a b, f a = f b → a = b) : ∀ {l : List α}, l.Nodup → (l.map f).Nodup
  | [], _ => List.nodup_nil
  | x :: l, h => by
    have h' := List.nodup_cons.1 h
    rw [List.map_cons]
    refine List.nodup_cons.2 ⟨fun hm => ?_, nodup_map hf h'.2⟩
    obtain ⟨y, hy, e⟩ := List.mem_map.1 hm
    exact h'.1 (hf _ _ e ▸ hy)

theorem nz_length : (nz p).length = p - 1 := by
  have h0 : (0 :: nz p).Perm (List.finRange p) := by
    refine perm_of_nodup (List.nodup_cons.2 ⟨by simp [mem_nz], nodup_nz⟩) (List.nodup_finRange p) (fun x _ => List.mem_finRange x) ?_
    refine (List.nodup_finRange p).length_le_of_subset (fun x _ => ?_)
    by_cases h : x = 0
    · simp [h]
    · exact List.mem_cons_of_mem _ (mem_nz.2 h)
  have := h0.length_eq
  simp at this
  omega

theorem fermat (hp : IsPrime p) {a : Fin p} (ha : a ≠ 0) : pw a (p - 1) = 1 := by
  have h1 : ((nz p).map (a * ·)).Perm (nz p) := by
    refine perm_of_nodup (nodup_map (fun x y h => mul_left_cancel hp ha h) nodup_nz) nodup_nz ?_ (by simp)
    intro x hx
    obtain ⟨y, hy, rfl⟩ := List.mem_map.1 hx
    exact mem_nz.2 (mul_ne_zero hp ha (mem_nz.1 hy))
  have h2 := prodL_perm h1
  rw [prodL_map, nz_length] at h2
  have h3 : prodL (nz p) ≠ 0 := prodL_ne hp _ (fun x hx => mem_nz.1 hx)
  refine mul_left_cancel hp h3 ?_
  grind

/-- what makes 1 of an element (of 0: 0, if p is not 2) -/
def inv (a : Fin p) : Fin p := pw a (p - 2)
theorem mul_inv (hp : IsPrime p) {a : Fin p} (ha : a ≠ 0) : a * inv a = 1 := by
  have h := fermat hp ha
  have h2 := hp.1
  have : p - 1 = (p - 2) + 1 := by omega
  rw [this, pw_succ] at h
  unfold inv
  grind
theorem inv_ne_zero (hp : IsPrime p) {a : Fin p} (ha : a ≠ 0) : inv a ≠ 0 := pw_ne_zero hp ha _
theorem inv_zero (h3 : 3 ≤ p) : inv (0 : Fin p) = 0 := zero_pw _ (by omega)
theorem inv_unique (hp : IsPrime p) {a b : Fin p} (h : a * b = 1) : b = inv a := by
  have ha : a ≠ 0 := by rintro rfl; have := one_ne_zero hp; grind
  have := mul_inv hp ha
  exact mul_left_cancel hp ha (by grind)

/-! how many roots: coefficients from the lowest on -/
def ev : List (Fin p) → Fin p → Fin p
  | [], _ => 0
  | c :: cs, x => c + x * ev cs x

/-- what is left of a polynomial when x - r is taken out: 'cs(x) = (x - r) q(x) + cs(r)' -/
def quo (r : Fin p) : List (Fin p) → List (Fin p)
  | [] => []
  | [_] => []
  | _ :: c :: cs => ev (c :: cs) r :: quo r (c :: cs)
theorem ev_quo (r x : Fin p) : ∀ cs : List (Fin p), ev cs x = (x - r) * ev (quo r cs) x + ev cs r
  | [] => by simp only [ev, quo]; grind
  | [c] => by simp only [ev, quo]; grind
  | c :: d :: cs => by
    have ih := ev_quo r x (d :: cs)
    have e1 : ev (c :: d :: cs) x = c + x * ev (d :: cs) x := rfl
    have e2 : ev (c :: d :: cs) r = c + r * ev (d :: cs) r := rfl
    have e3 : ev (quo r (c :: d :: cs)) x = ev (d :: cs) r + x * ev (quo r (d :: cs)) x := rfl
    rw [e1, e2, e3, ih]
    grind
theorem quo_length (r : Fin p) : ∀ cs : List (Fin p), (quo r cs).length = cs.length - 1
  | [] => rfl
  | [_] => rfl
  | c :: d :: cs => by simp [quo, quo_length r (d :: cs)]
theorem quo_last (r : Fin p) : ∀ (cs : List (Fin p)) (h : quo r cs ≠ []) (h' : cs ≠ []), (quo r cs).getLast h = cs.getLast h'
  | [], h, _ => absurd rfl h
  | [_], h, _ => absurd rfl h
  | [c, d], _, _ => by simp [quo, ev]; grind
  | c :: d :: e :: cs, _, _ => by
    have := quo_last r (d :: e :: cs) (by simp [quo]) (by simp)
    have e3 : quo r (c :: d :: e :: cs) = ev (d :: e :: cs) r :: quo r (d :: e :: cs) := rfl
    simp only [e3]
    rw [List.getLast_cons (by simp [quo]), List.getLast_cons (by simp)]
    exact this

theorem roots_le (hp : IsPrime p) : ∀ (n : Nat) (cs : List (Fin p)), cs.length = n → ∀ (h : cs ≠ []), cs.getLast h ≠ 0 → ∀ xs : List (Fin p), xs.Nodup → (∀ x ∈ xs, ev cs x = 0) → xs.length + 1 ≤ n := by
  intro n
  induction n with
  | zero => intro cs hn h; exact absurd (List.length_eq_zero_iff.1 hn) h
  | succ n ih =>
    intro cs hn h hl xs hxs hr
    cases xs with
    | nil => simp
    | cons r xs =>
      have hr0 : ev cs r = 0 := hr r (by simp)
      have hnd := List.nodup_cons.1 hxs
      by_cases hq : quo r cs = []
      · have := quo_length r cs
        rw [hq, hn] at this
        simp at this
        match cs, h, hn, this with
        | [c], _, _, _ => simp [ev] at hr0; simp at hl; grind
        | [], h, _, _ => exact absurd rfl h
        | _ :: _ :: _, _, hn, this => simp at hn; omega
      · have := ih (quo r cs) (by rw [quo_length, hn]; rfl) hq (by rw [quo_last r cs hq h]; exact hl) xs hnd.2 (fun x hx => by
          have e := ev_quo r x cs
          rw [hr x (by simp [hx]), hr0] at e
          have hne : x - r ≠ 0 := by
            intro e'
            have : x = r := by grind
            exact hnd.1 (this ▸ hx)
          have : (x - r) * ev (quo r cs) x = 0 := by grind
          exact (mul_eq_zero hp this).resolve_left hne)
        simp; omega

/-! orders -/
/-- x has the order d -/
def Ord (x : Fin p) (d : Nat) : Prop := ∀ k, pw x k = 1 ↔ d ∣ k
theorem Ord.one {x : Fin p} {d : Nat} (h : Ord x d) : pw x d = 1 := (h d).2 (Nat.dvd_refl d)
theorem Ord.unique {x : Fin p} {d e : Nat} (h : Ord x d) (h' : Ord x e) : d = e :=
  Nat.dvd_antisymm ((h e).1 h'.one) ((h' d).1 h.one)

theorem pw_mod {x : Fin p} {d : Nat} (h : pw x d = 1) (k : Nat) : pw x (k % d) = pw x k := by
  have e : k = d * (k / d) + k % d := (Nat.div_add_mod k d).symm
  have : pw x k = pw x (d * (k / d)) * pw x (k % d) := by rw [← pw_add, ← e]
  rw [this, pw_mul, h, one_pw]
  grind

/-- the least factor count is the order -/
theorem ord_of_least {x : Fin p} {d : Nat} (hd : 0 < d) (h : pw x d = 1) (hl : ∀ k, 0 < k → k < d → pw x k ≠ 1) : Ord x d := by
  intro k
  constructor
  · intro hk
    have h1 := pw_mod h k
    rw [hk] at h1
    by_cases h0 : k % d = 0
    · exact Nat.dvd_of_mod_eq_zero h0
    · exact absurd h1 (hl _ (by omega) (Nat.mod_lt _ hd))
  · rintro ⟨m, rfl⟩
    rw [pw_mul, h, one_pw]

theorem exists_ord (hp : IsPrime p) {x : Fin p} (hx : x ≠ 0) : ∃ d, 0 < d ∧ Ord x d := by
  have : ∀ n, (∃ k, 0 < k ∧ k ≤ n ∧ pw x k = 1) → ∃ d, 0 < d ∧ Ord x d := by
    intro n
    induction n with
    | zero => rintro ⟨k, h1, h2, _⟩; omega
    | succ n ih =>
      rintro ⟨k, h1, h2, h3⟩
      by_cases hn : ∃ k, 0 < k ∧ k ≤ n ∧ pw x k = 1
      · exact ih hn
      · have hk : k = n + 1 := by
          false_or_by_contra
          exact hn ⟨k, h1, by omega, h3⟩
        subst hk
        exact ⟨n + 1, h1, ord_of_least h1 h3 (fun j hj hjn e => hn ⟨j, hj, by omega, e⟩)⟩
  exact this (p - 1) ⟨p - 1, by have := hp.1; omega, Nat.le_refl _, fermat hp hx⟩

theorem Ord.dvd (hp : IsPrime p) {x : Fin p} (hx : x ≠ 0) {d : Nat} (h : Ord x d) : d ∣ p - 1 := (h _).1 (fermat hp hx)
theorem Ord.pos (hp : IsPrime p) {x : Fin p} (hx : x ≠ 0) {d : Nat} (h : Ord x d) : 0 < d := by
  rcases Nat.eq_zero_or_pos d with rfl | h0
  · have := Nat.eq_zero_of_zero_dvd (h.dvd hp hx); have := hp.1; omega
  · exact h0
theorem Ord.ne_zero (hp : IsPrime p) {x : Fin p} {d : Nat} (hd : 0 < d) (h : Ord x d) : x ≠ 0 := by
  rintro rfl
  have h1 := h.one
  rw [zero_pw _ (by omega)] at h1
  exact one_ne_zero hp h1.symm

/-- orders that have no divisor in common: the product's order is their product -/
theorem Ord.mul {x y : Fin p} {m n : Nat} (hx : Ord x m) (hy : Ord y n) (hc : Nat.Coprime m n) : Ord (x * y) (m * n) := by
  intro k
  constructor
  · intro hk
    have h1 : pw x (k * n) = 1 := by
      have e : pw (x * y) (k * n) = 1 := by rw [pw_mul, hk, one_pw]
      rw [mul_pw, Nat.mul_comm k n, pw_mul y, hy.one, one_pw, Nat.mul_comm n k] at e
      grind
    have h2 : pw y (k * m) = 1 := by
      have e : pw (x * y) (k * m) = 1 := by rw [pw_mul, hk, one_pw]
      rw [mul_pw, Nat.mul_comm k m, pw_mul x, hx.one, one_pw, Nat.mul_comm m k] at e
      grind
    have d1 : m ∣ k := hc.dvd_of_dvd_mul_right ((hx _).1 h1)
    have d2 : n ∣ k := hc.symm.dvd_of_dvd_mul_right ((hy _).1 h2)
    exact Nat.Coprime.mul_dvd_of_dvd_of_dvd hc d1 d2
  · rintro ⟨j, rfl⟩
    rw [mul_pw, Nat.mul_assoc, pw_mul x, hx.one, one_pw, ← Nat.mul_assoc, Nat.mul_comm m n, Nat.mul_assoc, pw_mul y, hy.one, one_pw]
    grind

/-- x^k - 1 as coefficients -/
theorem ev_replicate (n : Nat) (l : List (Fin p)) (x : Fin p) : ev (List.replicate n 0 ++ l) x = pw x n * ev l x := by
  induction n with
  | zero => simp only [List.replicate_zero, List.nil_append, pw_zero]; grind
  | succ n ih => rw [List.replicate_succ, List.cons_append, ev, ih, pw_succ]; grind

theorem pw_roots_le (hp : IsPrime p) (k : Nat) (hk : 0 < k) (xs : List (Fin p)) (hn : xs.Nodup) (h : ∀ x ∈ xs, pw x k = 1) : xs.length ≤ k := by
  obtain ⟨k, rfl⟩ : ∃ j, k = j + 1 := ⟨k - 1, by omega⟩
  have := roots_le hp (k + 2) ((-1) :: (List.replicate k 0 ++ [1])) (by simp) (by simp)
    (by rw [List.getLast_cons (by simp), List.getLast_append_of_ne_nil _ (by simp)]; simpa using one_ne_zero hp) xs hn
    (fun x hx => by
      rw [ev, ev_replicate]
      have := h x hx
      rw [pw_succ] at this
      simp only [ev]
      grind)
  omega

/-- there is an element of each order that divides p - 1 -/
theorem ord_exists (hp : IsPrime p) : ∀ (d : Nat), d ∣ p - 1 → ∃ x : Fin p, Ord x d := by
  have hp2 := hp.1
  intro d
  induction d using Nat.strongRecOn with
  | _ d ih =>
    intro hd
    have hd0 : d ≠ 0 := by rintro rfl; have := Nat.eq_zero_of_zero_dvd hd; omega
    by_cases h1 : d = 1
    · subst h1
      exact ⟨1, fun k => by simp [one_pw]⟩
    · obtain ⟨q, hq, hqd⟩ := exists_prime_dvd d (by omega)
      -- d = q^e * m
      have split : ∀ n, n ≠ 0 → ∃ e m, n = q ^ e * m ∧ ¬ q ∣ m := by
        intro n
        induction n using Nat.strongRecOn with
        | _ n ih2 =>
          intro hn
          by_cases hqn : q ∣ n
          · obtain ⟨m, rfl⟩ := hqn
            have hm : m ≠ 0 := by rintro rfl; simp at hn
            have := hq.1
            obtain ⟨e, m', he, hm'⟩ := ih2 m (by
              have : 1 * m < q * m := Nat.mul_lt_mul_of_pos_right (by omega) (by omega)
              omega) hm
            exact ⟨e + 1, m', by rw [Nat.pow_succ, he]; rw [← he]; rw [he]; simp [Nat.mul_comm, Nat.mul_left_comm], hm'⟩
          · exact ⟨0, n, by simp, hqn⟩
      obtain ⟨e, m, hem, hqm⟩ := split d hd0
      have he : e ≠ 0 := by
        rintro rfl
        simp at hem
        subst hem
        exact hqm hqd
      have hqp : 2 ≤ q := hq.1
      have hqe : 1 < q ^ e := Nat.one_lt_pow he (by omega)
      have hm0 : m ≠ 0 := by rintro rfl; simp at hem; exact hd0 hem
      have hcop : Nat.Coprime (q ^ e) m := Nat.Coprime.pow_left e (hq.coprime hqm)
      by_cases hm1 : m = 1
      · subst hm1
        simp at hem
        -- an element that is not a root of x^((p-1)/q) - 1
        obtain ⟨c, hc⟩ := hd
        obtain ⟨e', rfl⟩ : ∃ e', e = e' + 1 := ⟨e - 1, by omega⟩
        have hc0 : 0 < c := by
          rcases Nat.eq_zero_or_pos c with rfl | h
          · simp at hc; omega
          · exact h
        have hk0 : 0 < q ^ e' * c := Nat.mul_pos (Nat.pow_pos (by omega)) hc0
        have hkp : q ^ e' * c * q = p - 1 := by rw [hc, hem, Nat.pow_succ, Nat.mul_assoc, Nat.mul_comm c q, Nat.mul_assoc]
        have hlt : q ^ e' * c < p - 1 := by
          rw [← hkp]
          have : q ^ e' * c * 1 < q ^ e' * c * q := Nat.mul_lt_mul_of_pos_left (by omega) hk0
          omega
        have : ∃ x : Fin p, x ≠ 0 ∧ pw x (q ^ e' * c) ≠ 1 := by
          false_or_by_contra
          rename_i hno
          have := pw_roots_le hp (q ^ e' * c) hk0 (nz p) nodup_nz (fun x hx => by
            false_or_by_contra
            rename_i h'
            exact hno ⟨x, mem_nz.1 hx, h'⟩)
          rw [nz_length] at this
          omega
        obtain ⟨x, hx0, hx⟩ := this
        refine ⟨pw x c, ?_⟩
        have hy0 : pw x c ≠ 0 := pw_ne_zero hp hx0 _
        obtain ⟨n, hn0, hn⟩ := exists_ord hp hy0
        have hy1 : pw (pw x c) d = 1 := by
          rw [← pw_mul, Nat.mul_comm, ← hc]
          exact fermat hp hx0
        have hnd : n ∣ q ^ (e' + 1) := hem ▸ (hn d).1 hy1
        have hnn : ¬ n ∣ q ^ e' := by
          intro h
          have := (hn _).2 h
          rw [← pw_mul, Nat.mul_comm] at this
          exact hx this
        -- n divides q^(e'+1) but not q^e'
        have key : ∀ e n, n ∣ q ^ (e + 1) → ¬ n ∣ q ^ e → n = q ^ (e + 1) := by
          intro e
          induction e with
          | zero =>
            intro n h h'
            simp at h h' ⊢
            rcases hq.2 n h with h2 | h2
            · exact absurd h2 h'
            · exact h2
          | succ e ih3 =>
            intro n h h'
            by_cases hqn : q ∣ n
            · obtain ⟨n', rfl⟩ := hqn
              have hq0 : 0 < q := by omega
              have e1 : n' ∣ q ^ (e + 1) := by
                rw [Nat.pow_succ, Nat.mul_comm (q ^ (e + 1)) q] at h
                exact Nat.dvd_of_mul_dvd_mul_left hq0 h
              have e2 : ¬ n' ∣ q ^ e := by
                intro hh
                apply h'
                rw [Nat.pow_succ, Nat.mul_comm (q ^ e) q]
                exact Nat.mul_dvd_mul_left q hh
              rw [ih3 n' e1 e2, Nat.pow_succ q (e + 1), Nat.mul_comm]
            · have hc1 : Nat.Coprime n (q ^ (e + 1 + 1)) := (Nat.Coprime.pow_left _ (hq.coprime hqn)).symm
              have : n = 1 := hc1.eq_one_of_dvd h
              subst this
              exact absurd (Nat.one_dvd _) h'
        rw [hem, ← key e' n hnd hnn]
        exact hn
      · have hlt1 : q ^ e < d := by
          rw [hem]
          have : q ^ e * 1 < q ^ e * m := Nat.mul_lt_mul_of_pos_left (by omega) (by omega)
          omega
        have hlt2 : m < d := by
          rw [hem]
          have : 1 * m < q ^ e * m := Nat.mul_lt_mul_of_pos_right (by omega) (by omega)
          omega
        obtain ⟨x, hx⟩ := ih (q ^ e) hlt1 (Nat.dvd_trans ⟨m, hem⟩ hd)
        obtain ⟨y, hy⟩ := ih m hlt2 (Nat.dvd_trans ⟨q ^ e, by rw [hem, Nat.mul_comm]⟩ hd)
        exact ⟨x * y, by rw [hem]; exact hx.mul hy hcop⟩

end field
end Zp
