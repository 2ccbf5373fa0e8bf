/- A bundle of texts: Num, El, Pl, Pm, Dm, Ds, Cd, Fd, Sx, Ex, Wt, Ft, Ps, Pt, Ip, Gp, Gk1, Gs1, Fp, Gs2, Gs3, Gs4, Gs5, Gs6, Gs7, Gs8. -/
set_option linter.unusedVariables false
set_option linter.unusedSimpArgs false
namespace Zp
def IsPrime (p : Nat) : Prop := 2 ≤ p ∧ ∀ d, d ∣ p → d = 1 ∨ d = p
theorem IsPrime.pos {p : Nat} (h : IsPrime p) : 0 < p := by have := h.1; omega
theorem IsPrime.ne {p : Nat} (h : IsPrime p) : NeZero p := ⟨by have := h.1; omega⟩
theorem IsPrime.coprime {p : Nat} (h : IsPrime p) {a : Nat} (ha : ¬ p ∣ a) : Nat.Coprime p a := by
  rcases h.2 (Nat.gcd p a) (Nat.gcd_dvd_left p a) with h1 | h1
  · exact h1
  · exact absurd (h1 ▸ Nat.gcd_dvd_right p a) ha
theorem IsPrime.dvd_mul {p : Nat} (h : IsPrime p) {a b : Nat} (hab : p ∣ a * b) : p ∣ a ∨ p ∣ b := by
  by_cases ha : p ∣ a
  · exact .inl ha
  · exact .inr ((h.coprime ha).dvd_of_dvd_mul_left hab)
theorem exists_prime_dvd : ∀ (n : Nat), 2 ≤ n → ∃ q, IsPrime q ∧ q ∣ n := by
  intro n
  induction n using Nat.strongRecOn with
  | _ n ih =>
    intro hn
    by_cases hp : IsPrime n
    · exact ⟨n, hp, Nat.dvd_refl n⟩
    · have : ∃ d, d ∣ n ∧ d ≠ 1 ∧ d ≠ n := by
        false_or_by_contra
        rename_i hno
        apply hp
        refine ⟨hn, fun d hd => ?_⟩
        by_cases h1 : d = 1
        · exact .inl h1
        · by_cases h2 : d = n
          · exact .inr h2
          · exact absurd ⟨d, hd, h1, h2⟩ hno
      obtain ⟨d, hd, h1, h2⟩ := this
      have hle := Nat.le_of_dvd (by omega) hd
      have h0 : d ≠ 0 := by rintro rfl; have := Nat.eq_zero_of_zero_dvd hd; omega
      obtain ⟨q, hq, hqd⟩ := ih d (by omega) (by omega)
      exact ⟨q, hq, Nat.dvd_trans hqd hd⟩
theorem isPrime_iff (p : Nat) : IsPrime p ↔ 2 ≤ p ∧ ∀ d, d < p → 2 ≤ d → p % d ≠ 0 := by
  constructor
  · rintro ⟨h1, h2⟩
    refine ⟨h1, fun d hd hd2 h => ?_⟩
    rcases h2 d (Nat.dvd_of_mod_eq_zero h) with h' | h' <;> omega
  · rintro ⟨h1, h2⟩
    refine ⟨h1, fun d hd => ?_⟩
    have hle := Nat.le_of_dvd (by omega) hd
    have h0 : d ≠ 0 := by rintro rfl; have := Nat.eq_zero_of_zero_dvd hd; omega
    by_cases h : d = 1
    · exact .inl h
    · by_cases h' : d = p
      · exact .inr h'
      · exact absurd (Nat.mod_eq_zero_of_dvd hd) (h2 d (by omega) (by omega))
instance (p : Nat) : Decidable (IsPrime p) := decidable_of_iff _ (isPrime_iff p).symm
section field
variable {p : Nat} [NeZero p]
def pw (a : Fin p) : Nat → Fin p
  | 0 => 1
  | n + 1 => pw a n * a
@[simp] theorem pw_zero (a : Fin p) : pw a 0 = 1 := rfl
theorem pw_succ (a : Fin p) (n : Nat) : pw a (n + 1) = pw a n * a := rfl
theorem pw_one (a : Fin p) : pw a 1 = a := by simp only [pw]; grind
theorem pw_add (a : Fin p) (m n : Nat) : pw a (m + n) = pw a m * pw a n := by
  induction n with
  | zero => rw [pw_zero, Nat.add_zero]; grind
  | succ n ih => rw [← Nat.add_assoc, pw_succ, pw_succ, ih]; grind
theorem pw_mul (a : Fin p) (m n : Nat) : pw a (m * n) = pw (pw a m) n := by
  induction n with
  | zero => simp
  | succ n ih => rw [Nat.mul_succ, pw_add, pw_succ, ih]
theorem mul_pw (a b : Fin p) (n : Nat) : pw (a * b) n = pw a n * pw b n := by
  induction n with
  | zero => simp only [pw_zero]; grind
  | succ n ih => rw [pw_succ, pw_succ, pw_succ, ih]; grind
theorem one_pw (n : Nat) : pw (1 : Fin p) n = 1 := by
  induction n with
  | zero => rfl
  | succ n ih => rw [pw_succ, ih]; grind
theorem zero_pw (n : Nat) (h : n ≠ 0) : pw (0 : Fin p) n = 0 := by
  cases n with
  | zero => exact absurd rfl h
  | succ n => rw [pw_succ]; grind
theorem val_zero' : ((0 : Fin p) : Nat) = 0 := rfl
theorem mul_eq_zero (hp : IsPrime p) {a b : Fin p} (h : a * b = 0) : a = 0 ∨ b = 0 := by
  have h1 : (a.val * b.val) % p = 0 := by
    have := congrArg Fin.val h
    rwa [Fin.val_mul, val_zero'] at this
  rcases hp.dvd_mul (Nat.dvd_of_mod_eq_zero h1) with h2 | h2
  · left; apply Fin.ext; rw [val_zero']; exact Nat.eq_zero_of_dvd_of_lt h2 a.isLt
  · right; apply Fin.ext; rw [val_zero']; exact Nat.eq_zero_of_dvd_of_lt h2 b.isLt
theorem mul_ne_zero (hp : IsPrime p) {a b : Fin p} (ha : a ≠ 0) (hb : b ≠ 0) : a * b ≠ 0 := fun h => (mul_eq_zero hp h).elim ha hb
theorem one_ne_zero (hp : IsPrime p) : (1 : Fin p) ≠ 0 := by
  intro h
  have := congrArg Fin.val h
  have h2 := hp.1
  rw [val_zero'] at this
  have : (1 : Nat) % p = 0 := this
  rw [Nat.mod_eq_of_lt (by omega)] at this
  omega
theorem pw_ne_zero (hp : IsPrime p) {a : Fin p} (ha : a ≠ 0) (n : Nat) : pw a n ≠ 0 := by
  induction n with
  | zero => exact one_ne_zero hp
  | succ n ih => exact mul_ne_zero hp ih ha
theorem mul_left_cancel (hp : IsPrime p) {a b c : Fin p} (ha : a ≠ 0) (h : a * b = a * c) : b = c := by
  have : a * (b - c) = 0 := by grind
  rcases mul_eq_zero hp this with h1 | h1
  · exact absurd h1 ha
  · grind
def nz (p : Nat) [NeZero p] : List (Fin p) := (List.finRange p).filter (fun x => decide (x ≠ 0))
theorem mem_nz {x : Fin p} : x ∈ nz p ↔ x ≠ 0 := by simp [nz, List.mem_finRange]
theorem nodup_nz : (nz p).Nodup := (List.nodup_finRange p).filter _
def prodL : List (Fin p) → Fin p
  | [] => 1
  | x :: l => x * prodL l
theorem prodL_perm {l m : List (Fin p)} (h : l.Perm m) : prodL l = prodL m := by
  induction h with
  | nil => rfl
  | cons x _ ih => simp [prodL, ih]
  | swap x y l => simp only [prodL]; grind
  | trans _ _ h1 h2 => exact h1.trans h2
theorem prodL_map (a : Fin p) (l : List (Fin p)) : prodL (l.map (a * ·)) = pw a l.length * prodL l := by
  induction l with
  | nil => simp [prodL]; grind
  | cons x l ih => simp only [List.map_cons, prodL, List.length_cons, ih, pw_succ]; grind
theorem prodL_ne (hp : IsPrime p) : ∀ (l : List (Fin p)), (∀ x ∈ l, x ≠ 0) → prodL l ≠ 0
  | [], _ => one_ne_zero hp
  | x :: l, h => mul_ne_zero hp (h x (by simp)) (prodL_ne hp l (fun y hy => h y (by simp [hy])))
theorem perm_of_nodup {α : Type} [DecidableEq α] {l m : List α} (hl : l.Nodup) (hm : m.Nodup) (hs : l ⊆ m) (hlen : m.length ≤ l.length) : l.Perm m := by
  have hback : m ⊆ l := by
    intro x hx
    false_or_by_contra
    rename_i hn
    have h1 : (x :: l).Nodup := List.nodup_cons.2 ⟨hn, hl⟩
    have h2 : (x :: l) ⊆ m := by
      intro y hy
      rcases List.mem_cons.1 hy with rfl | hy
      · exact hx
      · exact hs hy
    have := h1.length_le_of_subset h2
    simp at this
    omega
  rw [List.perm_iff_count]
  intro a
  rw [hl.count, hm.count]
  by_cases h : a ∈ l
  · simp [h, hs h]
  · have : a ∉ m := fun h' => h (hback h')
    simp [h, this]
theorem nodup_map {α β : Type} {f : α → β} (hf : ∀ a b, f a = f b → a = b) : ∀ {l : List α}, l.Nodup → (l.map f).Nodup
  | [], _ => List.nodup_nil
  | x :: l, h => by
    have h' := List.nodup_cons.1 h
    rw [List.map_cons]
    refine List.nodup_cons.2 ⟨fun hm => ?_, nodup_map hf h'.2⟩
    obtain ⟨y, hy, e⟩ := List.mem_map.1 hm
    exact h'.1 (hf _ _ e ▸ hy)
theorem nz_length : (nz p).length = p - 1 := by
  have h0 : (0 :: nz p).Perm (List.finRange p) := by
    refine perm_of_nodup (List.nodup_cons.2 ⟨by simp [mem_nz], nodup_nz⟩) (List.nodup_finRange p) (fun x _ => List.mem_finRange x) ?_
    refine (List.nodup_finRange p).length_le_of_subset (fun x _ => ?_)
    by_cases h : x = 0
    · simp [h]
    · exact List.mem_cons_of_mem _ (mem_nz.2 h)
  have := h0.length_eq
  simp at this
  omega
theorem fermat (hp : IsPrime p) {a : Fin p} (ha : a ≠ 0) : pw a (p - 1) = 1 := by
  have h1 : ((nz p).map (a * ·)).Perm (nz p) := by
    refine perm_of_nodup (nodup_map (fun x y h => mul_left_cancel hp ha h) nodup_nz) nodup_nz ?_ (by simp)
    intro x hx
    obtain ⟨y, hy, rfl⟩ := List.mem_map.1 hx
    exact mem_nz.2 (mul_ne_zero hp ha (mem_nz.1 hy))
  have h2 := prodL_perm h1
  rw [prodL_map, nz_length] at h2
  have h3 : prodL (nz p) ≠ 0 := prodL_ne hp _ (fun x hx => mem_nz.1 hx)
  refine mul_left_cancel hp h3 ?_
  grind
def inv (a : Fin p) : Fin p := pw a (p - 2)
theorem mul_inv (hp : IsPrime p) {a : Fin p} (ha : a ≠ 0) : a * inv a = 1 := by
  have h := fermat hp ha
  have h2 := hp.1
  have : p - 1 = (p - 2) + 1 := by omega
  rw [this, pw_succ] at h
  unfold inv
  grind
def ev : List (Fin p) → Fin p → Fin p
  | [], _ => 0
  | c :: cs, x => c + x * ev cs x
def quo (r : Fin p) : List (Fin p) → List (Fin p)
  | [] => []
  | [_] => []
  | _ :: c :: cs => ev (c :: cs) r :: quo r (c :: cs)
theorem ev_quo (r x : Fin p) : ∀ cs : List (Fin p), ev cs x = (x - r) * ev (quo r cs) x + ev cs r
  | [] => by simp only [ev, quo]; grind
  | [c] => by simp only [ev, quo]; grind
  | c :: d :: cs => by
    have ih := ev_quo r x (d :: cs)
    have e1 : ev (c :: d :: cs) x = c + x * ev (d :: cs) x := rfl
    have e2 : ev (c :: d :: cs) r = c + r * ev (d :: cs) r := rfl
    have e3 : ev (quo r (c :: d :: cs)) x = ev (d :: cs) r + x * ev (quo r (d :: cs)) x := rfl
    rw [e1, e2, e3, ih]
    grind
theorem quo_length (r : Fin p) : ∀ cs : List (Fin p), (quo r cs).length = cs.length - 1
  | [] => rfl
  | [_] => rfl
  | c :: d :: cs => by simp [quo, quo_length r (d :: cs)]
theorem quo_last (r : Fin p) : ∀ (cs : List (Fin p)) (h : quo r cs ≠ []) (h' : cs ≠ []), (quo r cs).getLast h = cs.getLast h'
  | [], h, _ => absurd rfl h
  | [_], h, _ => absurd rfl h
  | [c, d], _, _ => by simp [quo, ev]; grind
  | c :: d :: e :: cs, _, _ => by
    have := quo_last r (d :: e :: cs) (by simp [quo]) (by simp)
    have e3 : quo r (c :: d :: e :: cs) = ev (d :: e :: cs) r :: quo r (d :: e :: cs) := rfl
    simp only [e3]
    rw [List.getLast_cons (by simp [quo]), List.getLast_cons (by simp)]
    exact this
theorem roots_le (hp : IsPrime p) : ∀ (n : Nat) (cs : List (Fin p)), cs.length = n → ∀ (h : cs ≠ []), cs.getLast h ≠ 0 → ∀ xs : List (Fin p), xs.Nodup → (∀ x ∈ xs, ev cs x = 0) → xs.length + 1 ≤ n := by
  intro n
  induction n with
  | zero => intro cs hn h; exact absurd (List.length_eq_zero_iff.1 hn) h
  | succ n ih =>
    intro cs hn h hl xs hxs hr
    cases xs with
    | nil => simp
    | cons r xs =>
      have hr0 : ev cs r = 0 := hr r (by simp)
      have hnd := List.nodup_cons.1 hxs
      by_cases hq : quo r cs = []
      · have := quo_length r cs
        rw [hq, hn] at this
        simp at this
        match cs, h, hn, this with
        | [c], _, _, _ => simp [ev] at hr0; simp at hl; grind
        | [], h, _, _ => exact absurd rfl h
        | _ :: _ :: _, _, hn, this => simp at hn; omega
      · have := ih (quo r cs) (by rw [quo_length, hn]; rfl) hq (by rw [quo_last r cs hq h]; exact hl) xs hnd.2 (fun x hx => by
          have e := ev_quo r x cs
          rw [hr x (by simp [hx]), hr0] at e
          have hne : x - r ≠ 0 := by
            intro e'
            have : x = r := by grind
            exact hnd.1 (this ▸ hx)
          have : (x - r) * ev (quo r cs) x = 0 := by grind
          exact (mul_eq_zero hp this).resolve_left hne)
        simp; omega
def Ord (x : Fin p) (d : Nat) : Prop := ∀ k, pw x k = 1 ↔ d ∣ k
theorem Ord.one {x : Fin p} {d : Nat} (h : Ord x d) : pw x d = 1 := (h d).2 (Nat.dvd_refl d)
theorem Ord.unique {x : Fin p} {d e : Nat} (h : Ord x d) (h' : Ord x e) : d = e :=
  Nat.dvd_antisymm ((h e).1 h'.one) ((h' d).1 h.one)
theorem pw_mod {x : Fin p} {d : Nat} (h : pw x d = 1) (k : Nat) : pw x (k % d) = pw x k := by
  have e : k = d * (k / d) + k % d := (Nat.div_add_mod k d).symm
  have : pw x k = pw x (d * (k / d)) * pw x (k % d) := by rw [← pw_add, ← e]
  rw [this, pw_mul, h, one_pw]
  grind
theorem ord_of_least {x : Fin p} {d : Nat} (hd : 0 < d) (h : pw x d = 1) (hl : ∀ k, 0 < k → k < d → pw x k ≠ 1) : Ord x d := by
  intro k
  constructor
  · intro hk
    have h1 := pw_mod h k
    rw [hk] at h1
    by_cases h0 : k % d = 0
    · exact Nat.dvd_of_mod_eq_zero h0
    · exact absurd h1 (hl _ (by omega) (Nat.mod_lt _ hd))
  · rintro ⟨m, rfl⟩
    rw [pw_mul, h, one_pw]
theorem exists_ord (hp : IsPrime p) {x : Fin p} (hx : x ≠ 0) : ∃ d, 0 < d ∧ Ord x d := by
  have : ∀ n, (∃ k, 0 < k ∧ k ≤ n ∧ pw x k = 1) → ∃ d, 0 < d ∧ Ord x d := by
    intro n
    induction n with
    | zero => rintro ⟨k, h1, h2, _⟩; omega
    | succ n ih =>
      rintro ⟨k, h1, h2, h3⟩
      by_cases hn : ∃ k, 0 < k ∧ k ≤ n ∧ pw x k = 1
      · exact ih hn
      · have hk : k = n + 1 := by
          false_or_by_contra
          exact hn ⟨k, h1, by omega, h3⟩
        subst hk
        exact ⟨n + 1, h1, ord_of_least h1 h3 (fun j hj hjn e => hn ⟨j, hj, by omega, e⟩)⟩
  exact this (p - 1) ⟨p - 1, by have := hp.1; omega, Nat.le_refl _, fermat hp hx⟩
theorem Ord.dvd (hp : IsPrime p) {x : Fin p} (hx : x ≠ 0) {d : Nat} (h : Ord x d) : d ∣ p - 1 := (h _).1 (fermat hp hx)
theorem Ord.pos (hp : IsPrime p) {x : Fin p} (hx : x ≠ 0) {d : Nat} (h : Ord x d) : 0 < d := by
  rcases Nat.eq_zero_or_pos d with rfl | h0
  · have := Nat.eq_zero_of_zero_dvd (h.dvd hp hx); have := hp.1; omega
  · exact h0
theorem Ord.ne_zero (hp : IsPrime p) {x : Fin p} {d : Nat} (hd : 0 < d) (h : Ord x d) : x ≠ 0 := by
  rintro rfl
  have h1 := h.one
  rw [zero_pw _ (by omega)] at h1
  exact one_ne_zero hp h1.symm
theorem Ord.mul {x y : Fin p} {m n : Nat} (hx : Ord x m) (hy : Ord y n) (hc : Nat.Coprime m n) : Ord (x * y) (m * n) := by
  intro k
  constructor
  · intro hk
    have h1 : pw x (k * n) = 1 := by
      have e : pw (x * y) (k * n) = 1 := by rw [pw_mul, hk, one_pw]
      rw [mul_pw, Nat.mul_comm k n, pw_mul y, hy.one, one_pw, Nat.mul_comm n k] at e
      grind
    have h2 : pw y (k * m) = 1 := by
      have e : pw (x * y) (k * m) = 1 := by rw [pw_mul, hk, one_pw]
      rw [mul_pw, Nat.mul_comm k m, pw_mul x, hx.one, one_pw, Nat.mul_comm m k] at e
      grind
    have d1 : m ∣ k := hc.dvd_of_dvd_mul_right ((hx _).1 h1)
    have d2 : n ∣ k := hc.symm.dvd_of_dvd_mul_right ((hy _).1 h2)
    exact Nat.Coprime.mul_dvd_of_dvd_of_dvd hc d1 d2
  · rintro ⟨j, rfl⟩
    rw [mul_pw, Nat.mul_assoc, pw_mul x, hx.one, one_pw, ← Nat.mul_assoc, Nat.mul_comm m n, Nat.mul_assoc, pw_mul y, hy.one, one_pw]
    grind
theorem ev_replicate (n : Nat) (l : List (Fin p)) (x : Fin p) : ev (List.replicate n 0 ++ l) x = pw x n * ev l x := by
  induction n with
  | zero => simp only [List.replicate_zero, List.nil_append, pw_zero]; grind
  | succ n ih => rw [List.replicate_succ, List.cons_append, ev, ih, pw_succ]; grind
theorem pw_roots_le (hp : IsPrime p) (k : Nat) (hk : 0 < k) (xs : List (Fin p)) (hn : xs.Nodup) (h : ∀ x ∈ xs, pw x k = 1) : xs.length ≤ k := by
  obtain ⟨k, rfl⟩ : ∃ j, k = j + 1 := ⟨k - 1, by omega⟩
  have := roots_le hp (k + 2) ((-1) :: (List.replicate k 0 ++ [1])) (by simp) (by simp)
    (by rw [List.getLast_cons (by simp), List.getLast_append_of_ne_nil _ (by simp)]; simpa using one_ne_zero hp) xs hn
    (fun x hx => by
      rw [ev, ev_replicate]
      have := h x hx
      rw [pw_succ] at this
      simp only [ev]
      grind)
  omega
theorem ord_exists (hp : IsPrime p) : ∀ (d : Nat), d ∣ p - 1 → ∃ x : Fin p, Ord x d := by
  have hp2 := hp.1
  intro d
  induction d using Nat.strongRecOn with
  | _ d ih =>
    intro hd
    have hd0 : d ≠ 0 := by rintro rfl; have := Nat.eq_zero_of_zero_dvd hd; omega
    by_cases h1 : d = 1
    · subst h1
      exact ⟨1, fun k => by simp [one_pw]⟩
    · obtain ⟨q, hq, hqd⟩ := exists_prime_dvd d (by omega)
      -- d = q^e * m
      have split : ∀ n, n ≠ 0 → ∃ e m, n = q ^ e * m ∧ ¬ q ∣ m := by
        intro n
        induction n using Nat.strongRecOn with
        | _ n ih2 =>
          intro hn
          by_cases hqn : q ∣ n
          · obtain ⟨m, rfl⟩ := hqn
            have hm : m ≠ 0 := by rintro rfl; simp at hn
            have := hq.1
            obtain ⟨e, m', he, hm'⟩ := ih2 m (by
              have : 1 * m < q * m := Nat.mul_lt_mul_of_pos_right (by omega) (by omega)
              omega) hm
            exact ⟨e + 1, m', by rw [Nat.pow_succ, he]; rw [← he]; rw [he]; simp [Nat.mul_comm, Nat.mul_left_comm], hm'⟩
          · exact ⟨0, n, by simp, hqn⟩
      obtain ⟨e, m, hem, hqm⟩ := split d hd0
      have he : e ≠ 0 := by
        rintro rfl
        simp at hem
        subst hem
        exact hqm hqd
      have hqp : 2 ≤ q := hq.1
      have hqe : 1 < q ^ e := Nat.one_lt_pow he (by omega)
      have hm0 : m ≠ 0 := by rintro rfl; simp at hem; exact hd0 hem
      have hcop : Nat.Coprime (q ^ e) m := Nat.Coprime.pow_left e (hq.coprime hqm)
      by_cases hm1 : m = 1
      · subst hm1
        simp at hem
        -- an element that is not a root of x^((p-1)/q) - 1
        obtain ⟨c, hc⟩ := hd
        obtain ⟨e', rfl⟩ : ∃ e', e = e' + 1 := ⟨e - 1, by omega⟩
        have hc0 : 0 < c := by
          rcases Nat.eq_zero_or_pos c with rfl | h
          · simp at hc; omega
          · exact h
        have hk0 : 0 < q ^ e' * c := Nat.mul_pos (Nat.pow_pos (by omega)) hc0
        have hkp : q ^ e' * c * q = p - 1 := by rw [hc, hem, Nat.pow_succ, Nat.mul_assoc, Nat.mul_comm c q, Nat.mul_assoc]
        have hlt : q ^ e' * c < p - 1 := by
          rw [← hkp]
          have : q ^ e' * c * 1 < q ^ e' * c * q := Nat.mul_lt_mul_of_pos_left (by omega) hk0
          omega
        have : ∃ x : Fin p, x ≠ 0 ∧ pw x (q ^ e' * c) ≠ 1 := by
          false_or_by_contra
          rename_i hno
          have := pw_roots_le hp (q ^ e' * c) hk0 (nz p) nodup_nz (fun x hx => by
            false_or_by_contra
            rename_i h'
            exact hno ⟨x, mem_nz.1 hx, h'⟩)
          rw [nz_length] at this
          omega
        obtain ⟨x, hx0, hx⟩ := this
        refine ⟨pw x c, ?_⟩
        have hy0 : pw x c ≠ 0 := pw_ne_zero hp hx0 _
        obtain ⟨n, hn0, hn⟩ := exists_ord hp hy0
        have hy1 : pw (pw x c) d = 1 := by
          rw [← pw_mul, Nat.mul_comm, ← hc]
          exact fermat hp hx0
        have hnd : n ∣ q ^ (e' + 1) := hem ▸ (hn d).1 hy1
        have hnn : ¬ n ∣ q ^ e' := by
          intro h
          have := (hn _).2 h
          rw [← pw_mul, Nat.mul_comm] at this
          exact hx this
        -- n divides q^(e'+1) but not q^e'
        have key : ∀ e n, n ∣ q ^ (e + 1) → ¬ n ∣ q ^ e → n = q ^ (e + 1) := by
          intro e
          induction e with
          | zero =>
            intro n h h'
            simp at h h' ⊢
            rcases hq.2 n h with h2 | h2
            · exact absurd h2 h'
            · exact h2
          | succ e ih3 =>
            intro n h h'
            by_cases hqn : q ∣ n
            · obtain ⟨n', rfl⟩ := hqn
              have hq0 : 0 < q := by omega
              have e1 : n' ∣ q ^ (e + 1) := by
                rw [Nat.pow_succ, Nat.mul_comm (q ^ (e + 1)) q] at h
                exact Nat.dvd_of_mul_dvd_mul_left hq0 h
              have e2 : ¬ n' ∣ q ^ e := by
                intro hh
                apply h'
                rw [Nat.pow_succ, Nat.mul_comm (q ^ e) q]
                exact Nat.mul_dvd_mul_left q hh
              rw [ih3 n' e1 e2, Nat.pow_succ q (e + 1), Nat.mul_comm]
            · have hc1 : Nat.Coprime n (q ^ (e + 1 + 1)) := (Nat.Coprime.pow_left _ (hq.coprime hqn)).symm
              have : n = 1 := hc1.eq_one_of_dvd h
              subst this
              exact absurd (Nat.one_dvd _) h'
        rw [hem, ← key e' n hnd hnn]
        exact hn
      · have hlt1 : q ^ e < d := by
          rw [hem]
          have : q ^ e * 1 < q ^ e * m := Nat.mul_lt_mul_of_pos_left (by omega) (by omega)
          omega
        have hlt2 : m < d := by
          rw [hem]
          have : 1 * m < q ^ e * m := Nat.mul_lt_mul_of_pos_right (by omega) (by omega)
          omega
        obtain ⟨x, hx⟩ := ih (q ^ e) hlt1 (Nat.dvd_trans ⟨m, hem⟩ hd)
        obtain ⟨y, hy⟩ := ih m hlt2 (Nat.dvd_trans ⟨q ^ e, by rw [hem, Nat.mul_comm]⟩ hd)
        exact ⟨x * y, by rw [hem]; exact hx.mul hy hcop⟩
end field
end Zp

namespace Zp
section el
variable {p : Nat} [NeZero p]
theorem ppos : 0 < p := Nat.pos_of_ne_zero (NeZero.ne p)
def el (p : Nat) [NeZero p] (n : Int) : Fin p := ⟨(n % (p : Int)).toNat, by
  have h := ppos (p := p)
  have h1 := Int.emod_nonneg n (b := (p : Int)) (by omega)
  have h2 := Int.emod_lt_of_pos n (b := (p : Int)) (by omega)
  omega⟩
def fv (x : Fin p) : Int := (x.val : Int)
omit [NeZero p] in
theorem fv_nonneg (x : Fin p) : 0 ≤ fv x := Int.natCast_nonneg _
omit [NeZero p] in
theorem fv_lt (x : Fin p) : fv x < (p : Int) := by unfold fv; have := x.isLt; omega
omit [NeZero p] in
theorem fv_inj {x y : Fin p} (h : fv x = fv y) : x = y := Fin.ext (by unfold fv at h; omega)
omit [NeZero p] in
theorem fv_eq_iff {x y : Fin p} : fv x = fv y ↔ x = y := ⟨fv_inj, fun h => h ▸ rfl⟩
theorem fv_el (n : Int) : fv (el p n) = n % (p : Int) := by
  have h1 := Int.emod_nonneg n (b := (p : Int)) (by have := ppos (p := p); omega)
  show (((n % (p : Int)).toNat : Nat) : Int) = _
  omega
theorem el_of_fv {n : Int} {x : Fin p} (h : n % (p : Int) = fv x) : el p n = x := fv_inj (by rw [fv_el, h])
omit [NeZero p] in
theorem fv_emod (x : Fin p) : fv x % (p : Int) = fv x := Int.emod_eq_of_lt (fv_nonneg x) (fv_lt x)
theorem el_fv (x : Fin p) : el p (fv x) = x := el_of_fv (fv_emod x)
omit [NeZero p] in
theorem fv_add (x y : Fin p) : fv (x + y) = (fv x + fv y) % (p : Int) := by
  unfold fv; rw [Fin.val_add, Int.natCast_emod, Int.natCast_add]
omit [NeZero p] in
theorem fv_mul (x y : Fin p) : fv (x * y) = (fv x * fv y) % (p : Int) := by
  unfold fv; rw [Fin.val_mul, Int.natCast_emod, Int.natCast_mul]
theorem fv_zero : fv (0 : Fin p) = 0 := rfl
theorem fv_eq_zero {x : Fin p} : fv x = 0 ↔ x = 0 := by rw [← fv_zero (p := p), fv_eq_iff]
theorem fv_one (h : 2 ≤ p) : fv (1 : Fin p) = 1 := by
  show ((1 % p : Nat) : Int) = 1
  rw [Nat.mod_eq_of_lt (by omega)]; rfl
theorem fv_eq_one (h : 2 ≤ p) {x : Fin p} : fv x = 1 ↔ x = 1 := by rw [← fv_one h, fv_eq_iff]
theorem el_add (a b : Int) : el p (a + b) = el p a + el p b := fv_inj (by rw [fv_add, fv_el, fv_el, fv_el, ← Int.add_emod])
theorem el_zero : el p 0 = 0 := el_of_fv (by rw [fv_zero]; exact Int.zero_emod _)
theorem el_one : el p 1 = 1 := by
  apply fv_inj
  rw [fv_el]
  show (1 : Int) % (p : Int) = ((1 % p : Nat) : Int)
  rw [Int.natCast_emod]; rfl
theorem el_neg (a : Int) : el p (-a) = - el p a := by
  have h : el p (-a + a) = el p (-a) + el p a := el_add _ _
  rw [Int.add_left_neg, el_zero] at h
  grind
theorem el_sub (a b : Int) : el p (a - b) = el p a - el p b := by rw [Int.sub_eq_add_neg, el_add, el_neg]; grind
theorem el_eq_zero {a : Int} : el p a = 0 ↔ a % (p : Int) = 0 := by rw [← fv_eq_zero, fv_el]
theorem el_natCast_of_lt {n : Nat} (h : n < p) : fv (el p (n : Int)) = n := by rw [fv_el]; exact Int.emod_eq_of_lt (by omega) (by omega)
theorem map_el_fv (l : List (Fin p)) : (l.map fv).map (el p) = l := by
  rw [List.map_map]
  exact (List.map_congr_left (fun x _ => el_fv x)).trans (List.map_id _)
end el
section ord
variable {p : Nat} [NeZero p]
theorem prime_dvd_of_ne {d n : Nat} (hn : n ≠ 0) (h : d ∣ n) (hne : d ≠ n) : ∃ q, IsPrime q ∧ q ∣ n ∧ d ∣ n / q := by
  obtain ⟨m, rfl⟩ := h
  have hd : d ≠ 0 := by rintro rfl; simp at hn
  have hm : m ≠ 0 := by rintro rfl; simp at hn
  have hm1 : m ≠ 1 := by rintro rfl; simp at hne
  obtain ⟨q, hq, c, rfl⟩ := exists_prime_dvd m (by omega)
  refine ⟨q, hq, ⟨d * c, by rw [Nat.mul_left_comm]⟩, ⟨c, ?_⟩⟩
  rw [Nat.mul_left_comm, Nat.mul_div_cancel_left _ hq.pos]
theorem ord_of_primes {x : Fin p} {n : Nat} (hn : n ≠ 0) (h : pw x n = 1) (hp : IsPrime p) (hq : ∀ q, IsPrime q → q ∣ n → pw x (n / q) ≠ 1) : Ord x n := by
  have hx : x ≠ 0 := by
    rintro rfl
    rw [zero_pw n hn] at h
    exact one_ne_zero hp h.symm
  obtain ⟨d, hd, ho⟩ := exists_ord hp hx
  have hdn := (ho n).1 h
  by_cases he : d = n
  · exact he ▸ ho
  · obtain ⟨q, hqp, hqn, hdq⟩ := prime_dvd_of_ne hn hdn he
    exact absurd ((ho _).2 hdq) (hq q hqp hqn)
theorem strike_mono {x : Fin p} {n m q : Nat} (hq : 0 < q) (hmn : m ∣ n) (h : ¬ (q ∣ n ∧ pw x (n / q) = 1)) : ¬ (q ∣ m ∧ pw x (m / q) = 1) := by
  rintro ⟨⟨c, rfl⟩, h2⟩
  obtain ⟨k, rfl⟩ := hmn
  rw [Nat.mul_div_cancel_left _ hq] at h2
  refine h ⟨⟨c * k, by rw [Nat.mul_assoc]⟩, ?_⟩
  rw [Nat.mul_assoc, Nat.mul_div_cancel_left _ hq, pw_mul, h2, one_pw]
structure Facs (p : Nat) (fs : List Nat) : Prop where
  two : ∀ q ∈ fs, 2 ≤ q
  le : ∀ q ∈ fs, q ≤ p - 1
  all : ∀ q, IsPrime q → q ∣ p - 1 → q ∈ fs
structure Struck (x : Fin p) (fs : List Nat) (k n : Nat) : Prop where
  ne : n ≠ 0
  dvd : n ∣ p - 1
  one : pw x n = 1
  done : ∀ q ∈ fs.take k, ¬ (q ∣ n ∧ pw x (n / q) = 1)
theorem Struck.start (hp : IsPrime p) {x : Fin p} (hx : x ≠ 0) (fs : List Nat) : Struck x fs 0 (p - 1) :=
  ⟨by have := hp.1; omega, Nat.dvd_refl _, fermat hp hx, by simp⟩
theorem Struck.strike {x : Fin p} {fs : List Nat} {k n q : Nat} (h : Struck x fs k n) (hf : ∀ q ∈ fs, 2 ≤ q) (hq : 2 ≤ q) (hd : q ∣ n) (h1 : pw x (n / q) = 1) : Struck x fs k (n / q) := by
  have hdv : n / q ∣ n := Nat.div_dvd_of_dvd hd
  refine ⟨?_, Nat.dvd_trans hdv h.dvd, h1, fun r hr => strike_mono (by have := hf r (List.mem_of_mem_take hr); omega) hdv (h.done r hr)⟩
  have := Nat.le_of_dvd (Nat.pos_of_ne_zero h.ne) hd
  have := Nat.div_pos this (by omega)
  omega
theorem Struck.next {x : Fin p} {fs : List Nat} {k n : Nat} (h : Struck x fs k n) (hk : k < fs.length) (hq : ¬ (fs[k] ∣ n ∧ pw x (n / fs[k]) = 1)) : Struck x fs (k + 1) n := by
  refine ⟨h.ne, h.dvd, h.one, fun r hr => ?_⟩
  rw [List.take_succ_eq_append_getElem hk, List.mem_append] at hr
  rcases hr with hr | hr
  · exact h.done r hr
  · rw [List.mem_singleton] at hr
    subst hr
    exact hq
theorem Struck.ord (hp : IsPrime p) {x : Fin p} {fs : List Nat} {n : Nat} (hf : Facs p fs) (h : Struck x fs fs.length n) : Ord x n :=
  ord_of_primes h.ne h.one hp fun q hq hd h1 => h.done q (by rw [List.take_length]; exact hf.all q hq (Nat.dvd_trans hd h.dvd)) ⟨hd, h1⟩
def IsOrder (x : Fin p) (n : Nat) : Prop := (x = 0 ∧ n = 0) ∨ (x ≠ 0 ∧ Ord x n)
theorem IsOrder.unique (hp : IsPrime p) {x : Fin p} {m n : Nat} (h : IsOrder x m) (h' : IsOrder x n) : m = n := by
  rcases h with ⟨hx, rfl⟩ | ⟨hx, h⟩
  · rcases h' with ⟨_, rfl⟩ | ⟨hx', _⟩
    · rfl
    · exact absurd hx hx'
  · rcases h' with ⟨hx', rfl⟩ | ⟨_, h'⟩
    · exact absurd hx' hx
    · exact h.unique h'
noncomputable def ordN (x : Fin p) : Nat := by
  classical
  exact if h : ∃ n, IsOrder x n then Classical.choose h else 0
theorem ordN_eq (hp : IsPrime p) {x : Fin p} {n : Nat} (h : IsOrder x n) : ordN x = n := by
  have hex : ∃ n, IsOrder x n := ⟨n, h⟩
  unfold ordN
  rw [dif_pos hex]
  exact (Classical.choose_spec hex).unique hp h
theorem ordN_is (hp : IsPrime p) (x : Fin p) : IsOrder x (ordN x) := by
  by_cases hx : x = 0
  · have h : IsOrder x 0 := .inl ⟨hx, rfl⟩
    rw [ordN_eq hp h]; exact h
  · obtain ⟨d, _, h⟩ := exists_ord hp hx
    have h : IsOrder x d := .inr ⟨hx, h⟩
    rw [ordN_eq hp h]; exact h
theorem ordN_zero (hp : IsPrime p) : ordN (0 : Fin p) = 0 := ordN_eq hp (.inl ⟨rfl, rfl⟩)
theorem ordN_ord (hp : IsPrime p) {x : Fin p} (hx : x ≠ 0) : Ord x (ordN x) := by
  rcases ordN_is hp x with h | h
  · exact absurd h.1 hx
  · exact h.2
theorem ordN_of_ord (hp : IsPrime p) {x : Fin p} (hx : x ≠ 0) {n : Nat} (h : Ord x n) : ordN x = n := ordN_eq hp (.inr ⟨hx, h⟩)
def IsGen (p : Nat) [NeZero p] (g : Nat) : Prop := 1 ≤ g ∧ g < p ∧ Ord (el p (g : Int)) (p - 1) ∧ ∀ k : Nat, 1 ≤ k → k < g → ¬ Ord (el p (k : Int)) (p - 1)
theorem gen_exists (hp : IsPrime p) : ∃ r : Nat, 1 ≤ r ∧ r < p ∧ Ord (el p (r : Int)) (p - 1) := by
  obtain ⟨x, hx⟩ := ord_exists hp (p - 1) (Nat.dvd_refl _)
  have h2 := hp.1
  have hx0 : x ≠ 0 := hx.ne_zero hp (by omega)
  refine ⟨x.val, ?_, x.isLt, ?_⟩
  · rcases Nat.eq_zero_or_pos x.val with h | h
    · exact absurd (Fin.ext (by rw [val_zero']; exact h)) hx0
    · exact h
  · have : el p (x.val : Int) = x := el_fv x
    rw [this]; exact hx
theorem IsGen.unique {g k : Nat} (h : IsGen p g) (h' : IsGen p k) : g = k := by
  rcases Nat.lt_trichotomy g k with hlt | he | hlt
  · exact absurd h.2.2.1 (h'.2.2.2 g h.1 hlt)
  · exact he
  · exact absurd h'.2.2.1 (h.2.2.2 k h'.1 hlt)
theorem isGen_exists (hp : IsPrime p) : ∃ g, IsGen p g := by
  obtain ⟨r, h1, h2, h3⟩ := gen_exists hp
  have : ∀ n, (∃ r, 1 ≤ r ∧ r ≤ n ∧ r < p ∧ Ord (el p (r : Int)) (p - 1)) → ∃ g, IsGen p g := by
    intro n
    induction n with
    | zero => rintro ⟨r, h1, h2, _⟩; omega
    | succ n ih =>
      intro hex
      by_cases hn : ∃ r, 1 ≤ r ∧ r ≤ n ∧ r < p ∧ Ord (el p (r : Int)) (p - 1)
      · exact ih hn
      · obtain ⟨r, h1, h2, h3, h4⟩ := hex
        exact ⟨r, h1, h3, h4, fun k hk hkr hko => hn ⟨k, hk, by omega, by omega, hko⟩⟩
  exact this r ⟨r, h1, Nat.le_refl _, h2, h3⟩
noncomputable def genN (p : Nat) [NeZero p] : Nat := by
  classical
  exact if h : ∃ g, IsGen p g then Classical.choose h else 0
theorem genN_eq {g : Nat} (h : IsGen p g) : genN p = g := by
  have hex : ∃ g, IsGen p g := ⟨g, h⟩
  unfold genN
  rw [dif_pos hex]
  exact (Classical.choose_spec hex).unique h
theorem genN_is (hp : IsPrime p) : IsGen p (genN p) := by
  obtain ⟨g, h⟩ := isGen_exists hp
  rw [genN_eq h]; exact h
end ord
def NoDiv (n d : Nat) : Prop := ∀ e, 2 ≤ e → e < d → ¬ e ∣ n
theorem noDiv_two (n : Nat) : NoDiv n 2 := fun e h1 h2 => by omega
theorem NoDiv.succ {n d : Nat} (h : NoDiv n d) (hd : ¬ d ∣ n) : NoDiv n (d + 1) := fun e h1 h2 => by
  by_cases he : e = d
  · exact he ▸ hd
  · exact h e h1 (by omega)
theorem NoDiv.prime {n d : Nat} (h : NoDiv n d) (hn : 2 ≤ n) (hd : n < d * d) : IsPrime n := by
  refine ⟨hn, fun c hc => ?_⟩
  obtain ⟨m, rfl⟩ := hc
  have hc0 : c ≠ 0 := by rintro rfl; simp at hn
  have hm0 : m ≠ 0 := by rintro rfl; simp at hn
  by_cases hc1 : c = 1
  · exact .inl hc1
  · by_cases hm1 : m = 1
    · right; rw [hm1, Nat.mul_one]
    · exfalso
      have h1 : d ≤ c := by
        rcases Nat.lt_or_ge c d with hlt | hge
        · exact absurd ⟨m, rfl⟩ (h c (by omega) hlt)
        · exact hge
      have h2 : d ≤ m := by
        rcases Nat.lt_or_ge m d with hlt | hge
        · exact absurd ⟨c, Nat.mul_comm _ _⟩ (h m (by omega) hlt)
        · exact hge
      have := Nat.mul_le_mul h1 h2
      omega
theorem not_prime_of_dvd {n d : Nat} (hd : 2 ≤ d) (h : d * d ≤ n) (hdv : d ∣ n) : ¬ IsPrime n := fun hp => by
  have h1 : 2 * d ≤ d * d := Nat.mul_le_mul_right d hd
  rcases hp.2 d hdv with h' | h'
  · omega
  · omega
structure Apart (N : Nat) (out : List Nat) (n d : Nat) : Prop where
  pos : 0 < n
  two : ∀ q ∈ out, 2 ≤ q
  le : ∀ q ∈ out, q ≤ N
  dvd : n ∣ N
  no : NoDiv n d
  all : ∀ q, IsPrime q → q ∣ N → q ∈ out ∨ q ∣ n
theorem Apart.start {N : Nat} (h : 0 < N) : Apart N [] N 2 := ⟨h, by simp, by simp, Nat.dvd_refl _, noDiv_two _, fun _ _ h => .inr h⟩
theorem Apart.skip {N : Nat} {out : List Nat} {n d : Nat} (h : Apart N out n d) (hd : ¬ d ∣ n) : Apart N out n (d + 1) := ⟨h.pos, h.two, h.le, h.dvd, h.no.succ hd, h.all⟩
structure Striking (N : Nat) (out : List Nat) (n d : Nat) : Prop where
  pos : 0 < n
  two : ∀ q ∈ out, 2 ≤ q
  le : ∀ q ∈ out, q ≤ N
  dvd : n ∣ N
  no : NoDiv n d
  all : ∀ q, IsPrime q → q ∣ N → q ∈ out ++ [d] ∨ q ∣ n
  here : 2 ≤ d ∧ d ≤ N
theorem NoDiv.of_dvd {n m d : Nat} (h : NoDiv n d) (hm : m ∣ n) : NoDiv m d := fun e h1 h2 h3 => h e h1 h2 (Nat.dvd_trans h3 hm)
theorem Apart.hit {N : Nat} {out : List Nat} {n d : Nat} (h : Apart N out n d) (hd : d ∣ n) (h2 : 2 ≤ d) (hN : 0 < N) : Striking N out n d :=
  ⟨h.pos, h.two, h.le, h.dvd, h.no, fun q hq hqN => (h.all q hq hqN).imp (fun h => List.mem_append_left _ h) id, h2, Nat.le_of_dvd hN (Nat.dvd_trans hd h.dvd)⟩
theorem Striking.strike {N : Nat} {out : List Nat} {n d : Nat} (h : Striking N out n d) (hd : d ∣ n) : Striking N out (n / d) d := by
  have h2 := h.here.1
  have hdv : n / d ∣ n := Nat.div_dvd_of_dvd hd
  refine ⟨Nat.div_pos (Nat.le_of_dvd h.pos hd) (by omega), h.two, h.le, Nat.dvd_trans hdv h.dvd, h.no.of_dvd hdv, fun q hq hqN => ?_, h.here⟩
  rcases h.all q hq hqN with h' | h'
  · exact .inl h'
  · obtain ⟨c, rfl⟩ := hd
    rw [Nat.mul_div_cancel_left _ (by omega)]
    rcases hq.dvd_mul h' with h3 | h3
    · left
      rw [List.mem_append]
      right
      rw [List.mem_singleton]
      -- q divides d; q < d would have been struck out
      rcases Nat.lt_or_ge q d with hlt | hge
      · exact absurd (Nat.dvd_trans h3 (Nat.dvd_mul_right d c)) (h.no q hq.1 hlt)
      · exact Nat.le_antisymm (Nat.le_of_dvd (by omega) h3) hge
    · exact .inr h3
theorem Striking.done {N : Nat} {out : List Nat} {n d : Nat} (h : Striking N out n d) (hd : ¬ d ∣ n) : Apart N (out ++ [d]) n (d + 1) :=
  ⟨h.pos, fun q hq => by
    rcases List.mem_append.1 hq with h' | h'
    · exact h.two q h'
    · rw [List.mem_singleton.1 h']; exact h.here.1, fun q hq => by
    rcases List.mem_append.1 hq with h' | h'
    · exact h.le q h'
    · rw [List.mem_singleton.1 h']; exact h.here.2, h.dvd, h.no.succ hd, h.all⟩
theorem Apart.last {N : Nat} {out : List Nat} {n d : Nat} (h : Apart N out n d) (hN : 0 < N) (hd : n < d * d) (h1 : 1 < n) :
    (∀ q ∈ out ++ [n], 2 ≤ q) ∧ (∀ q ∈ out ++ [n], q ≤ N) ∧ ∀ q, IsPrime q → q ∣ N → q ∈ out ++ [n] := by
  have hnp : IsPrime n := h.no.prime h1 hd
  refine ⟨fun q hq => ?_, fun q hq => ?_, fun q hq hqN => ?_⟩
  · rcases List.mem_append.1 hq with h' | h'
    · exact h.two q h'
    · rw [List.mem_singleton.1 h']; exact h1
  · rcases List.mem_append.1 hq with h' | h'
    · exact h.le q h'
    · rw [List.mem_singleton.1 h']; exact Nat.le_of_dvd hN h.dvd
  · rcases h.all q hq hqN with h' | h'
    · exact List.mem_append_left _ h'
    · rcases hnp.2 q h' with h3 | h3
      · have := hq.1; omega
      · exact List.mem_append_right _ (by simp [h3])
theorem Apart.none {N : Nat} {out : List Nat} {n d : Nat} (h : Apart N out n d) (h1 : ¬ 1 < n) :
    (∀ q ∈ out, 2 ≤ q) ∧ (∀ q ∈ out, q ≤ N) ∧ ∀ q, IsPrime q → q ∣ N → q ∈ out := by
  refine ⟨h.two, h.le, fun q hq hqN => (h.all q hq hqN).resolve_right fun h' => ?_⟩
  have := Nat.le_of_dvd h.pos h'
  have := hq.1
  omega
theorem pow_step {p : Nat} [NeZero p] (a : Fin p) (n : Nat) : pw a n = (if n % 2 = 1 then a else 1) * pw (a * a) (n / 2) := by
  have e : n = n % 2 + 2 * (n / 2) := by omega
  have h : pw a (2 * (n / 2)) = pw (a * a) (n / 2) := by rw [pw_mul]; congr 1; simp only [pw]; grind
  rw [show pw a n = pw a (n % 2 + 2 * (n / 2)) from by rw [← e], pw_add, h]
  congr 1
  rcases Nat.mod_two_eq_zero_or_one n with h0 | h0
  · rw [h0]; rfl
  · rw [h0, pw_one]; rfl
end Zp

namespace Zp
section pl
variable {p : Nat} [NeZero p]
abbrev els (p : Nat) [NeZero p] (xs : List Int) : List (Fin p) := xs.map (el p)
abbrev fvs (l : List (Fin p)) : List Int := l.map fv
theorem els_fvs (l : List (Fin p)) : els p (fvs l) = l := map_el_fv l
def trimL : List (Fin p) → List (Fin p)
  | [] => []
  | c :: cs => match trimL cs with
    | [] => if c = 0 then [] else [c]
    | d :: ds => c :: d :: ds
structure TrimAt (l : List (Fin p)) (n : Nat) : Prop where
  le : n ≤ l.length
  zero : ∀ i x, n ≤ i → l[i]? = some x → x = 0
  last : n = 0 ∨ ∃ x, l[n - 1]? = some x ∧ x ≠ 0
theorem TrimAt.unique {l : List (Fin p)} {m n : Nat} (h : TrimAt l m) (k : TrimAt l n) : m = n := by
  rcases Nat.lt_trichotomy m n with hlt | he | hlt
  · rcases k.last with h0 | ⟨x, hx, hx0⟩
    · omega
    · exact absurd (h.zero _ x (by omega) hx) hx0
  · exact he
  · rcases h.last with h0 | ⟨x, hx, hx0⟩
    · omega
    · exact absurd (k.zero _ x (by omega) hx) hx0
theorem trimL_cons (c : Fin p) (cs : List (Fin p)) : trimL (c :: cs) = if trimL cs = [] then (if c = 0 then [] else [c]) else c :: trimL cs := by
  show (match trimL cs with | [] => if c = 0 then [] else [c] | d :: ds => c :: d :: ds) = _
  cases h : trimL cs with
  | nil => simp
  | cons d ds => simp
theorem trimL_take (l : List (Fin p)) : trimL l = l.take (trimL l).length ∧ TrimAt l (trimL l).length := by
  induction l with
  | nil => exact ⟨rfl, by simp [trimL], by simp, .inl rfl⟩
  | cons c cs ih =>
    obtain ⟨h1, h2⟩ := ih
    rw [trimL_cons]
    by_cases h : trimL cs = []
    · rw [if_pos h]
      rw [h] at h2
      have hz : ∀ (i : Nat) (x : Fin p), cs[i]? = some x → x = 0 := fun i x hx => h2.zero i x (Nat.zero_le _) hx
      by_cases hc : c = 0
      · rw [if_pos hc]
        refine ⟨rfl, by simp, fun i x _ hx => ?_, .inl rfl⟩
        cases i with
        | zero => simp at hx; rw [← hx]; exact hc
        | succ i => exact hz i x (by simpa using hx)
      · rw [if_neg hc]
        refine ⟨by simp, by simp, fun i x hi hx => ?_, .inr ⟨c, by simp, hc⟩⟩
        cases i with
        | zero => simp at hi
        | succ i => exact hz i x (by simpa using hx)
    · rw [if_neg h]
      refine ⟨by rw [List.length_cons, List.take_succ_cons, ← h1], by have := h2.le; simp; omega, fun i x hi hx => ?_, .inr ?_⟩
      · cases i with
        | zero => simp at hi
        | succ i => exact h2.zero i x (by simpa using hi) (by simpa using hx)
      · rcases h2.last with h0 | ⟨x, hx, hx0⟩
        · exact absurd (List.length_eq_zero_iff.1 h0) h
        · refine ⟨x, ?_, hx0⟩
          have : (trimL cs).length ≠ 0 := fun h0 => h (List.length_eq_zero_iff.1 h0)
          rw [List.length_cons, Nat.add_sub_cancel, List.getElem?_cons, if_neg this]
          exact hx
theorem trimL_at (l : List (Fin p)) : TrimAt l (trimL l).length := (trimL_take l).2
theorem trimL_eq_take (l : List (Fin p)) : trimL l = l.take (trimL l).length := (trimL_take l).1
theorem TrimAt.length {l : List (Fin p)} {n : Nat} (h : TrimAt l n) : (trimL l).length = n := (trimL_at l).unique h
theorem TrimAt.trim {l : List (Fin p)} {n : Nat} (h : TrimAt l n) : trimL l = l.take n := by rw [trimL_eq_take, h.length]
theorem trimL_length_le (l : List (Fin p)) : (trimL l).length ≤ l.length := (trimL_at l).le
theorem trimL_getLast {l : List (Fin p)} (h : trimL l ≠ []) : (trimL l).getLast h ≠ 0 := by
  rcases (trimL_at l).last with h0 | ⟨x, hx, hx0⟩
  · exact absurd (List.length_eq_zero_iff.1 h0) h
  · have hn : (trimL l).length ≠ 0 := fun h0 => h (List.length_eq_zero_iff.1 h0)
    rw [List.getLast_eq_getElem]
    have : (trimL l)[(trimL l).length - 1]? = some x := by
      rw [trimL_eq_take l, List.getElem?_take]
      rw [List.length_take, Nat.min_eq_left (trimL_length_le l), if_pos (by omega)]
      exact hx
    rw [List.getElem?_eq_getElem (by omega)] at this
    injection this with this
    rw [this]; exact hx0
def degL (l : List (Fin p)) : Int := ((trimL l).length : Int) - 1
def co (l : List (Fin p)) (i : Nat) : Fin p := l[i]?.getD 0
theorem co_nil (i : Nat) : co ([] : List (Fin p)) i = 0 := by simp [co]
theorem co_cons_zero (c : Fin p) (cs : List (Fin p)) : co (c :: cs) 0 = c := by simp [co]
theorem co_cons_succ (c : Fin p) (cs : List (Fin p)) (i : Nat) : co (c :: cs) (i + 1) = co cs i := by simp [co]
theorem co_of_ge {l : List (Fin p)} {i : Nat} (h : l.length ≤ i) : co l i = 0 := by simp [co, List.getElem?_eq_none h]
theorem co_of_lt {l : List (Fin p)} {i : Nat} (h : i < l.length) : co l i = l[i] := by simp [co, List.getElem?_eq_getElem h]
theorem co_trim (l : List (Fin p)) (i : Nat) : co (trimL l) i = co l i := by
  rw [trimL_eq_take l]
  unfold co
  rw [List.getElem?_take]
  by_cases h : i < (trimL l).length
  · rw [if_pos h]
  · rw [if_neg h]
    cases hx : l[i]? with
    | none => rfl
    | some x => rw [(trimL_at l).zero i x (by omega) hx]; rfl
theorem trimAt_iff_co {l : List (Fin p)} {n : Nat} : TrimAt l n ↔ (∀ i, n ≤ i → co l i = 0) ∧ (n = 0 ∨ co l (n - 1) ≠ 0) := by
  constructor
  · intro h
    refine ⟨fun i hi => ?_, h.last.imp id ?_⟩
    · unfold co
      cases hx : l[i]? with
      | none => rfl
      | some x => exact h.zero i x hi hx
    · rintro ⟨x, hx, h0⟩
      unfold co
      rw [hx]; exact h0
  · rintro ⟨h1, h2⟩
    have hx : ∀ i x, n ≤ i → l[i]? = some x → x = 0 := fun i x hi hx => by
      have := h1 i hi
      unfold co at this
      rw [hx] at this
      exact this
    rcases h2 with h2 | h2
    · exact ⟨by omega, hx, .inl h2⟩
    · have hlt : n - 1 < l.length := by
        rcases Nat.lt_or_ge (n - 1) l.length with h | h
        · exact h
        · exact absurd (co_of_ge h) h2
      rcases Nat.eq_zero_or_pos n with h0 | h0
      · exact ⟨by omega, hx, .inl h0⟩
      · exact ⟨by omega, hx, .inr ⟨l[n - 1], List.getElem?_eq_getElem hlt, by rw [← co_of_lt hlt]; exact h2⟩⟩
theorem trimL_congr {l m : List (Fin p)} (h : ∀ i, co l i = co m i) : trimL l = trimL m := by
  have hn : (trimL l).length = (trimL m).length := by
    refine TrimAt.length ?_
    have := trimAt_iff_co.1 (trimL_at m)
    exact trimAt_iff_co.2 ⟨fun i hi => by rw [h]; exact this.1 i hi, this.2.imp id (fun h' => by rw [h]; exact h')⟩
  apply List.ext_getElem hn
  intro i h1 h2
  rw [← co_of_lt h1, ← co_of_lt h2, co_trim, co_trim, h]
theorem trimL_trim (l : List (Fin p)) : trimL (trimL l) = trimL l := trimL_congr (co_trim l)
theorem ev_all_zero {l : List (Fin p)} (h : ∀ i, co l i = 0) (x : Fin p) : ev l x = 0 := by
  induction l with
  | nil => rfl
  | cons c cs ih =>
    have h0 := h 0
    rw [co_cons_zero] at h0
    rw [ev, ih (fun i => by rw [← co_cons_succ c]; exact h (i + 1)), h0]
    grind
theorem ev_congr : ∀ {l m : List (Fin p)}, (∀ i, co l i = co m i) → ∀ x, ev l x = ev m x
  | [], m, h, x => by rw [ev_all_zero (l := m) (fun i => by rw [← h i, co_nil])]; rfl
  | c :: cs, [], h, x => by rw [ev_all_zero (l := c :: cs) (fun i => by rw [h i, co_nil])]; rfl
  | c :: cs, d :: ds, h, x => by
    have h0 := h 0
    rw [co_cons_zero, co_cons_zero] at h0
    rw [ev, ev, ev_congr (l := cs) (m := ds) (fun i => by rw [← co_cons_succ c, ← co_cons_succ d]; exact h (i + 1)), h0]
theorem ev_trim (l : List (Fin p)) (x : Fin p) : ev (trimL l) x = ev l x := ev_congr (co_trim l) x
theorem roots_lt (hp : IsPrime p) {l : List (Fin p)} (hl : 0 < (trimL l).length) {xs : List (Fin p)} (hx : xs.Nodup) (hr : ∀ x ∈ xs, ev l x = 0) : xs.length < (trimL l).length := by
  have hne : trimL l ≠ [] := fun h => by rw [h] at hl; simp at hl
  have := roots_le hp (trimL l).length (trimL l) rfl hne (trimL_getLast hne) xs hx (fun x h => by rw [ev_trim]; exact hr x h)
  omega
theorem zero_of_roots (hp : IsPrime p) {l : List (Fin p)} {xs : List (Fin p)} (hx : xs.Nodup) (hr : ∀ x ∈ xs, ev l x = 0) (hl : l.length ≤ xs.length) : trimL l = [] := by
  rcases Nat.eq_zero_or_pos (trimL l).length with h | h
  · exact List.length_eq_zero_iff.1 h
  · have := roots_lt hp h hx hr
    have := trimL_length_le l
    omega
def ndB (l : List (Fin p)) : Bool := decide l.Nodup
omit [NeZero p] in
theorem ndB_true {l : List (Fin p)} (h : l.Nodup) : ndB l = true := decide_eq_true h
omit [NeZero p] in
theorem ndB_false {l : List (Fin p)} (h : ¬ l.Nodup) : ndB l = false := decide_eq_false h
omit [NeZero p] in
theorem nodup_of_lt {l : List (Fin p)} (h : ∀ i k (hi : i < l.length) (hk : k < i), l[i] ≠ l[k]) : l.Nodup := by
  rw [List.nodup_iff_pairwise_ne, List.pairwise_iff_getElem]
  intro i j hi hj hij e
  exact h j i hj hij e.symm
omit [NeZero p] in
theorem not_nodup {l : List (Fin p)} {i k : Nat} (hi : i < l.length) (hk : k < i) (h : l[i] = l[k]) : ¬ l.Nodup := by
  rw [List.nodup_iff_pairwise_ne, List.pairwise_iff_getElem]
  exact fun hn => hn k i (by omega) hi hk h.symm
end pl
end Zp

namespace Zp
section pm
variable {p : Nat} [NeZero p]
def tab (n : Nat) (f : Nat → Fin p) : List (Fin p) := (List.range n).map f
omit [NeZero p] in
theorem tab_length (n : Nat) (f : Nat → Fin p) : (tab n f).length = n := by simp [tab]
theorem co_tab (n : Nat) (f : Nat → Fin p) (i : Nat) : co (tab n f) i = if i < n then f i else 0 := by
  by_cases h : i < n
  · rw [if_pos h, co_of_lt (by rw [tab_length]; exact h)]; simp [tab]
  · rw [if_neg h, co_of_ge (by rw [tab_length]; omega)]
omit [NeZero p] in
theorem tab_get (n : Nat) (f : Nat → Fin p) (i : Nat) (h : i < (tab n f).length) : (tab n f)[i] = f i := by simp [tab]
omit [NeZero p] in
theorem tab_succ (n : Nat) (f : Nat → Fin p) : tab (n + 1) f = tab n f ++ [f n] := by simp [tab, List.range_succ]
theorem ext_co {l m : List (Fin p)} (hl : l.length = m.length) (h : ∀ i, i < l.length → co l i = co m i) : l = m := by
  apply List.ext_getElem hl
  intro i h1 h2
  rw [← co_of_lt h1, ← co_of_lt h2, h i h1]
def addL (a b : List (Fin p)) : List (Fin p) := tab (max a.length b.length) (fun i => co a i + co b i)
def subL (a b : List (Fin p)) : List (Fin p) := tab (max a.length b.length) (fun i => co a i - co b i)
def smulL (c : Fin p) (a : List (Fin p)) : List (Fin p) := a.map (c * ·)
theorem co_addL (a b : List (Fin p)) (i : Nat) : co (addL a b) i = co a i + co b i := by
  rw [addL, co_tab]
  split
  · rfl
  · rw [co_of_ge (l := a) (by omega), co_of_ge (l := b) (by omega)]; grind
theorem co_subL (a b : List (Fin p)) (i : Nat) : co (subL a b) i = co a i - co b i := by
  rw [subL, co_tab]
  split
  · rfl
  · rw [co_of_ge (l := a) (by omega), co_of_ge (l := b) (by omega)]; grind
theorem co_smulL (c : Fin p) (a : List (Fin p)) (i : Nat) : co (smulL c a) i = c * co a i := by
  unfold co smulL
  rw [List.getElem?_map]
  cases a[i]? with
  | none => simp; grind
  | some x => rfl
def mulL : List (Fin p) → List (Fin p) → List (Fin p)
  | [], _ => []
  | x :: a, b => addL (smulL x b) (0 :: mulL a b)
theorem co_mulL_cons (x : Fin p) (a b : List (Fin p)) (m : Nat) : co (mulL (x :: a) b) m = x * co b m + if m = 0 then 0 else co (mulL a b) (m - 1) := by
  rw [mulL, co_addL, co_smulL]
  cases m with
  | zero => simp [co_cons_zero]
  | succ m => simp [co_cons_succ]
theorem ev_tab_succ (n : Nat) (f : Nat → Fin p) (x : Fin p) : ev (tab (n + 1) f) x = f 0 + x * ev (tab n (fun i => f (i + 1))) x := by
  unfold tab
  rw [List.range_succ_eq_map, List.map_cons, ev, List.map_map]
  rfl
theorem ev_tab_add (n : Nat) (f g : Nat → Fin p) (x : Fin p) : ev (tab n (fun i => f i + g i)) x = ev (tab n f) x + ev (tab n g) x := by
  induction n generalizing f g with
  | zero => simp only [tab, List.range_zero, List.map_nil, ev]; grind
  | succ n ih => rw [ev_tab_succ, ev_tab_succ, ev_tab_succ, ih]; grind
theorem ev_tab_co {l : List (Fin p)} {n : Nat} (h : l.length ≤ n) (x : Fin p) : ev (tab n (co l)) x = ev l x := ev_congr (fun i => by
  rw [co_tab]
  split
  · rfl
  · rw [co_of_ge (by omega)]) x
theorem ev_addL (a b : List (Fin p)) (x : Fin p) : ev (addL a b) x = ev a x + ev b x := by
  rw [addL, ev_tab_add, ev_tab_co (by omega), ev_tab_co (by omega)]
theorem ev_smulL (c : Fin p) (a : List (Fin p)) (x : Fin p) : ev (smulL c a) x = c * ev a x := by
  induction a with
  | nil => simp only [smulL, List.map_nil, ev]; grind
  | cons d a ih =>
    have : smulL c (d :: a) = c * d :: smulL c a := rfl
    rw [this, ev, ev, ih]; grind
theorem ev_subL (a b : List (Fin p)) (x : Fin p) : ev (subL a b) x = ev a x - ev b x := by
  have h : ev (subL a b) x = ev (addL a (smulL (-1) b)) x := ev_congr (fun i => by rw [co_subL, co_addL, co_smulL]; grind) x
  rw [h, ev_addL, ev_smulL]; grind
theorem ev_mulL (b : List (Fin p)) (x : Fin p) : ∀ a : List (Fin p), ev (mulL a b) x = ev a x * ev b x
  | [] => by simp only [mulL, ev]; grind
  | y :: a => by
    rw [mulL, ev_addL, ev_smulL, ev, ev_mulL b x a, ev]; grind
theorem co_mulL_zero_left {a : List (Fin p)} (h : ∀ i, co a i = 0) (b : List (Fin p)) (m : Nat) : co (mulL a b) m = 0 := by
  induction a generalizing m with
  | nil => exact co_nil m
  | cons x a ih =>
    have h0 := h 0
    rw [co_cons_zero] at h0
    rw [co_mulL_cons, h0]
    have ih' := ih (fun i => by rw [← co_cons_succ x]; exact h (i + 1)) (m - 1)
    rw [ih']
    split <;> grind
theorem co_mulL_zero_right {b : List (Fin p)} (h : ∀ i, co b i = 0) : ∀ (a : List (Fin p)) (m : Nat), co (mulL a b) m = 0
  | [], m => co_nil m
  | x :: a, m => by
    rw [co_mulL_cons, h, co_mulL_zero_right h a]
    split <;> grind
theorem co_mulL_congr_right {b b' : List (Fin p)} (h : ∀ i, co b i = co b' i) : ∀ (a : List (Fin p)) (m : Nat), co (mulL a b) m = co (mulL a b') m
  | [], m => rfl
  | x :: a, m => by rw [co_mulL_cons, co_mulL_cons, h, co_mulL_congr_right h a]
theorem co_mulL_congr_left {b : List (Fin p)} : ∀ {a a' : List (Fin p)} (h : ∀ i, co a i = co a' i) (m : Nat), co (mulL a b) m = co (mulL a' b) m
  | [], a', h, m => by rw [co_mulL_zero_left (a := a') (fun i => by rw [← h i, co_nil])]; exact co_nil m
  | x :: a, [], h, m => by rw [co_mulL_zero_left (a := x :: a) (fun i => by rw [h i, co_nil])]; exact (co_nil m).symm
  | x :: a, y :: a', h, m => by
    have h0 := h 0
    rw [co_cons_zero, co_cons_zero] at h0
    rw [co_mulL_cons, co_mulL_cons, h0, co_mulL_congr_left (a := a) (a' := a') (fun i => by rw [← co_cons_succ x, ← co_cons_succ y]; exact h (i + 1))]
theorem co_mulL_congr {a a' b b' : List (Fin p)} (ha : ∀ i, co a i = co a' i) (hb : ∀ i, co b i = co b' i) (m : Nat) : co (mulL a b) m = co (mulL a' b') m := by
  rw [co_mulL_congr_left ha, co_mulL_congr_right hb]
theorem co_mulL_ge (b : List (Fin p)) : ∀ (a : List (Fin p)) (m : Nat), a.length + b.length ≤ m + 1 → co (mulL a b) m = 0
  | [], m, _ => co_nil m
  | x :: a, m, h => by
    rw [List.length_cons] at h
    rw [co_mulL_cons, co_of_ge (l := b) (by omega)]
    by_cases hm : m = 0
    · rw [if_pos hm]; grind
    · rw [if_neg hm, co_mulL_ge b a (m - 1) (by omega)]; grind
end pm
end Zp

namespace Zp
theorem two_pow_iff (n : Nat) (h1 : 1 ≤ n) : (n &&& (n - 1)) = 0 ↔ ∃ k, n = 2 ^ k := Nat.and_sub_one_eq_zero_iff_isPowerOfTwo (by omega)
section dm
variable {p : Nat} [NeZero p]
noncomputable def rootI (p : Nat) [NeZero p] (n : Int) : Fin p := if 0 < n ∧ ((p : Int) - 1) % n = 0 then pw (el p (genN p : Int)) (((p : Int) - 1) / n).toNat else 0
theorem rootI_no {n : Int} (h : ¬ (0 < n ∧ ((p : Int) - 1) % n = 0)) : rootI p n = 0 := if_neg h
theorem rootI_nat {n : Nat} (h0 : 0 < n) (hd : n ∣ p - 1) (hp : 1 ≤ p) : rootI p (n : Int) = pw (el p (genN p : Int)) ((p - 1) / n) := by
  have e : ((p : Int) - 1) = ((p - 1 : Nat) : Int) := by omega
  rw [rootI, if_pos ⟨by omega, by rw [e, ← Int.natCast_emod, Nat.mod_eq_zero_of_dvd hd]; rfl⟩, e, ← Int.natCast_ediv]
  rfl
theorem rootI_ord (hp : IsPrime p) {n : Nat} (h0 : 0 < n) (hd : n ∣ p - 1) : Ord (rootI p (n : Int)) n := by
  rw [rootI_nat h0 hd (by have := hp.1; omega)]
  have hg := (genN_is hp).2.2.1
  intro k
  rw [← pw_mul, hg]
  obtain ⟨c, hc⟩ := hd
  have hp1 := hp.1
  have hc0 : 0 < c := by
    rcases Nat.eq_zero_or_pos c with h | h
    · rw [h, Nat.mul_zero] at hc; omega
    · exact h
  rw [hc, Nat.mul_div_cancel_left _ h0, Nat.mul_comm n c]
  exact ⟨fun h => Nat.dvd_of_mul_dvd_mul_left hc0 h, fun h => Nat.mul_dvd_mul_left c h⟩
theorem ord_half (hp : IsPrime p) {r : Fin p} {m : Nat} (hm : 0 < m) (h : Ord r (2 * m)) : pw r m = -1 := by
  have h1 : pw r m * pw r m = 1 := by rw [← pw_add]; rw [show m + m = 2 * m from by omega]; exact h.one
  have h2 : pw r m ≠ 1 := fun e => by
    have := Nat.le_of_dvd hm ((h m).1 e)
    omega
  have h3 : (pw r m - 1) * (pw r m + 1) = 0 := by grind
  rcases mul_eq_zero hp h3 with h4 | h4
  · exact absurd (by grind) h2
  · grind
def evens : List (Fin p) → List (Fin p)
  | [] => []
  | [x] => [x]
  | x :: _ :: l => x :: evens l
def odds : List (Fin p) → List (Fin p)
  | [] => []
  | [_] => []
  | _ :: y :: l => y :: odds l
theorem ev_halves (x : Fin p) : ∀ l : List (Fin p), ev l x = ev (evens l) (x * x) + x * ev (odds l) (x * x)
  | [] => by simp only [evens, odds, ev]; grind
  | [a] => by simp only [evens, odds, ev]; grind
  | a :: b :: l => by
    have ih := ev_halves x l
    simp only [evens, odds, ev]
    rw [ih]
    grind
omit [NeZero p] in
theorem evens_length : ∀ (l : List (Fin p)) (m : Nat), l.length = 2 * m → (evens l).length = m ∧ (odds l).length = m
  | [], m, h => by simp at h; simp [evens, odds]; omega
  | [_], m, h => by simp at h; omega
  | _ :: _ :: l, m, h => by
    simp at h
    obtain ⟨m', rfl⟩ : ∃ m', m = m' + 1 := ⟨m - 1, by omega⟩
    have := evens_length l m' (by omega)
    simp [evens, odds, this]
def dft (r : Fin p) (n : Nat) (l : List (Fin p)) : List (Fin p) := tab n (fun i => ev l (pw r i))
theorem dft_length (r : Fin p) (n : Nat) (l : List (Fin p)) : (dft r n l).length = n := tab_length _ _
theorem dft_lo (r : Fin p) (l : List (Fin p)) (i : Nat) : ev l (pw r i) = ev (evens l) (pw (r * r) i) + pw r i * ev (odds l) (pw (r * r) i) := by
  rw [ev_halves, mul_pw]
theorem dft_hi {r : Fin p} {m : Nat} (h : pw r m = -1) (l : List (Fin p)) (i : Nat) : ev l (pw r (i + m)) = ev (evens l) (pw (r * r) i) - pw r i * ev (odds l) (pw (r * r) i) := by
  have e1 : pw r (i + m) = - pw r i := by rw [pw_add, h]; grind
  have e2 : pw r (i + m) * pw r (i + m) = pw (r * r) i := by rw [e1, mul_pw]; grind
  rw [ev_halves, e2, e1]
  grind
theorem co_evens : ∀ (l : List (Fin p)) (t : Nat), co (evens l) t = co l (2 * t)
  | [], t => by rw [evens, co_nil, co_nil]
  | [x], t => by rw [evens]; cases t with
    | zero => rfl
    | succ t => rw [co_of_ge (by simp), co_of_ge (by simp; omega)]
  | x :: y :: l, t => by rw [evens]; cases t with
    | zero => rfl
    | succ t => rw [co_cons_succ, co_evens l t, show 2 * (t + 1) = 2 * t + 1 + 1 from by omega, co_cons_succ, co_cons_succ]
theorem co_odds : ∀ (l : List (Fin p)) (t : Nat), co (odds l) t = co l (2 * t + 1)
  | [], t => by rw [odds, co_nil, co_nil]
  | [x], t => by rw [odds, co_nil, co_of_ge (by simp)]
  | x :: y :: l, t => by rw [odds]; cases t with
    | zero => rfl
    | succ t => rw [co_cons_succ, co_odds l t, show 2 * (t + 1) + 1 = 2 * t + 1 + 1 + 1 from by omega, co_cons_succ, co_cons_succ]
def evI (xs : List Int) (j : Nat) : List Int := (List.range ((j + 1) / 2)).map (fun t => xs.getD (2 * t) 0)
def odI (xs : List Int) (j : Nat) : List Int := (List.range (j / 2)).map (fun t => xs.getD (2 * t + 1) 0)
theorem evI_even {xs : List Int} {j : Nat} (h : j % 2 = 0) (hj : j < xs.length) : evI xs j ++ [xs[j]] = evI xs (j + 1) ∧ odI xs (j + 1) = odI xs j := by
  refine ⟨?_, ?_⟩
  · unfold evI
    rw [show (j + 1 + 1) / 2 = (j + 1) / 2 + 1 from by omega, List.range_succ, List.map_append]
    congr 1
    rw [List.map_singleton, show 2 * ((j + 1) / 2) = j from by omega, List.getD_eq_getElem?_getD, List.getElem?_eq_getElem hj]; rfl
  · unfold odI
    rw [show (j + 1) / 2 = j / 2 from by omega]
theorem odI_odd {xs : List Int} {j : Nat} (h : ¬ j % 2 = 0) (hj : j < xs.length) : odI xs j ++ [xs[j]] = odI xs (j + 1) ∧ evI xs (j + 1) = evI xs j := by
  refine ⟨?_, ?_⟩
  · unfold odI
    rw [show (j + 1) / 2 = j / 2 + 1 from by omega, List.range_succ, List.map_append]
    congr 1
    rw [List.map_singleton, show 2 * (j / 2) + 1 = j from by omega, List.getD_eq_getElem?_getD, List.getElem?_eq_getElem hj]; rfl
  · unfold evI
    rw [show (j + 1 + 1) / 2 = (j + 1) / 2 from by omega]
theorem evI_mem {xs : List Int} {P : Int → Prop} (h0 : P 0) (h : ∀ x ∈ xs, P x) (j : Nat) : (∀ x ∈ evI xs j, P x) ∧ ∀ x ∈ odI xs j, P x := by
  have hg : ∀ t, P (xs.getD t 0) := fun t => by
    rw [List.getD_eq_getElem?_getD]
    cases e : xs[t]? with
    | none => exact h0
    | some x => exact h x (List.mem_of_getElem? e)
  refine ⟨fun x hx => ?_, fun x hx => ?_⟩ <;> (obtain ⟨t, _, rfl⟩ := List.mem_map.1 hx; exact hg _)
theorem co_els (xs : List Int) (t : Nat) : co (els p xs) t = el p (xs.getD t 0) := by
  unfold co
  rw [List.getElem?_map, List.getD_eq_getElem?_getD]
  cases xs[t]? with
  | none => exact el_zero.symm
  | some x => rfl
theorem els_evI {xs : List Int} {m : Nat} (h : xs.length = 2 * m) : els p (evI xs (2 * m)) = evens (els p xs) ∧ els p (odI xs (2 * m)) = odds (els p xs) := by
  obtain ⟨h1, h2⟩ := evens_length (els p xs) m (by simpa using h)
  refine ⟨ext_co (by simp [evI, h1]; omega) fun i hi => ?_, ext_co (by simp [odI, h2]) fun i hi => ?_⟩
  · rw [co_evens, co_els, co_els]
    have : i < (2 * m + 1) / 2 := by simpa [evI] using hi
    congr 1
    simp [evI, List.getD_eq_getElem?_getD, this]
  · rw [co_odds, co_els, co_els]
    have : i < 2 * m / 2 := by simpa [odI] using hi
    congr 1
    have h3 : i < m := by omega
    simp [odI, List.getD_eq_getElem?_getD, h3]
theorem ev_snoc (y c : Fin p) : ∀ l : List (Fin p), ev (l ++ [c]) y = ev l y + c * pw y l.length
  | [] => by simp only [List.nil_append, ev, List.length_nil, pw_zero]; grind
  | a :: l => by
    have ih := ev_snoc y c l
    rw [List.cons_append, ev, ev, ih, List.length_cons, pw_succ]
    grind
theorem ev_set (y c : Fin p) : ∀ (l : List (Fin p)) (j : Nat), j < l.length → ev (l.set j (co l j + c)) y = ev l y + c * pw y j
  | [], j, h => by simp at h
  | a :: l, 0, _ => by
    rw [List.set_cons_zero, co_cons_zero, ev, ev, pw_zero]
    grind
  | a :: l, j + 1, h => by
    have ih := ev_set y c l j (by simpa using h)
    rw [List.set_cons_succ, co_cons_succ, ev, ev, ih, pw_succ]
    grind
def valL (s r : Fin p) (n : Nat) (a : List (Fin p)) : List (Fin p) := tab n (fun j => ev a (s * pw r j))
theorem valL_length (s r : Fin p) (n : Nat) (a : List (Fin p)) : (valL s r n a).length = n := tab_length _ _
def Wrapped (s : Fin p) (n : Nat) (a : List (Fin p)) (k : Nat) (L : List (Fin p)) : Prop := L.length = n ∧ ∀ y, pw y n = 1 → ev L y = ev (a.take k) (s * y)
theorem Wrapped.start (s : Fin p) (n : Nat) (a : List (Fin p)) : Wrapped s n a 0 (List.replicate n 0) := ⟨by simp, fun y _ => by
  rw [List.take_zero, ev]
  exact ev_all_zero (fun i => by
    unfold co
    rw [List.getElem?_replicate]
    split <;> rfl) y⟩
theorem Wrapped.step {s : Fin p} {n : Nat} {a : List (Fin p)} {k : Nat} {L : List (Fin p)} (h : Wrapped s n a k L) (hn : 0 < n) (hk : k < a.length) : Wrapped s n a (k + 1) (L.set (k % n) (co L (k % n) + pw s k * co a k)) := by
  refine ⟨by simp [h.1], fun y hy => ?_⟩
  rw [ev_set y _ L _ (by rw [h.1]; exact Nat.mod_lt _ hn), h.2 y hy, List.take_succ_eq_append_getElem hk, ev_snoc, List.length_take, Nat.min_eq_left (by omega), ← co_of_lt hk, mul_pw, pw_mod hy]
  grind
theorem Wrapped.done {s : Fin p} {n : Nat} {a : List (Fin p)} {L : List (Fin p)} (h : Wrapped s n a a.length L) {r : Fin p} (hr : pw r n = 1) : dft r n L = valL s r n a := by
  unfold dft valL
  refine ext_co (by rw [tab_length, tab_length]) fun i hi => ?_
  rw [tab_length] at hi
  rw [co_tab, co_tab, if_pos hi, if_pos hi, h.2 _ (by rw [← pw_mul, Nat.mul_comm, pw_mul, hr, one_pw]), List.take_length]
end dm
end Zp

namespace Zp
section ds
variable {p : Nat} [NeZero p]
theorem trimL_length_of {l : List (Fin p)} {n : Nat} (h : ∀ i, n ≤ i → co l i = 0) : (trimL l).length ≤ n := by
  rcases (trimAt_iff_co.1 (trimL_at l)).2 with h0 | h0
  · omega
  · false_or_by_contra
    rename_i hn
    exact h0 (h _ (by omega))
def sumT (n : Nat) (f : Nat → Fin p) : Fin p := match n with
  | 0 => 0
  | n + 1 => sumT n f + f n
theorem sumT_succ (n : Nat) (f : Nat → Fin p) : sumT (n + 1) f = sumT n f + f n := rfl
theorem sumT_congr {n : Nat} {f g : Nat → Fin p} (h : ∀ i, i < n → f i = g i) : sumT n f = sumT n g := by
  induction n with
  | zero => rfl
  | succ n ih => rw [sumT_succ, sumT_succ, ih (fun i hi => h i (by omega)), h n (by omega)]
theorem sumT_add (n : Nat) (f g : Nat → Fin p) : sumT n (fun i => f i + g i) = sumT n f + sumT n g := by
  induction n with
  | zero => simp only [sumT]; grind
  | succ n ih => rw [sumT_succ, sumT_succ, sumT_succ, ih]; grind
theorem sumT_smul (n : Nat) (c : Fin p) (f : Nat → Fin p) : sumT n (fun i => c * f i) = c * sumT n f := by
  induction n with
  | zero => simp only [sumT]; grind
  | succ n ih => rw [sumT_succ, sumT_succ, ih]; grind
theorem sumT_zero (n : Nat) : sumT n (fun _ => (0 : Fin p)) = 0 := by
  induction n with
  | zero => rfl
  | succ n ih => rw [sumT_succ, ih]; grind
theorem sumT_one (n : Nat) : sumT n (fun _ => (1 : Fin p)) = el p (n : Int) := by
  induction n with
  | zero => exact el_zero.symm
  | succ n ih => rw [sumT_succ, ih, Int.natCast_add, el_add, show el p ((1 : Nat) : Int) = 1 from el_one]
theorem geom (x : Fin p) (n : Nat) : (x - 1) * sumT n (fun j => pw x j) = pw x n - 1 := by
  induction n with
  | zero => simp only [sumT, pw_zero]; grind
  | succ n ih => rw [sumT_succ, pw_succ]; grind
theorem geom_zero (hp : IsPrime p) {x : Fin p} {n : Nat} (h1 : x ≠ 1) (hn : pw x n = 1) : sumT n (fun j => pw x j) = 0 := by
  have h := geom x n
  rw [hn] at h
  have : (x - 1) * sumT n (fun j => pw x j) = 0 := by grind
  exact (mul_eq_zero hp this).resolve_left (fun h => h1 (by grind))
end ds
end Zp

namespace Zp
section cd
variable {p : Nat} [NeZero p]
def agree (n : Nat) (f g : Nat → Fin p) : List Nat := (List.range n).filter (fun i => decide (f i = g i))
theorem nodup_map_on {α β : Type} {f : α → β} : ∀ {l : List α}, (∀ a ∈ l, ∀ b ∈ l, f a = f b → a = b) → l.Nodup → (l.map f).Nodup
  | [], _, _ => List.nodup_nil
  | x :: l, hf, h => by
    have h' := List.nodup_cons.1 h
    rw [List.map_cons]
    refine List.nodup_cons.2 ⟨fun hm => ?_, nodup_map_on (fun a ha b hb => hf a (by simp [ha]) b (by simp [hb])) h'.2⟩
    obtain ⟨y, hy, e⟩ := List.mem_map.1 hm
    exact h'.1 (hf x (by simp) y (by simp [hy]) e.symm ▸ hy)
theorem ord_inj (hp : IsPrime p) {r : Fin p} {n : Nat} (hr : Ord r n) (hn : 0 < n) {i j : Nat} (hi : i < n) (hj : j < n) (h : pw r i = pw r j) : i = j := by
  have hr0 := hr.ne_zero hp hn
  have key : ∀ i j, i ≤ j → j < n → pw r i = pw r j → i = j := by
    intro i j hij hj h
    have e : pw r j = pw r i * pw r (j - i) := by rw [← pw_add, show i + (j - i) = j from by omega]
    have h1 : pw r (j - i) = 1 := by
      have : pw r i * pw r (j - i) = pw r i * 1 := by rw [← e, ← h]; grind
      exact mul_left_cancel hp (pw_ne_zero hp hr0 i) this
    have h2 := (hr _).1 h1
    rcases Nat.eq_zero_or_pos (j - i) with h3 | h3
    · omega
    · have := Nat.le_of_dvd h3 h2
      omega
  rcases Nat.le_total i j with h1 | h1
  · exact key i j h1 hj h
  · exact (key j i h1 hi h.symm).symm
end cd
end Zp

namespace Zp
section fd
variable {p : Nat} [NeZero p]
theorem el_two : el p 2 = 1 + 1 := by
  have : el p (1 + 1) = el p 1 + el p 1 := el_add 1 1
  rw [el_one] at this
  exact this
end fd
end Zp

namespace Go.Proofs.YtpkhcncempoohaaGreatDoor
open Zp
def Cube (n v : Nat) : Prop := v ≤ 12 ∧ n = 2 ^ v
theorem Cube.pos {n v : Nat} (h : Cube n v) : 0 < n := by rw [h.2]; exact Nat.pow_pos (by omega)
theorem Cube.le {n v : Nat} (h : Cube n v) : n ≤ 4096 := by
  rw [h.2]; exact Nat.pow_le_pow_right (n := 2) (by omega) h.1
theorem Cube.inj {n v u : Nat} (h : Cube n v) (k : Cube n u) : v = u := by
  have := h.2.symm.trans k.2
  exact (Nat.pow_right_inj (by omega)).1 this
theorem Cube.and {n v : Nat} (h : Cube n v) : (n &&& (n - 1)) = 0 := (two_pow_iff n h.pos).2 ⟨v, h.2⟩
section
variable {p : Nat} [NeZero p]
end
end Go.Proofs.YtpkhcncempoohaaGreatDoor

namespace Go.Proofs.YtpkhcncempoohaaGreatDoor
open Zp
section
variable {p : Nat} [NeZero p]
end
end Go.Proofs.YtpkhcncempoohaaGreatDoor

namespace Go.Proofs.YtpkhcncempoohaaGreatDoor
open Zp
section wt
variable {p : Nat} [NeZero p]
end wt
end Go.Proofs.YtpkhcncempoohaaGreatDoor

namespace Zp
section ft
variable {p : Nat} [NeZero p]
def vanS (o : List (Fin p)) (x : Fin p) : List (Fin p) := trimL (mulL o [0 - x, 1])
def vanL (l : List (Fin p)) : List (Fin p) := l.foldl vanS [1]
theorem ev_vanS (o : List (Fin p)) (x y : Fin p) : ev (vanS o x) y = ev o y * (y - x) := by
  rw [vanS, ev_trim, ev_mulL]; simp only [ev]; grind
theorem ev_foldV (y : Fin p) : ∀ (l o : List (Fin p)), ev (l.foldl vanS o) y = ev o y * prodL (l.map (fun x => y - x))
  | [], o => by simp only [List.foldl_nil, List.map_nil, prodL]; grind
  | x :: l, o => by
    rw [List.foldl_cons, ev_foldV y l, ev_vanS, List.map_cons, prodL]; grind
theorem ev_vanL (l : List (Fin p)) (y : Fin p) : ev (vanL l) y = prodL (l.map (fun x => y - x)) := by
  rw [vanL, ev_foldV]; simp only [ev]; grind
theorem vanS_length (o : List (Fin p)) (x : Fin p) : (vanS o x).length ≤ o.length + 1 :=
  trimL_length_of fun i hi => co_mulL_ge _ o i (by simp; omega)
theorem foldV_length : ∀ (l o : List (Fin p)), (l.foldl vanS o).length ≤ o.length + l.length
  | [], o => by simp
  | x :: l, o => by
    have h1 := foldV_length l (vanS o x)
    have h2 := vanS_length o x
    rw [List.foldl_cons, List.length_cons]; omega
theorem vanL_length (l : List (Fin p)) : (vanL l).length ≤ l.length + 1 := by
  have := foldV_length l [1]
  simp only [List.length_cons, List.length_nil] at this
  unfold vanL; omega
theorem vanL_ne (hp : IsPrime p) {l : List (Fin p)} {y : Fin p} (h : y ∉ l) : ev (vanL l) y ≠ 0 := by
  rw [ev_vanL]
  refine prodL_ne hp _ fun z hz => ?_
  obtain ⟨x, hx, rfl⟩ := List.mem_map.1 hz
  intro he
  have : y = x := by grind
  exact h (this ▸ hx)
theorem prodL_zero : ∀ {l : List (Fin p)}, 0 ∈ l → prodL l = 0
  | x :: l, h => by
    rw [prodL]
    rcases List.mem_cons.1 h with h | h
    · rw [← h]; grind
    · rw [prodL_zero h]; grind
theorem vanL_zero {l : List (Fin p)} {y : Fin p} (h : y ∈ l) : ev (vanL l) y = 0 := by
  rw [ev_vanL]
  exact prodL_zero (List.mem_map.2 ⟨y, h, by grind⟩)
def butI {α : Type} (l : List α) (k : Int) : List α := if 0 ≤ k then l.eraseIdx k.toNat else l
theorem butI_length {α : Type} (l : List α) (j : Nat) (hj : j < l.length) : (butI l (j : Int)).length + 1 = l.length := by
  unfold butI
  rw [if_pos (by omega), Int.toNat_natCast, List.length_eraseIdx_of_lt hj]; omega
def sclL (a : List (Fin p)) (c : Fin p) (k : Nat) : List (Fin p) := trimL (List.replicate k 0 ++ a.map (· * c))
theorem ev_sclL (a : List (Fin p)) (c : Fin p) (k : Nat) (y : Fin p) : ev (sclL a c k) y = pw y k * (c * ev a y) := by
  rw [sclL, ev_trim, ev_replicate]
  have : a.map (· * c) = smulL c a := by unfold smulL; exact List.map_congr_left (fun x _ => by grind)
  rw [this, ev_smulL]
theorem co_sclL (a : List (Fin p)) (c : Fin p) (k i : Nat) : co (sclL a c k) i = if i < k then 0 else co a (i - k) * c := by
  rw [sclL, co_trim]
  unfold co
  rw [List.getElem?_append]
  by_cases h : i < k
  · simp [h]
  · simp only [List.length_replicate, h, if_false, List.getElem?_map]
    cases a[i - k]? with
    | none => simp; grind
    | some x => rfl
theorem sclL_length (a : List (Fin p)) (c : Fin p) (k : Nat) : (sclL a c k).length ≤ a.length + k := by
  have := trimL_length_le (List.replicate k 0 ++ a.map (· * c))
  simp only [List.length_append, List.length_replicate, List.length_map] at this
  unfold sclL; omega
structure Fitted (xs ys : List (Fin p)) (k : Nat) (o : List (Fin p)) : Prop where
  trim : trimL o = o
  len : o.length ≤ xs.length
  at_ : ∀ j, j < xs.length → ev o (co xs j) = if j < k then co ys j else 0
theorem Fitted.start (xs ys : List (Fin p)) : Fitted xs ys 0 [] := ⟨rfl, by simp, fun j _ => rfl⟩
theorem nodup_co {xs : List (Fin p)} (h : xs.Nodup) {i j : Nat} (hi : i < xs.length) (hj : j < xs.length) (he : co xs i = co xs j) : i = j := by
  rw [co_of_lt hi, co_of_lt hj] at he
  rcases Nat.lt_trichotomy i j with hl | hl | hl
  · exact absurd h (not_nodup hj hl he.symm)
  · exact hl
  · exact absurd h (not_nodup hi hl he)
theorem mem_but {xs : List (Fin p)} (k j : Nat) (hj : j < xs.length) (hne : j ≠ k) : co xs j ∈ butI xs (k : Int) := by
  unfold butI
  rw [if_pos (by omega), Int.toNat_natCast, co_of_lt hj, List.mem_eraseIdx_iff_getElem]
  exact ⟨j, hj, hne, rfl⟩
theorem not_mem_but {xs : List (Fin p)} (h : xs.Nodup) (k : Nat) (hk : k < xs.length) : co xs k ∉ butI xs (k : Int) := by
  unfold butI
  rw [if_pos (by omega), Int.toNat_natCast, List.mem_eraseIdx_iff_getElem]
  rintro ⟨j, hj, hne, he⟩
  exact hne (nodup_co h hj hk (by rw [co_of_lt hj]; exact he))
theorem Fitted.step (hp : IsPrime p) {xs ys : List (Fin p)} (hx : xs.Nodup) {k : Nat} {o : List (Fin p)} (h : Fitted xs ys k o) (hk : k < xs.length) :
    Fitted xs ys (k + 1) (trimL (addL o (sclL (vanL (butI xs (k : Int))) (co ys k * Zp.inv (ev (vanL (butI xs (k : Int))) (co xs k))) 0))) := by
  have hb := butI_length xs k hk
  have hv := vanL_length (butI xs (k : Int))
  have hs := sclL_length (vanL (butI xs (k : Int))) (co ys k * Zp.inv (ev (vanL (butI xs (k : Int))) (co xs k))) 0
  refine ⟨trimL_trim _, ?_, fun j hj => ?_⟩
  · refine Nat.le_trans (trimL_length_le _) ?_
    rw [addL, tab_length]
    have := h.len
    omega
  · rw [ev_trim, ev_addL, ev_sclL, h.at_ j hj, pw_zero]
    by_cases hjk : j = k
    · subst hjk
      have hne := vanL_ne hp (not_mem_but hx j hj)
      have hi := mul_inv hp hne
      rw [if_neg (by omega), if_pos (by omega)]
      generalize ev (vanL (butI xs (j : Int))) (co xs j) = E at hi
      generalize Zp.inv E = I at hi
      have : 0 + 1 * (co ys j * I * E) = co ys j * (E * I) := by grind
      rw [this, hi]; grind
    · rw [vanL_zero (mem_but k j hj hjk)]
      by_cases hlt : j < k
      · rw [if_pos hlt, if_pos (by omega)]; grind
      · rw [if_neg hlt, if_neg (by omega)]; grind
theorem Fitted.unique (hp : IsPrime p) {xs ys a b : List (Fin p)} (hx : xs.Nodup) (ha : Fitted xs ys xs.length a) (hb : Fitted xs ys xs.length b) : a = b := by
  have hz : trimL (subL a b) = [] := by
    refine zero_of_roots hp hx (fun x hxm => ?_) (by rw [subL, tab_length]; have := ha.len; have := hb.len; omega)
    obtain ⟨j, hj, rfl⟩ := List.getElem_of_mem hxm
    rw [← co_of_lt hj, ev_subL, ha.at_ j hj, hb.at_ j hj]; grind
  have hc : ∀ i, co a i = co b i := fun i => by
    have h := co_trim (subL a b) i
    rw [hz, co_nil, co_subL] at h
    grind
  rw [← ha.trim, ← hb.trim]
  exact trimL_congr hc
end ft
end Zp

namespace Zp
section ps
variable {p : Nat} [NeZero p]
def mulF (f g : Nat → Fin p) : Nat → Fin p
  | 0 => f 0 * g 0
  | n + 1 => f 0 * g (n + 1) + mulF (fun i => f (i + 1)) g n
omit [NeZero p] in
theorem mulF_succ (f g : Nat → Fin p) (n : Nat) : mulF f g (n + 1) = f 0 * g (n + 1) + mulF (fun i => f (i + 1)) g n := rfl
theorem mulF_right (f g : Nat → Fin p) (n : Nat) : mulF f g (n + 1) = f (n + 1) * g 0 + mulF f (fun i => g (i + 1)) n := by
  induction n generalizing f with
  | zero => simp only [mulF]; grind
  | succ n ih =>
    rw [mulF, ih]
    show f 0 * g (n + 2) + (f (n + 2) * g 0 + mulF (fun i => f (i + 1)) (fun i => g (i + 1)) n) = f (n + 2) * g 0 + (f 0 * g (n + 2) + mulF (fun i => f (i + 1)) (fun i => g (i + 1)) n)
    grind
theorem mulF_comm (f g : Nat → Fin p) (n : Nat) : mulF f g n = mulF g f n := by
  induction n generalizing f with
  | zero => simp only [mulF]; grind
  | succ n ih => rw [mulF, mulF_right g f, ih]; grind
theorem mulF_add (f h g : Nat → Fin p) (n : Nat) : mulF (fun i => f i + h i) g n = mulF f g n + mulF h g n := by
  induction n generalizing f h with
  | zero => simp only [mulF]; grind
  | succ n ih => rw [mulF, mulF, mulF, ih (fun i => f (i + 1)) (fun i => h (i + 1))]; grind
theorem mulF_smul (c : Fin p) (f g : Nat → Fin p) (n : Nat) : mulF (fun i => c * f i) g n = c * mulF f g n := by
  induction n generalizing f with
  | zero => simp only [mulF]; grind
  | succ n ih => rw [mulF, mulF, ih (fun i => f (i + 1))]; grind
theorem mulF_assoc (f g h : Nat → Fin p) (n : Nat) : mulF (mulF f g) h n = mulF f (mulF g h) n := by
  induction n generalizing f with
  | zero => simp only [mulF]; grind
  | succ n ih =>
    have e : (fun i => mulF f g (i + 1)) = fun i => (f 0 * g (i + 1)) + mulF (fun i => f (i + 1)) g i := rfl
    rw [mulF, e, mulF_add (fun i => f 0 * g (i + 1)) (mulF (fun i => f (i + 1)) g), mulF_smul (f 0) (fun i => g (i + 1)), ih, mulF, mulF, mulF]
    grind
omit [NeZero p] in
theorem mulF_congr {f f' g g' : Nat → Fin p} (hf : ∀ i, f i = f' i) (hg : ∀ i, g i = g' i) (n : Nat) : mulF f g n = mulF f' g' n := by
  rw [show f = f' from funext hf, show g = g' from funext hg]
theorem mulF_zero (g : Nat → Fin p) (n : Nat) : mulF (fun _ => 0) g n = 0 := by
  induction n with
  | zero => simp only [mulF]; grind
  | succ n ih => rw [mulF, ih]; grind
theorem mulF_low (f g : Nat → Fin p) (n : Nat) : ∀ m, (∀ i, i < m → f i = 0) → mulF f g (m + n) = mulF (fun i => f (m + i)) g n := fun m => by
  induction m generalizing f with
  | zero => intro _; rw [Nat.zero_add]; exact mulF_congr (fun i => by rw [Nat.zero_add]) (fun _ => rfl) n
  | succ m ih =>
    intro h
    rw [show m + 1 + n = m + n + 1 from by omega, mulF, h 0 (by omega), ih (fun i => f (i + 1)) (fun i hi => h (i + 1) (by omega))]
    have e : (fun i => f (m + i + 1)) = fun i => f (m + 1 + i) := funext fun i => by rw [show m + i + 1 = m + 1 + i from by omega]
    rw [e]; grind
theorem mulF_top (g : Nat → Fin p) (n : Nat) (hg : ∀ j, n < j → g j = 0) : ∀ (m : Nat) (f : Nat → Fin p), (∀ i, m < i → f i = 0) → mulF f g (m + n) = f m * g n := fun m => by
  induction m with
  | zero =>
    intro f hf
    rw [Nat.zero_add]
    cases n with
    | zero => rfl
    | succ n =>
      rw [mulF, mulF_congr (f' := fun _ => 0) (g' := g) (fun i => hf (i + 1) (by omega)) (fun _ => rfl), mulF_zero]; grind
  | succ m ih =>
    intro f hf
    rw [show m + 1 + n = m + n + 1 from by omega, mulF, ih (fun i => f (i + 1)) (fun i hi => hf (i + 1) (by omega)), hg (m + n + 1) (by omega)]; grind
def PS (p : Nat) : Type := Nat → Fin p
instance : Add (PS p) := ⟨fun f g n => f n + g n⟩
instance : Sub (PS p) := ⟨fun f g n => f n - g n⟩
instance : Mul (PS p) := ⟨mulF⟩
instance : Zero (PS p) := ⟨fun _ => 0⟩
instance : One (PS p) := ⟨fun n => if n = 0 then 1 else 0⟩
namespace PS
omit [NeZero p] in
theorem add_ap (f g : PS p) (n : Nat) : (f + g) n = f n + g n := rfl
omit [NeZero p] in
theorem sub_ap (f g : PS p) (n : Nat) : (f - g) n = f n - g n := rfl
theorem zero_ap (n : Nat) : (0 : PS p) n = 0 := rfl
theorem one_ap (n : Nat) : (1 : PS p) n = if n = 0 then 1 else 0 := rfl
protected theorem add_comm (f g : PS p) : f + g = g + f := funext fun n => by rw [add_ap, add_ap]; grind
protected theorem add_assoc (f g h : PS p) : f + g + h = f + (g + h) := funext fun n => by simp only [add_ap]; grind
protected theorem add_zero (f : PS p) : f + 0 = f := funext fun n => by rw [add_ap, zero_ap]; grind
protected theorem zero_add (f : PS p) : 0 + f = f := funext fun n => by rw [add_ap, zero_ap]; grind
protected theorem mul_comm (f g : PS p) : f * g = g * f := funext fun n => mulF_comm f g n
protected theorem mul_assoc (f g h : PS p) : f * g * h = f * (g * h) := funext fun n => mulF_assoc f g h n
protected theorem mul_left_comm (f g h : PS p) : f * (g * h) = g * (f * h) := by rw [← PS.mul_assoc, PS.mul_comm f g, PS.mul_assoc]
protected theorem add_mul (f g h : PS p) : (f + g) * h = f * h + g * h := funext fun n => mulF_add f g h n
protected theorem mul_add (f g h : PS p) : f * (g + h) = f * g + f * h := by rw [PS.mul_comm f, PS.add_mul, PS.mul_comm g, PS.mul_comm h]
protected theorem zero_mul (f : PS p) : 0 * f = 0 := funext fun n => mulF_zero f n
protected theorem mul_zero (f : PS p) : f * 0 = 0 := by rw [PS.mul_comm, PS.zero_mul]
protected theorem one_mul (f : PS p) : 1 * f = f := funext fun n => by
  show mulF (fun n => if n = 0 then (1 : Fin p) else 0) f n = f n
  cases n with
  | zero => show (if 0 = 0 then (1 : Fin p) else 0) * f 0 = f 0; rw [if_pos rfl]; grind
  | succ n =>
    have e := mulF_succ (fun n => if n = 0 then (1 : Fin p) else 0) f n
    have e2 : mulF (fun i => if i + 1 = 0 then (1 : Fin p) else 0) f n = 0 := (mulF_congr (f' := fun _ => 0) (g' := f) (fun i => if_neg (by omega)) (fun _ => rfl) n).trans (mulF_zero _ _)
    rw [e, e2, if_pos rfl]; grind
protected theorem mul_one (f : PS p) : f * 1 = f := by rw [PS.mul_comm, PS.one_mul]
protected theorem sub_eq_iff {f g h : PS p} : f - g = h ↔ f = h + g := by
  constructor
  · rintro rfl; exact funext fun n => by rw [add_ap, sub_ap]; grind
  · rintro rfl; exact funext fun n => by rw [sub_ap, add_ap]; grind
protected theorem sub_mul (f g h : PS p) : (f - g) * h = f * h - g * h := by
  have e : f * h = (f - g) * h + g * h := by rw [← PS.add_mul, ← PS.sub_eq_iff.1 rfl]
  exact (PS.sub_eq_iff.2 e).symm
protected theorem sub_self (f : PS p) : f - f = 0 := funext fun n => by rw [sub_ap, zero_ap]; grind
protected theorem eq_of_sub {f g : PS p} (h : f - g = 0) : f = g := by rw [PS.sub_eq_iff.1 h, PS.zero_add]
theorem least {f : PS p} (h : f ≠ 0) : ∃ m, f m ≠ 0 ∧ ∀ i, i < m → f i = 0 := by
  have hex : ∃ m, f m ≠ 0 := by
    false_or_by_contra
    rename_i hn
    refine h (funext fun n => ?_)
    false_or_by_contra
    rename_i h'
    exact hn ⟨n, h'⟩
  have : ∀ n, (∃ m, m ≤ n ∧ f m ≠ 0) → ∃ m, f m ≠ 0 ∧ ∀ i, i < m → f i = 0 := by
    intro n
    induction n with
    | zero => rintro ⟨m, h1, h2⟩; exact ⟨m, h2, fun i hi => by omega⟩
    | succ n ih =>
      intro hm
      by_cases hn : ∃ m, m ≤ n ∧ f m ≠ 0
      · exact ih hn
      · obtain ⟨m, h1, h2⟩ := hm
        refine ⟨m, h2, fun i hi => ?_⟩
        false_or_by_contra
        rename_i h'
        exact hn ⟨i, by omega, h'⟩
  obtain ⟨m, hm⟩ := hex
  exact this m ⟨m, Nat.le_refl _, hm⟩
theorem mul_eq_zero (hp : IsPrime p) {f g : PS p} (h : f * g = 0) : f = 0 ∨ g = 0 := by
  by_cases hf : f = 0
  · exact .inl hf
  · by_cases hg : g = 0
    · exact .inr hg
    · exfalso
      obtain ⟨m, hm, hm'⟩ := least hf
      obtain ⟨n, hn, hn'⟩ := least hg
      have e : (f * g) (m + n) = f m * g n := by
        have e1 := mulF_low f g n m hm'
        have e2 := mulF_comm (fun i => f (m + i)) g n
        have e3 := mulF_low g (fun i => f (m + i)) 0 n hn'
        have e4 : mulF (fun i => g (n + i)) (fun i => f (m + i)) 0 = g n * f m := rfl
        exact e1.trans (e2.trans (e3.trans (e4.trans (by grind))))
      rw [h, zero_ap] at e
      rcases Zp.mul_eq_zero hp e.symm with h' | h'
      · exact hm h'
      · exact hn h'
theorem mul_right_cancel (hp : IsPrime p) {f g h : PS p} (hh : h ≠ 0) (e : f * h = g * h) : f = g := by
  have : (f - g) * h = 0 := by rw [PS.sub_mul, e, PS.sub_self]
  exact PS.eq_of_sub ((mul_eq_zero hp this).resolve_right hh)
end PS
def ofL (l : List (Fin p)) : PS p := co l
theorem ofL_ap (l : List (Fin p)) (n : Nat) : ofL l n = co l n := rfl
theorem ofL_nil : ofL ([] : List (Fin p)) = 0 := funext fun n => co_nil n
theorem ofL_one : ofL [(1 : Fin p)] = 1 := funext fun n => by
  rw [ofL_ap, PS.one_ap]
  cases n with
  | zero => rfl
  | succ n => rw [co_of_ge (by simp)]; rfl
theorem ofL_trim (l : List (Fin p)) : ofL (trimL l) = ofL l := funext fun n => co_trim l n
theorem ofL_add (a b : List (Fin p)) : ofL (addL a b) = ofL a + ofL b := funext fun n => co_addL a b n
theorem ofL_sub (a b : List (Fin p)) : ofL (subL a b) = ofL a - ofL b := funext fun n => co_subL a b n
theorem ofL_mul (b : List (Fin p)) : ∀ a : List (Fin p), ofL (mulL a b) = ofL a * ofL b := fun a => funext fun n => by
  show co (mulL a b) n = mulF (co a) (co b) n
  induction a generalizing n with
  | nil => rw [mulL, co_nil, mulF_congr (f' := fun _ => 0) (g' := co b) (fun i => co_nil i) (fun _ => rfl), mulF_zero]
  | cons x a ih =>
    rw [co_mulL_cons]
    cases n with
    | zero => rw [if_pos rfl, mulF, co_cons_zero]; grind
    | succ n =>
      rw [if_neg (by omega), Nat.add_sub_cancel, ih, mulF, co_cons_zero]
      rfl
theorem trim_of_ofL {a b : List (Fin p)} (h : ofL a = ofL b) : trimL a = trimL b := trimL_congr fun i => congrFun h i
theorem eq_of_ofL {a b : List (Fin p)} (ha : trimL a = a) (hb : trimL b = b) (h : ofL a = ofL b) : a = b := by rw [← ha, ← hb, trim_of_ofL h]
theorem top_ne {l : List (Fin p)} (h : 0 < (trimL l).length) : co l ((trimL l).length - 1) ≠ 0 := by
  rcases (trimAt_iff_co.1 (trimL_at l)).2 with h0 | h0
  · omega
  · exact h0
theorem top_zero (l : List (Fin p)) {i : Nat} (h : (trimL l).length ≤ i) : co l i = 0 := (trimAt_iff_co.1 (trimL_at l)).1 i h
theorem mul_length (hp : IsPrime p) {a b : List (Fin p)} (ha : 0 < (trimL a).length) (hb : 0 < (trimL b).length) : (trimL (mulL a b)).length + 1 = (trimL a).length + (trimL b).length := by
  obtain ⟨m, hm⟩ : ∃ m, (trimL a).length = m + 1 := ⟨_, (Nat.succ_pred_eq_of_pos ha).symm⟩
  obtain ⟨n, hn⟩ : ∃ n, (trimL b).length = n + 1 := ⟨_, (Nat.succ_pred_eq_of_pos hb).symm⟩
  have a1 := top_ne ha
  have b1 := top_ne hb
  rw [hm, Nat.add_sub_cancel] at a1
  rw [hn, Nat.add_sub_cancel] at b1
  have a2 : ∀ i, m < i → co a i = 0 := fun i hi => top_zero a (by omega)
  have b2 : ∀ i, n < i → co b i = 0 := fun i hi => top_zero b (by omega)
  have hc : ∀ i, co (mulL a b) i = mulF (co a) (co b) i := fun i => congrFun (ofL_mul b a) i
  have : (trimL (mulL a b)).length = m + n + 1 := by
    refine TrimAt.length (trimAt_iff_co.2 ⟨fun i hi => ?_, .inr ?_⟩)
    · rw [← co_mulL_congr (a := trimL a) (b := trimL b) (a' := a) (b' := b) (fun i => co_trim a i) (fun i => co_trim b i)]
      exact co_mulL_ge _ _ i (by omega)
    · rw [Nat.add_sub_cancel, hc, mulF_top (co b) n b2 m (co a) a2]
      exact mul_ne_zero hp a1 b1
  omega
structure DivOk (a b Q R : List (Fin p)) : Prop where
  tq : trimL Q = Q
  tr : trimL R = R
  lt : R.length < (trimL b).length
  eq : ofL a = ofL Q * ofL b + ofL R
theorem DivOk.unique (hp : IsPrime p) {a b Q R Q' R' : List (Fin p)} (h : DivOk a b Q R) (h' : DivOk a b Q' R') : Q = Q' ∧ R = R' := by
  have hb : 0 < (trimL b).length := by have := h.lt; omega
  have e : ofL (mulL (subL Q Q') b) = ofL (subL R' R) := by
    rw [ofL_mul, ofL_sub, ofL_sub, PS.sub_mul, PS.sub_eq_iff]
    have e1 := h.eq.symm.trans h'.eq
    have e2 : ofL Q * ofL b = ofL Q' * ofL b + ofL R' - ofL R := (PS.sub_eq_iff.2 e1.symm).symm
    rw [e2, PS.sub_eq_iff]
    refine funext fun n => ?_
    simp only [PS.add_ap, PS.sub_ap]
    grind
  have hq : trimL (subL Q Q') = [] := by
    rcases Nat.eq_zero_or_pos (trimL (subL Q Q')).length with h0 | h0
    · exact List.length_eq_zero_iff.1 h0
    · exfalso
      have h1 := mul_length hp h0 hb
      rw [trim_of_ofL e] at h1
      have h2 : (trimL (subL R' R)).length < (trimL b).length := by
        refine Nat.lt_of_le_of_lt (trimL_length_le _) ?_
        rw [subL, tab_length]
        have := h.lt; have := h'.lt
        omega
      omega
  have e3 : ofL Q = ofL Q' := PS.eq_of_sub (by rw [← ofL_sub, ← ofL_trim, hq, ofL_nil])
  refine ⟨eq_of_ofL h.tq h'.tq e3, eq_of_ofL h.tr h'.tr ?_⟩
  have e4 := h.eq.symm.trans h'.eq
  rw [e3] at e4
  refine funext fun n => ?_
  have e5 := congrFun e4 n
  simp only [PS.add_ap] at e5
  grind
theorem co_mulL_set (b : List (Fin p)) (c : Fin p) : ∀ (a : List (Fin p)) (i m : Nat), i < a.length → co a i = 0 → co (mulL (a.set i c) b) m = co (mulL a b) m + if i ≤ m then c * co b (m - i) else 0
  | [], i, m, hi, _ => by simp at hi
  | x :: a, 0, m, _, h0 => by
    rw [co_cons_zero] at h0
    rw [List.set_cons_zero, co_mulL_cons, co_mulL_cons, h0, if_pos (Nat.zero_le _), Nat.sub_zero]; grind
  | x :: a, i + 1, m, hi, h0 => by
    rw [co_cons_succ] at h0
    rw [List.set_cons_succ, co_mulL_cons, co_mulL_cons]
    by_cases hm : m = 0
    · subst hm; rw [if_pos rfl, if_pos rfl, if_neg (by omega)]; grind
    · rw [if_neg hm, if_neg hm, co_mulL_set b c a i (m - 1) (by simpa using hi) h0]
      by_cases h : i + 1 ≤ m
      · rw [if_pos (by omega), if_pos h, show m - 1 - i = m - (i + 1) from by omega]; grind
      · rw [if_neg (by omega), if_neg h]; grind
structure Divs (a b : List (Fin p)) (last j : Nat) (Q R : List (Fin p)) : Prop where
  qz : ∀ i, i < j → co Q i = 0
  rz : ∀ i, j + last ≤ i → co R i = 0
  eq : ∀ i, co a i = co (mulL Q b) i + co R i
def Dived (b : List (Fin p)) (c : Fin p) (j k : Nat) (R M : List (Fin p)) : Prop := M.length = R.length ∧ ∀ m, co M m = co R m - if j ≤ m ∧ m < j + k then c * co b (m - j) else 0
theorem Dived.start (b : List (Fin p)) (c : Fin p) (j : Nat) (R : List (Fin p)) : Dived b c j 0 R R := ⟨rfl, fun m => by rw [if_neg (by omega)]; grind⟩
theorem Dived.step {b : List (Fin p)} {c : Fin p} {j k : Nat} {R M : List (Fin p)} (h : Dived b c j k R M) (hl : j + k < R.length) : Dived b c j (k + 1) R (M.set (j + k) (co M (j + k) - c * co b k)) := by
  refine ⟨by rw [List.length_set, h.1], fun m => ?_⟩
  by_cases hm : m = j + k
  · subst hm
    rw [co_of_lt (by rw [List.length_set, h.1]; exact hl), List.getElem_set_self, h.2, if_neg (by omega), if_pos ⟨by omega, by omega⟩, show j + k - j = k from by omega]; grind
  · have e : co (M.set (j + k) (co M (j + k) - c * co b k)) m = co M m := by
      unfold co
      rw [List.getElem?_set_ne (by omega)]
    rw [e, h.2]
    by_cases h1 : j ≤ m ∧ m < j + k
    · rw [if_pos h1, if_pos ⟨h1.1, by omega⟩]
    · rw [if_neg h1, if_neg (by omega)]
theorem Divs.step {a b : List (Fin p)} {last j : Nat} {Q R M : List (Fin p)} {c inv : Fin p} (h : Divs a b last (j + 1) Q R) (hb : b.length = last + 1) (hi : inv * co b last = 1) (hj : j < Q.length) (hc : c = co R (j + last) * inv) (hm : Dived b c j b.length R M) :
    Divs a b last j (Q.set j c) M := by
  refine ⟨fun i hi' => ?_, fun i hi' => ?_, fun i => ?_⟩
  · unfold co
    rw [List.getElem?_set_ne (by omega)]
    exact h.qz i (by omega)
  · rw [hm.2]
    by_cases he : i = j + last
    · subst he
      rw [if_pos ⟨by omega, by omega⟩, show j + last - j = last from by omega, hc]
      have : co R (j + last) * inv * co b last = co R (j + last) * (inv * co b last) := by grind
      rw [this, hi]; grind
    · rw [if_neg (by omega), h.rz i (by omega)]; grind
  · rw [co_mulL_set b c Q j i hj (h.qz j (by omega)), hm.2, h.eq]
    by_cases h1 : j ≤ i
    · rw [if_pos h1]
      by_cases h2 : i < j + b.length
      · rw [if_pos ⟨h1, h2⟩]; grind
      · rw [if_neg (by omega), co_of_ge (l := b) (by omega)]; grind
    · rw [if_neg h1, if_neg (by omega)]; grind
theorem Divs.done {a b : List (Fin p)} {last : Nat} {Q R : List (Fin p)} (h : Divs a b last 0 Q R) (hb : (trimL b).length = last + 1) : DivOk a b (trimL Q) (trimL R) := by
  refine ⟨trimL_trim _, trimL_trim _, ?_, ?_⟩
  · rw [hb]
    have h1 : (trimL R).length ≤ last := trimL_length_of fun i hi => h.rz i (by omega)
    omega
  · rw [ofL_trim, ofL_trim, ← ofL_mul]
    exact funext fun i => h.eq i
end ps
end Zp

namespace Zp
section ps
variable {p : Nat} [NeZero p]
theorem mulF_below (g : Nat → Fin p) : ∀ (n : Nat) (f : Nat → Fin p), (∀ j, j ≤ n → f j = 0) → mulF f g n = 0
  | 0, f, h => by rw [mulF, h 0 (by omega)]; grind
  | n + 1, f, h => by rw [mulF, h 0 (by omega), mulF_below g n _ (fun j hj => h (j + 1) (by omega))]; grind
theorem mulF_one (g f : Nat → Fin p) (h : ∀ j, f (j + 1) = 0) (n : Nat) : mulF f g n = f 0 * g n := by
  cases n with
  | zero => rfl
  | succ n => rw [mulF, mulF_congr (f' := fun _ => 0) (g' := g) h (fun _ => rfl), mulF_zero]; grind
theorem ofL_scl (b : List (Fin p)) (c : Fin p) (k : Nat) : ofL (sclL b c k) = ofL (sclL [1] c k) * ofL b := funext fun i => by
  have h1 : ∀ j, co (sclL [(1 : Fin p)] c k) j = if j = k then c else 0 := fun j => by
    rw [co_sclL]
    by_cases h : j < k
    · rw [if_pos h, if_neg (by omega)]
    · rw [if_neg h]
      by_cases h2 : j = k
      · subst h2; rw [if_pos rfl, Nat.sub_self, co_cons_zero]; grind
      · rw [if_neg h2, co_of_ge (by simp; omega)]; grind
  show co (sclL b c k) i = mulF (co (sclL [1] c k)) (co b) i
  rw [co_sclL]
  by_cases h : i < k
  · rw [if_pos h, mulF_below _ i _ (fun j hj => (h1 j).trans (if_neg (by omega)))]
  · obtain ⟨n, rfl⟩ : ∃ n, i = k + n := ⟨i - k, by omega⟩
    have e1 := mulF_one (co b) (fun i => co (sclL [1] c k) (k + i)) (fun j => (h1 _).trans (if_neg (show ¬ k + (j + 1) = k by omega))) n
    rw [if_neg h, mulF_low _ _ n k (fun j hj => (h1 j).trans (if_neg (by omega))), e1]
    have e : co (sclL [1] c k) (k + 0) = c := (h1 _).trans (if_pos rfl)
    rw [e, show k + n - k = n from by omega]; grind
structure DivR (al bl Q R : List (Fin p)) : Prop where
  tq : trimL Q = Q
  tr : trimL R = R
  lq : Q.length ≤ al.length
  lr : R.length ≤ al.length
  eq : ofL al = ofL Q * ofL bl + ofL R
theorem DivR.start {al bl : List (Fin p)} (h : trimL al = al) : DivR al bl [] al := ⟨rfl, h, by simp, Nat.le_refl _, by rw [ofL_nil, PS.zero_mul, PS.zero_add]⟩
theorem DivR.step (hp : IsPrime p) {al bl Q R : List (Fin p)} {k last : Nat} (h : DivR al bl Q R) (hb : bl.length = last + 1) (hb0 : co bl last ≠ 0) (hk : R.length = last + 1 + k) :
    DivR al bl (trimL (addL Q (sclL [1] (co R (last + k) * Zp.inv (co bl last)) k))) (trimL (subL R (sclL bl (co R (last + k) * Zp.inv (co bl last)) k))) ∧ (trimL (subL R (sclL bl (co R (last + k) * Zp.inv (co bl last)) k))).length < R.length := by
  obtain ⟨c, hc⟩ : ∃ c, c = co R (last + k) * Zp.inv (co bl last) := ⟨_, rfl⟩
  rw [← hc]
  have hi := mul_inv hp hb0
  have hlt : (trimL (subL R (sclL bl c k))).length ≤ last + k := trimL_length_of fun i hi' => by
    rw [co_subL, co_sclL, if_neg (by omega)]
    by_cases he : i = last + k
    · subst he
      rw [show last + k - k = last from by omega, hc]
      have : co bl last * (co R (last + k) * Zp.inv (co bl last)) = co R (last + k) * (co bl last * Zp.inv (co bl last)) := by grind
      rw [this, hi]; grind
    · rw [co_of_ge (l := R) (by omega), co_of_ge (l := bl) (by omega)]; grind
  have hlr := h.lr
  refine ⟨⟨trimL_trim _, trimL_trim _, ?_, by omega, ?_⟩, by omega⟩
  · refine trimL_length_of fun i hi' => ?_
    rw [co_addL, co_sclL, co_of_ge (l := Q) (by have := h.lq; omega), if_neg (by omega), co_of_ge (by simp; omega)]; grind
  · rw [ofL_trim, ofL_trim, ofL_add, ofL_sub, ofL_scl bl c k, h.eq, PS.add_mul]
    refine funext fun n => ?_
    simp only [PS.add_ap, PS.sub_ap]
    grind
theorem DivR.done {al bl Q R : List (Fin p)} (h : DivR al bl Q R) (hb : trimL bl = bl) (hl : R.length < bl.length) : DivOk al bl Q R := ⟨h.tq, h.tr, by rw [hb]; exact hl, h.eq⟩
end ps
end Zp

namespace Zp
section ip
variable {p : Nat} [NeZero p]
theorem sumT_shift (n : Nat) (f : Nat → Fin p) : sumT (n + 1) f = f 0 + sumT n (fun i => f (i + 1)) := by
  induction n with
  | zero => simp only [sumT]; grind
  | succ n ih => rw [sumT_succ, ih, sumT_succ]; grind
theorem ev_sumT (y : Fin p) : ∀ l : List (Fin p), ev l y = sumT l.length (fun m => co l m * pw y m)
  | [] => rfl
  | c :: l => by
    rw [ev, ev_sumT y l, List.length_cons, sumT_shift, co_cons_zero, pw_zero, ← sumT_smul]
    have e : ∀ i, i < l.length → y * (co l i * pw y i) = co (c :: l) (i + 1) * pw y (i + 1) := fun i _ => by rw [co_cons_succ, pw_succ]; grind
    rw [sumT_congr e]
    grind
theorem sumT_comm (m n : Nat) (f : Nat → Nat → Fin p) : sumT m (fun i => sumT n (fun j => f i j)) = sumT n (fun j => sumT m (fun i => f i j)) := by
  induction m with
  | zero => exact (sumT_zero n).symm
  | succ m ih =>
    rw [sumT_succ, ih, ← sumT_add]
    rfl
theorem sumT_single {n : Nat} {f : Nat → Fin p} {j : Nat} (hj : j < n) (h : ∀ i, i < n → i ≠ j → f i = 0) : sumT n f = f j := by
  induction n with
  | zero => omega
  | succ n ih =>
    rw [sumT_succ]
    by_cases he : j = n
    · subst he
      rw [sumT_congr (g := fun _ => 0) (fun i hi => h i (by omega) (by omega)), sumT_zero]; grind
    · rw [ih (by omega) (fun i hi hne => h i (by omega) hne), h n (by omega) (fun e => he e.symm)]; grind
theorem inv_mul' (hp : IsPrime p) {x : Fin p} (hx : x ≠ 0) : Zp.inv x * x = 1 := by
  have := mul_inv hp hx
  grind
theorem pw_inv_pw (hp : IsPrime p) {x : Fin p} (hx : x ≠ 0) (n : Nat) : pw (Zp.inv x) n * pw x n = 1 := by rw [← mul_pw, inv_mul' hp hx, one_pw]
theorem ord_inv (hp : IsPrime p) {r : Fin p} {n : Nat} (hr : Ord r n) (hn : 0 < n) : Ord (Zp.inv r) n := by
  have h0 := hr.ne_zero hp hn
  intro k
  rw [← hr k]
  have h := pw_inv_pw hp h0 k
  constructor
  · intro h1; rw [h1] at h; grind
  · intro h1; rw [h1] at h; grind
def coefL (s r : Fin p) (n : Nat) (l : List (Fin p)) : List (Fin p) := tab n (fun i => ev l (pw (Zp.inv r) i) * (Zp.inv (el p (n : Int)) * pw (Zp.inv s) i))
theorem coefL_length (s r : Fin p) (n : Nat) (l : List (Fin p)) : (coefL s r n l).length = n := tab_length _ _
theorem el_size_ne (hp : IsPrime p) {n : Nat} (hn : 0 < n) (hd : n ∣ p - 1) : el p (n : Int) ≠ 0 := fun h => by
  have h1 := el_eq_zero.1 h
  have h2 := Nat.le_of_dvd (by have := hp.1; omega) hd
  rw [Int.emod_eq_of_lt (by omega) (by have := hp.1; omega)] at h1
  omega
theorem val_coef (hp : IsPrime p) {s r : Fin p} {n : Nat} (hn : 0 < n) (hd : n ∣ p - 1) (hr : Ord r n) (hs : s ≠ 0) {l : List (Fin p)} (hl : l.length = n) {j : Nat} (hj : j < n) : ev (coefL s r n l) (s * pw r j) = co l j := by
  have hr0 := hr.ne_zero hp hn
  have hnn := el_size_ne hp hn hd
  have e1 : ∀ i, i < n → co (coefL s r n l) i * pw (s * pw r j) i = Zp.inv (el p (n : Int)) * sumT n (fun m => co l m * pw (pw r j * pw (Zp.inv r) m) i) := by
    intro i hi
    rw [coefL, co_tab, if_pos hi, ev_sumT _ l, hl, mul_pw s]
    have e2 : ∀ m, m < n → co l m * pw (pw r j * pw (Zp.inv r) m) i = pw (pw r j) i * (co l m * pw (pw (Zp.inv r) i) m) := fun m _ => by
      rw [mul_pw, ← pw_mul (Zp.inv r) m i, ← pw_mul (Zp.inv r) i m, Nat.mul_comm m i]; grind
    rw [sumT_congr e2, sumT_smul]
    have h3 := pw_inv_pw hp hs i
    generalize sumT n (fun m => co l m * pw (pw (Zp.inv r) i) m) = S
    generalize pw (Zp.inv s) i = a at *
    generalize pw s i = b at *
    have e4 : S * (Zp.inv (el p (n : Int)) * a) * (b * pw (pw r j) i) = Zp.inv (el p (n : Int)) * (pw (pw r j) i * S) * (a * b) := by grind
    rw [e4, h3]; grind
  rw [ev_sumT _ (coefL s r n l), coefL_length, sumT_congr e1, sumT_smul, sumT_comm]
  have e5 : ∀ m, m < n → sumT n (fun i => co l m * pw (pw r j * pw (Zp.inv r) m) i) = if m = j then co l j * el p (n : Int) else 0 := by
    intro m hm
    rw [sumT_smul]
    by_cases he : m = j
    · subst he
      rw [if_pos rfl]
      have h1 : pw r m * pw (Zp.inv r) m = 1 := by have := pw_inv_pw hp hr0 m; grind
      rw [h1, sumT_congr (g := fun _ => 1) (fun i _ => one_pw i), sumT_one]
    · rw [if_neg he, geom_zero hp (x := pw r j * pw (Zp.inv r) m)]
      · grind
      · intro h1
        have h2 := pw_inv_pw hp hr0 m
        have h3 : pw r j = pw r m := by
          have h4 : pw r j * (pw (Zp.inv r) m * pw r m) = 1 * pw r m := by rw [← h1]; grind
          rw [h2] at h4
          grind
        exact he (ord_inj hp hr hn hj hm h3).symm
      · rw [mul_pw, ← pw_mul, ← pw_mul, Nat.mul_comm j n, Nat.mul_comm m n, pw_mul, pw_mul, hr.one, (ord_inv hp hr hn).one, one_pw, one_pw]; grind
  rw [sumT_congr e5, sumT_single hj (fun i _ hne => if_neg hne), if_pos rfl]
  have := inv_mul' hp hnn
  generalize Zp.inv (el p (n : Int)) = a at *
  have e6 : a * (co l j * el p (n : Int)) = co l j * (a * el p (n : Int)) := by grind
  rw [e6, this]; grind
theorem valL_coefL (hp : IsPrime p) {s r : Fin p} {n : Nat} (hn : 0 < n) (hd : n ∣ p - 1) (hr : Ord r n) (hs : s ≠ 0) {l : List (Fin p)} (hl : l.length = n) : valL s r n (coefL s r n l) = l := by
  refine ext_co (by rw [valL_length, hl]) fun j hj => ?_
  rw [valL_length] at hj
  rw [valL, co_tab, if_pos hj]
  exact val_coef hp hn hd hr hs hl hj
end ip
end Zp

namespace Zp
section gp
variable {p : Nat} [NeZero p]
theorem co_mulL_sgl (a : List (Fin p)) (c : Fin p) (i : Nat) : co (mulL a [c]) i = co a i * c := by
  induction a generalizing i with
  | nil => rw [mulL, co_nil]; grind
  | cons x a ih =>
    rw [co_mulL_cons]
    cases i with
    | zero => rw [if_pos rfl, co_cons_zero c [], co_cons_zero x a]; grind
    | succ i => rw [if_neg (by omega), Nat.add_sub_cancel, ih, co_cons_succ c [], co_nil, co_cons_succ x a]; grind
theorem mul_len_le (a b : List (Fin p)) : (trimL (mulL a b)).length ≤ a.length + b.length - 1 := trimL_length_of fun i hi => by
  by_cases h : a.length + b.length ≤ i + 1
  · exact co_mulL_ge b a i h
  · omega
theorem mul_len_nil {a b : List (Fin p)} (h : a = [] ∨ b = []) : trimL (mulL a b) = [] := by
  refine trimL_congr (m := []) fun i => ?_
  rw [co_nil]
  rcases h with rfl | rfl
  · exact co_nil i
  · exact co_mulL_zero_right (fun i => co_nil i) a i
theorem DivOk.len (hp : IsPrime p) {a b Q R : List (Fin p)} (h : DivOk a b Q R) (hQ : Q ≠ []) : Q.length + (trimL b).length ≤ (trimL a).length + 1 := by
  have hb : 0 < (trimL b).length := by have := h.lt; omega
  have hq : 0 < (trimL Q).length := by rw [h.tq]; exact List.length_pos_iff.2 hQ
  have h1 := mul_length hp hq hb
  rw [h.tq] at h1
  have hpos : 0 < (trimL (mulL Q b)).length := by rw [h.tq] at hq; omega
  have h2 := top_ne hpos
  rcases Nat.lt_or_ge (trimL a).length (trimL (mulL Q b)).length with hlt | hge
  · exfalso
    have e := congrFun h.eq ((trimL (mulL Q b)).length - 1)
    rw [PS.add_ap, ← ofL_mul, ofL_ap, ofL_ap, ofL_ap, top_zero a (by omega), co_of_ge (l := R) (by have := h.lt; rw [h.tq] at hq; omega)] at e
    apply h2
    grind
  · omega
structure GcdI (a b r s ru su rv sv : List (Fin p)) (M : Nat) : Prop where
  tr : trimL r = r
  ts : trimL s = s
  e1 : ofL r = ofL ru * ofL a + ofL rv * ofL b
  e2 : ofL s = ofL su * ofL a + ofL sv * ofL b
  d1 : ∃ X Y : List (Fin p), ofL a = ofL X * ofL r + ofL Y * ofL s
  d2 : ∃ X Y : List (Fin p), ofL b = ofL X * ofL r + ofL Y * ofL s
  lr : r.length ≤ M
  ls : s.length ≤ M
  l1 : su.length + r.length ≤ M
  l2 : su.length + s.length ≤ M
  l3 : ru.length + s.length ≤ M
  k1 : sv.length + r.length ≤ M
  k2 : sv.length + s.length ≤ M
  k3 : rv.length + s.length ≤ M
theorem GcdI.start (a b : List (Fin p)) (M : Nat) (hM : (trimL a).length + (trimL b).length + 1 ≤ M) : GcdI a b (trimL a) (trimL b) [1] [] [] [1] M :=
  ⟨trimL_trim _, trimL_trim _, by rw [ofL_trim, ofL_one, ofL_nil, PS.one_mul, PS.zero_mul, PS.add_zero], by rw [ofL_trim, ofL_one, ofL_nil, PS.one_mul, PS.zero_mul, PS.zero_add],
    ⟨[1], [], by rw [ofL_trim, ofL_one, ofL_nil, PS.one_mul, PS.zero_mul, PS.add_zero]⟩, ⟨[], [1], by rw [ofL_trim, ofL_trim, ofL_one, ofL_nil, PS.one_mul, PS.zero_mul, PS.zero_add]⟩,
    by omega, by omega, by simp; omega, by simp; omega, by simp; omega, by simp; omega, by simp; omega, by simp; omega⟩
theorem gcd_lin {A B R S U U' V V' Q T : PS p} (h1 : R = U * A + V * B) (h2 : S = U' * A + V' * B) (h : R = Q * S + T) : T = (U - Q * U') * A + (V - Q * V') * B := by
  have e : T = R - Q * S := (PS.sub_eq_iff.2 (by rw [h, PS.add_comm])).symm
  rw [e, PS.sub_eq_iff, h1, h2, PS.sub_mul, PS.sub_mul, PS.mul_add, PS.mul_assoc, PS.mul_assoc]
  refine funext fun n => ?_
  simp only [PS.add_ap, PS.sub_ap]
  grind
theorem gcd_back {A R S Q T X Y : PS p} (h : A = X * R + Y * S) (h2 : R = Q * S + T) : A = (X * Q + Y) * S + X * T := by
  rw [h, h2, PS.mul_add, PS.add_mul, PS.mul_assoc]
  refine funext fun n => ?_
  simp only [PS.add_ap]
  grind
theorem GcdI.step (hp : IsPrime p) {a b r s ru su rv sv Q R : List (Fin p)} {M : Nat} (h : GcdI a b r s ru su rv sv M) (hd : DivOk r s Q R) :
    GcdI a b s R su (trimL (subL ru (trimL (mulL Q su)))) sv (trimL (subL rv (trimL (mulL Q sv)))) M := by
  have hlt := hd.lt
  rw [h.ts] at hlt
  have hlen : ∀ t u : List (Fin p), t.length + r.length ≤ M → u.length + s.length ≤ M → t.length + s.length ≤ M → (trimL (subL u (trimL (mulL Q t)))).length + s.length ≤ M := fun t u h1 h2 h3 => by
    have h4 : (trimL (subL u (trimL (mulL Q t)))).length ≤ max u.length (trimL (mulL Q t)).length := by
      refine Nat.le_trans (trimL_length_le _) ?_
      rw [subL, tab_length]; exact Nat.le_refl _
    have h5 : (trimL (mulL Q t)).length + s.length ≤ M := by
      by_cases hQ : Q = []
      · rw [mul_len_nil (.inl hQ)]; have := h.ls; simp; omega
      · by_cases ht : t = []
        · rw [mul_len_nil (.inr ht)]; have := h.ls; simp; omega
        · have h6 := hd.len hp hQ
          rw [h.tr, h.ts] at h6
          have h7 := mul_len_le Q t
          have := List.length_pos_iff.2 hQ
          have := List.length_pos_iff.2 ht
          omega
    omega
  have h1 := hlen su ru h.l1 h.l3 h.l2
  have h2 := hlen sv rv h.k1 h.k3 h.k2
  have hl2 := h.l2
  have hk2 := h.k2
  have hls := h.ls
  refine ⟨h.ts, hd.tr, h.e2, ?_, ?_, ?_, hls, by omega, by omega, by omega, by omega, by omega, by omega, by omega⟩
  · rw [ofL_trim, ofL_trim, ofL_sub, ofL_sub, ofL_trim, ofL_trim, ofL_mul, ofL_mul]
    exact gcd_lin h.e1 h.e2 hd.eq
  · obtain ⟨X, Y, e⟩ := h.d1
    exact ⟨addL (mulL X Q) Y, X, by rw [ofL_add, ofL_mul]; exact gcd_back e hd.eq⟩
  · obtain ⟨X, Y, e⟩ := h.d2
    exact ⟨addL (mulL X Q) Y, X, by rw [ofL_add, ofL_mul]; exact gcd_back e hd.eq⟩
structure GcdOk (a b d u v : List (Fin p)) (M : Nat) : Prop where
  td : trimL d = d
  tu : trimL u = u
  tv : trimL v = v
  top : co d (d.length - 1) = 1
  pos : d ≠ []
  eq : ofL u * ofL a + ofL v * ofL b = ofL d
  da : ∃ Q, DivOk a d Q []
  db : ∃ Q, DivOk b d Q []
  ld : d.length ≤ M
  lu : u.length ≤ M
  lv : v.length ≤ M
theorem ofL_sgl_mul (hp : IsPrime p) {x : Fin p} (hx : x ≠ 0) : ofL [Zp.inv x] * ofL [x] = (1 : PS p) := by
  rw [← ofL_mul, ← ofL_one]
  refine funext fun i => ?_
  rw [ofL_ap, ofL_ap, co_mulL_sgl]
  cases i with
  | zero => exact inv_mul' hp hx
  | succ i => rw [co_of_ge (by simp), co_of_ge (by simp)]; grind
theorem GcdI.done (hp : IsPrime p) {a b r ru su rv sv : List (Fin p)} {M : Nat} (h : GcdI a b r [] ru su rv sv M) (hr : r ≠ []) {n : Nat} (hn : r.length = n + 1) :
    GcdOk a b (trimL (mulL r [Zp.inv (co r n)])) (trimL (mulL ru [Zp.inv (co r n)])) (trimL (mulL rv [Zp.inv (co r n)])) M := by
  have hpos : 0 < (trimL r).length := by rw [h.tr]; omega
  have htop := top_ne hpos
  rw [h.tr, hn, Nat.add_sub_cancel] at htop
  have hi := inv_mul' hp htop
  have hi0 : Zp.inv (co r n) ≠ 0 := fun e => by rw [e] at hi; have := one_ne_zero hp; grind
  have hs := ofL_sgl_mul hp htop
  generalize Zp.inv (co r n) = c at *
  have hlen : (trimL (mulL r [c])).length = n + 1 := TrimAt.length (trimAt_iff_co.2 ⟨fun i hi => by rw [co_mulL_sgl, co_of_ge (l := r) (by omega)]; grind, .inr (by
    rw [Nat.add_sub_cancel, co_mulL_sgl]; exact mul_ne_zero hp htop hi0)⟩)
  have hle : ∀ t : List (Fin p), t.length ≤ M → (trimL (mulL t [c])).length ≤ M := fun t ht => by
    have := mul_len_le t [c]
    simp only [List.length_cons, List.length_nil] at this
    omega
  have hdv : ∀ x : List (Fin p), (∃ X Y : List (Fin p), ofL x = ofL X * ofL r + ofL Y * ofL ([] : List (Fin p))) → ∃ Q, DivOk x (trimL (mulL r [c])) Q [] := fun x ⟨X, Y, e⟩ => by
    refine ⟨trimL (mulL X [co r n]), trimL_trim _, rfl, by rw [trimL_trim, hlen]; simp, ?_⟩
    rw [e, ofL_nil, PS.mul_zero, PS.add_zero, PS.add_zero, ofL_trim, ofL_trim, ofL_mul, ofL_mul]
    have e2 : ofL X * ofL [co r n] * (ofL r * ofL [c]) = ofL X * ofL r * (ofL [c] * ofL [co r n]) := by
      rw [PS.mul_assoc, PS.mul_assoc]
      congr 1
      rw [PS.mul_left_comm]
      congr 1
      rw [PS.mul_comm]
    rw [e2, hs, PS.mul_one]
  have hl3 := h.l3
  have hk3 := h.k3
  simp only [List.length_nil, Nat.add_zero] at hl3 hk3
  refine ⟨trimL_trim _, trimL_trim _, trimL_trim _, ?_, ?_, ?_, hdv a h.d1, hdv b h.d2, hle r h.lr, hle ru hl3, hle rv hk3⟩
  · rw [hlen, Nat.add_sub_cancel, co_trim, co_mulL_sgl]; grind
  · intro e; rw [e] at hlen; simp at hlen
  · rw [ofL_trim, ofL_trim, ofL_trim, ofL_mul, ofL_mul, ofL_mul, h.e1, PS.add_mul]
    rw [PS.mul_assoc, PS.mul_assoc, PS.mul_assoc, PS.mul_assoc, PS.mul_comm (ofL [c]) (ofL a), PS.mul_comm (ofL [c]) (ofL b)]
theorem GcdI.zero {a b r s ru su rv sv : List (Fin p)} {M : Nat} (h : GcdI a b r s ru su rv sv M) (hr : r = []) (hs : s = []) : trimL a = [] ∧ trimL b = [] := by
  obtain ⟨X, Y, e⟩ := h.d1
  obtain ⟨X', Y', e'⟩ := h.d2
  rw [hr, hs, ofL_nil, PS.mul_zero, PS.mul_zero, PS.add_zero, ← ofL_nil] at e e'
  exact ⟨trim_of_ofL e, trim_of_ofL e'⟩
theorem GcdOk.made {a b d u v : List (Fin p)} {M : Nat} (h : GcdOk a b d u v M) : trimL (addL (trimL (mulL u a)) (trimL (mulL v b))) = d := by
  rw [← h.td]
  refine trim_of_ofL ?_
  rw [ofL_add, ofL_trim, ofL_trim, ofL_mul, ofL_mul, h.eq]
end gp
end Zp

namespace Go.Proofs.YtpkhcncempoohaaGreatDoor
open Zp
section gk
variable {p : Nat} [NeZero p]
def IsPoly (m : Nat) (g : Fin p → Fin p) : Prop := ∃ l : List (Fin p), l.length ≤ m ∧ ∀ t, g t = ev l t
theorem IsPoly.mono {m m' : Nat} {g : Fin p → Fin p} (h : IsPoly m g) (hm : m ≤ m') : IsPoly m' g := by
  obtain ⟨l, h1, h2⟩ := h
  exact ⟨l, by omega, h2⟩
theorem IsPoly.congr {m : Nat} {g g' : Fin p → Fin p} (h : IsPoly m g) (e : ∀ t, g' t = g t) : IsPoly m g' := by
  obtain ⟨l, h1, h2⟩ := h
  exact ⟨l, h1, fun t => (e t).trans (h2 t)⟩
theorem IsPoly.const (c : Fin p) : IsPoly 1 (fun _ => c) := ⟨[c], by simp, fun t => by simp only [ev]; grind⟩
theorem IsPoly.lin (a b : Fin p) : IsPoly 2 (fun t => a + b * t) := ⟨[a, b], by simp, fun t => by simp only [ev]; grind⟩
theorem IsPoly.add {m : Nat} {g g' : Fin p → Fin p} (h : IsPoly m g) (h' : IsPoly m g') : IsPoly m (fun t => g t + g' t) := by
  obtain ⟨l, h1, h2⟩ := h
  obtain ⟨l', h3, h4⟩ := h'
  refine ⟨trimL (addL l l'), trimL_length_of fun i hi => ?_, fun t => by show g t + g' t = _; rw [ev_trim, ev_addL, h2, h4]⟩
  rw [co_addL, co_of_ge (by omega), co_of_ge (by omega)]; grind
theorem IsPoly.mul {m m' : Nat} {g g' : Fin p → Fin p} (h : IsPoly (m + 1) g) (h' : IsPoly m' g') : IsPoly (m + m') (fun t => g t * g' t) := by
  obtain ⟨l, h1, h2⟩ := h
  obtain ⟨l', h3, h4⟩ := h'
  exact ⟨trimL (mulL l l'), by have := mul_len_le l l'; omega, fun t => by show g t * g' t = _; rw [ev_trim, ev_mulL, h2, h4]⟩
theorem IsPoly.smul {m : Nat} {g : Fin p → Fin p} (c : Fin p) (h : IsPoly m g) : IsPoly m (fun t => c * g t) := by
  have := (IsPoly.const c).mul (m := 0) h
  rw [Nat.zero_add] at this
  exact this
theorem IsPoly.sum {m : Nat} {g : Nat → Fin p → Fin p} (n : Nat) (h : ∀ i, i < n → IsPoly m (g i)) (hm : 1 ≤ m) : IsPoly m (fun t => sumT n fun i => g i t) := by
  induction n with
  | zero => exact (IsPoly.const 0).mono hm
  | succ n ih => exact (ih fun i hi => h i (by omega)).add (h n (by omega))
end gk
end Go.Proofs.YtpkhcncempoohaaGreatDoor

namespace Go.Proofs.YtpkhcncempoohaaGreatDoor
open Zp
section
variable {p : Nat} [NeZero p]
def combW (a : Fin p) : List (Nat → Fin p) → Nat → Fin p
  | [], _ => 0
  | w :: ws, j => w j + a * combW a ws j
def divW (b : Fin p) : List (Nat → Fin p) → List (Nat → Fin p)
  | [] => []
  | [_] => []
  | _ :: w' :: ws => combW b (w' :: ws) :: divW b (w' :: ws)
theorem divW_length (b : Fin p) : ∀ ws : List (Nat → Fin p), (divW b ws).length = ws.length - 1
  | [] => rfl
  | [_] => rfl
  | _ :: w' :: ws => by
    rw [divW, List.length_cons, divW_length b (w' :: ws)]
    simp
theorem comb_div (a b : Fin p) (j : Nat) : ∀ ws : List (Nat → Fin p), combW a ws j - combW b ws j = (a - b) * combW a (divW b ws) j
  | [] => by simp only [combW, divW]; grind
  | [w] => by simp only [combW, divW]; grind
  | w :: w' :: ws => by
    have ih := comb_div a b j (w' :: ws)
    have e1 : combW a (w :: w' :: ws) j = w j + a * combW a (w' :: ws) j := rfl
    have e2 : combW b (w :: w' :: ws) j = w j + b * combW b (w' :: ws) j := rfl
    have e3 : combW a (divW b (w :: w' :: ws)) j = combW b (w' :: ws) j + a * combW a (divW b (w' :: ws)) j := rfl
    rw [e1, e2, e3]
    generalize combW a (w' :: ws) j = A at *
    generalize combW b (w' :: ws) j = B at *
    generalize combW a (divW b (w' :: ws)) j = Q at *
    grind
structure LinW (C : (Nat → Fin p) → Prop) : Prop where
  zero : C fun _ => 0
  add : ∀ u v, C u → C v → C fun j => u j + v j
  smul : ∀ (c : Fin p) u, C u → C fun j => c * u j
  ext : ∀ u v, (∀ j, u j = v j) → C u → C v
theorem LinW.sub {C : (Nat → Fin p) → Prop} (h : LinW C) {u v : Nat → Fin p} (hu : C u) (hv : C v) : C fun j => u j - v j :=
  h.ext _ _ (fun j => by grind) (h.add u (fun j => (-1 : Fin p) * v j) hu (h.smul (-1) v hv))
theorem div_mem {C : (Nat → Fin p) → Prop} (h : LinW C) (b : Fin p) : ∀ ws : List (Nat → Fin p), C (combW b ws) → (∀ w ∈ divW b ws, C w) → ∀ w ∈ ws, C w
  | [], _, _ => by simp
  | [w], h0, _ => by
    intro v hv
    obtain rfl := List.mem_singleton.1 hv
    exact h.ext _ _ (fun j => by simp only [combW]; grind) h0
  | w :: w' :: ws, h0, h1 => by
    have hc : C (combW b (w' :: ws)) := h1 _ (by rw [divW]; exact List.mem_cons_self)
    intro v hv
    rcases List.mem_cons.1 hv with rfl | hv
    · refine h.ext _ _ (fun j => ?_) (h.sub h0 (h.smul b _ hc))
      show v j + b * combW b (w' :: ws) j - b * combW b (w' :: ws) j = v j
      grind
    · exact div_mem h b (w' :: ws) hc (fun u hu => h1 u (by rw [divW]; exact List.mem_cons_of_mem _ hu)) v hv
theorem vander {C : (Nat → Fin p) → Prop} (hp : IsPrime p) (h : LinW C) : ∀ (m : Nat) (ws : List (Nat → Fin p)) (S : List (Fin p)), ws.length = m → S.Nodup → m ≤ S.length → (∀ a ∈ S, C (combW a ws)) → ∀ w ∈ ws, C w := by
  intro m
  induction m with
  | zero => intro ws S hl _ _ _ w hw; rw [List.length_eq_zero_iff.1 hl] at hw; cases hw
  | succ m ih =>
    intro ws S hl hn hm hS
    cases S with
    | nil => simp at hm
    | cons b S =>
      have hb := hS b List.mem_cons_self
      obtain ⟨hbS, hn'⟩ := List.nodup_cons.1 hn
      refine div_mem h b ws hb (ih (divW b ws) S (by rw [divW_length, hl]; rfl) hn' (by simpa using hm) fun a ha => ?_)
      have hne : a - b ≠ 0 := fun e => hbS (by have : a = b := by grind
                                               rw [← this]; exact ha)
      have h1 := h.smul (Zp.inv (a - b)) _ (h.sub (hS a (List.mem_cons_of_mem _ ha)) hb)
      refine h.ext _ _ (fun j => ?_) h1
      rw [comb_div a b j ws]
      have h2 := mul_inv hp hne
      generalize combW a (divW b ws) j = Q at *
      generalize Zp.inv (a - b) = I at *
      generalize a - b = X at *
      grind
theorem poly_agree (hp : IsPrime p) {m : Nat} {g g' : Fin p → Fin p} (h : IsPoly m g) (h' : IsPoly m g') {S : List (Fin p)} (hn : S.Nodup) (hm : m ≤ S.length) (hS : ∀ x ∈ S, g x = g' x) (t : Fin p) : g t = g' t := by
  obtain ⟨l, h1, h2⟩ := h
  obtain ⟨l', h3, h4⟩ := h'
  have hz : ∀ x ∈ S, ev (subL l l') x = 0 := fun x hx => by rw [ev_subL, ← h2, ← h4, hS x hx]; grind
  have h0 : (trimL (subL l l')).length = 0 := by
    rcases Nat.eq_zero_or_pos (trimL (subL l l')).length with h | h
    · exact h
    · have h5 := roots_lt hp h hn hz
      have h6 : (trimL (subL l l')).length ≤ m := trimL_length_of fun i hi => by rw [co_subL, co_of_ge (by omega), co_of_ge (by omega)]; grind
      omega
  have h7 := ev_trim (subL l l') t
  rw [List.length_eq_zero_iff.1 h0, ev_subL] at h7
  rw [h2, h4]
  simp only [ev] at h7
  grind
theorem zero_of_div {m : Nat} (hp : IsPrime p) {g q d : Fin p → Fin p} {mg mq md : Nat} (hg : IsPoly mg g) (hq : IsPoly (mq + 1) q) (hd : IsPoly md d) {S : List (Fin p)} (hn : S.Nodup) (h1 : mg ≤ S.length) (h2 : mq + md ≤ S.length) (hS : ∀ x ∈ S, g x = q x * d x) {t : Fin p} (ht : d t = 0) : g t = 0 := by
  have h3 := poly_agree hp (hg.mono h1) ((hq.mul hd).mono h2) hn (Nat.le_refl _) hS t
  rw [h3, ht]
  grind
end
end Go.Proofs.YtpkhcncempoohaaGreatDoor

namespace Zp
section fp
variable {p : Nat} [NeZero p]
theorem co_two_zero (c d : Fin p) : co [c, d] 0 = c := rfl
theorem co_two_one (c d : Fin p) : co [c, d] 1 = d := rfl
theorem co_two_ge (c d : Fin p) {m : Nat} (h : 2 ≤ m) : co [c, d] m = 0 := co_of_ge (by simpa using h)
theorem co_mulL_two (c : Fin p) : ∀ (o : List (Fin p)) (m : Nat), co (mulL o [c, 1]) m = co o m * c + if m = 0 then 0 else co o (m - 1)
  | [], m => by
    simp only [mulL, co_nil]
    split <;> grind
  | y :: o, 0 => by
    rw [co_mulL_cons, co_two_zero, if_pos rfl, if_pos rfl, co_cons_zero y o]
  | y :: o, m + 1 => by
    rw [co_mulL_cons, if_neg (by omega), if_neg (by omega), Nat.add_sub_cancel, co_cons_succ y o m, co_mulL_two c o m]
    cases m with
    | zero => rw [co_two_one, if_pos rfl, co_cons_zero y o]; grind
    | succ m => rw [co_two_ge c 1 (m := m + 1 + 1) (by omega), if_neg (by omega), Nat.add_sub_cancel, co_cons_succ y o m]; grind
structure Monic (o : List (Fin p)) (n : Nat) : Prop where
  len : o.length = n + 1
  top : co o n = 1
theorem Monic.trim (hp : IsPrime p) {o : List (Fin p)} {n : Nat} (h : Monic o n) : trimL o = o := by
  have : TrimAt o (n + 1) := trimAt_iff_co.2 ⟨fun i hi => co_of_ge (by rw [h.len]; exact hi), .inr (by rw [Nat.add_sub_cancel, h.top]; exact one_ne_zero hp)⟩
  rw [this.trim, ← h.len, List.take_length]
theorem Monic.vanS (hp : IsPrime p) {o : List (Fin p)} {n : Nat} (h : Monic o n) (x : Fin p) : Monic (vanS o x) (n + 1) ∧ ∀ m, co (vanS o x) m = co o m * (0 - x) + if m = 0 then 0 else co o (m - 1) := by
  have hc : ∀ m, co (Zp.vanS o x) m = co o m * (0 - x) + if m = 0 then 0 else co o (m - 1) := fun m => by rw [Zp.vanS, co_trim, co_mulL_two]
  have ht : co (Zp.vanS o x) (n + 1) = 1 := by
    rw [hc, if_neg (by omega), Nat.add_sub_cancel, h.top, co_of_ge (by rw [h.len]; exact Nat.le_refl _)]; grind
  refine ⟨⟨?_, ht⟩, hc⟩
  have : TrimAt (mulL o [0 - x, 1]) (n + 2) := trimAt_iff_co.2 ⟨fun i hi => by
    rw [co_mulL_two, if_neg (by omega), co_of_ge (by rw [h.len]; omega), co_of_ge (by rw [h.len]; omega)]; grind, .inr (by
    rw [show n + 2 - 1 = n + 1 from rfl, ← co_trim]
    exact fun e => one_ne_zero hp (ht.symm.trans e))⟩
  exact this.length
theorem monic_one : Monic ([1] : List (Fin p)) 0 := ⟨rfl, rfl⟩
theorem monic_foldV (hp : IsPrime p) : ∀ (l o : List (Fin p)) (n : Nat), Monic o n → Monic (l.foldl Zp.vanS o) (n + l.length)
  | [], o, n, h => h
  | x :: l, o, n, h => by
    rw [List.foldl_cons, List.length_cons, show n + (l.length + 1) = n + 1 + l.length from by omega]
    exact monic_foldV hp l _ _ (h.vanS hp x).1
theorem monic_van (hp : IsPrime p) (l : List (Fin p)) : Monic (vanL l) l.length := by
  have := monic_foldV hp l [1] 0 monic_one
  rwa [Nat.zero_add] at this
def VanIn (o : List (Fin p)) (x : Fin p) (k : Nat) (N : List (Fin p)) : Prop := N.length = o.length + 1 ∧ ∀ m, co N m = (if 1 ≤ m ∧ m ≤ k then co o (m - 1) else 0) - (if m < k then x * co o m else 0)
theorem VanIn.start (o : List (Fin p)) (x : Fin p) (n : Nat) (h : n = o.length + 1) : VanIn o x 0 (List.replicate n 0) := ⟨by simp [h], fun m => by
  have e : co (List.replicate n (0 : Fin p)) m = 0 := by
    unfold co
    rw [List.getElem?_replicate]
    split <;> rfl
  rw [e, if_neg (by omega), if_neg (by omega)]; grind⟩
theorem co_set' (L : List (Fin p)) (j : Nat) (x : Fin p) (hj : j < L.length) (m : Nat) : co (L.set j x) m = if m = j then x else co L m := by
  unfold co
  rw [List.getElem?_set]
  by_cases h : m = j
  · subst h; rw [if_pos rfl, if_pos rfl, if_pos hj]; rfl
  · rw [if_neg (fun e => h e.symm), if_neg h]
theorem VanIn.step {o : List (Fin p)} {x : Fin p} {k : Nat} {N : List (Fin p)} (h : VanIn o x k N) (hk : k < o.length) {a c : Fin p} (ha : a = co N (k + 1) + co o k) (hc : c = co N k - x * co o k) : VanIn o x (k + 1) ((N.set (k + 1) a).set k c) := by
  have hl := h.1
  refine ⟨by rw [List.length_set, List.length_set, hl], fun m => ?_⟩
  rw [co_set' _ _ _ (by rw [List.length_set]; omega), co_set' _ _ _ (by omega)]
  by_cases h1 : m = k
  · subst h1
    rw [if_pos rfl, hc, h.2 m, if_neg (show ¬ m < m by omega), if_pos (show m < m + 1 by omega)]
    by_cases h2 : 1 ≤ m
    · rw [if_pos ⟨h2, Nat.le_refl _⟩, if_pos ⟨h2, by omega⟩]; grind
    · rw [if_neg (by omega), if_neg (by omega)]; grind
  · rw [if_neg h1]
    by_cases h2 : m = k + 1
    · subst h2
      rw [if_pos rfl, ha, h.2, if_neg (by omega), if_neg (by omega), if_pos ⟨by omega, Nat.le_refl _⟩, if_neg (by omega), Nat.add_sub_cancel]; grind
    · rw [if_neg h2, h.2]
      by_cases h3 : m < k
      · rw [if_pos h3, if_pos (show m < k + 1 by omega)]
        by_cases h4 : 1 ≤ m
        · rw [if_pos ⟨h4, by omega⟩, if_pos ⟨h4, by omega⟩]
        · rw [if_neg (by omega), if_neg (by omega)]
      · rw [if_neg h3, if_neg (show ¬ m < k + 1 by omega), if_neg (by omega), if_neg (by omega)]
theorem VanIn.done (hp : IsPrime p) {o : List (Fin p)} {x : Fin p} {n : Nat} {N : List (Fin p)} (ho : Monic o n) (h : VanIn o x o.length N) : N = vanS o x := by
  obtain ⟨h1, h2⟩ := ho.vanS hp x
  refine ext_co (by rw [h.1, h1.len, ho.len]) fun m hm => ?_
  rw [h.1, ho.len] at hm
  rw [h.2, h2, ho.len]
  by_cases h3 : m < n + 1
  · rw [if_pos h3]
    by_cases h4 : m = 0
    · subst h4; rw [if_neg (by omega), if_pos rfl]; grind
    · rw [if_pos ⟨by omega, by omega⟩, if_neg h4]; grind
  · rw [if_neg h3, if_pos (show 1 ≤ m ∧ m ≤ n + 1 from ⟨by omega, by omega⟩), if_neg (show ¬ m = 0 by omega), co_of_ge (l := o) (i := m) (by rw [ho.len]; omega)]; grind
def PP : List (Fin p) → PS p
  | [] => 1
  | x :: l => ofL [0 - x, 1] * PP l
theorem ofL_foldV : ∀ (l o : List (Fin p)), ofL (l.foldl vanS o) = ofL o * PP l
  | [], o => by rw [List.foldl_nil, PP, PS.mul_one]
  | x :: l, o => by rw [List.foldl_cons, ofL_foldV l, vanS, ofL_trim, ofL_mul, PP, PS.mul_assoc]
theorem ofL_van (l : List (Fin p)) : ofL (vanL l) = PP l := by rw [vanL, ofL_foldV, ofL_one, PS.one_mul]
theorem PP_erase : ∀ (l : List (Fin p)) (i : Nat) (h : i < l.length), PP l = ofL [0 - l[i], 1] * PP (l.eraseIdx i)
  | x :: l, 0, _ => rfl
  | x :: l, i + 1, h => by
    rw [List.eraseIdx_cons_succ, PP, PP, PP_erase l i (by simpa using h), PS.mul_left_comm]
    rfl
theorem lin_ne (hp : IsPrime p) (c : Fin p) : ofL [c, 1] ≠ 0 := fun h => one_ne_zero hp (congrFun h 1)
structure PartOk (V : List (Fin p)) (x : Fin p) (P : List (Fin p)) : Prop where
  co : ∀ i, Zp.co P i = ev (V.drop (i + 1)) x
theorem ev_drop (V : List (Fin p)) (x : Fin p) (i : Nat) : ev (V.drop i) x = co V i + x * ev (V.drop (i + 1)) x := by
  rcases Nat.lt_or_ge i V.length with h | h
  · rw [List.drop_eq_getElem_cons h, ev, co_of_lt h]
  · rw [List.drop_eq_nil_of_le h, List.drop_eq_nil_of_le (by omega), co_of_ge h, ev]; grind
theorem PartOk.mul {V P : List (Fin p)} {x : Fin p} (h : PartOk V x P) (h0 : ev V x = 0) : ofL V = ofL P * ofL [0 - x, 1] := by
  rw [← ofL_mul]
  refine funext fun m => ?_
  rw [ofL_ap, ofL_ap, co_mulL_two, h.co]
  cases m with
  | zero =>
    have e := ev_drop V x 0
    rw [List.drop_zero, h0] at e
    rw [if_pos rfl]; grind
  | succ m =>
    have e := ev_drop V x (m + 1)
    rw [if_neg (by omega), Nat.add_sub_cancel, h.co]; grind
theorem PartOk.van (hp : IsPrime p) {l P : List (Fin p)} {i : Nat} (hi : i < l.length) (h : PartOk (vanL l) l[i] P) (j : Nat) : Zp.co P j = Zp.co (vanL (butI l (i : Int))) j := by
  have h1 := h.mul (vanL_zero (List.getElem_mem hi))
  rw [ofL_van, PP_erase l i hi] at h1
  have h2 : ofL P = PP (l.eraseIdx i) := by
    refine PS.mul_right_cancel hp (lin_ne hp (0 - l[i])) ?_
    rw [← h1, PS.mul_comm]
  have h3 : ofL (vanL (butI l (i : Int))) = PP (l.eraseIdx i) := by
    rw [ofL_van]
    unfold butI
    rw [if_pos (by omega), Int.toNat_natCast]
  exact congrFun (h2.trans h3.symm) j
structure FitSum (xs ys : List (Fin p)) (k : Nat) (S : List (Fin p)) : Prop where
  len : S.length = xs.length
  is : ∃ o, Fitted xs ys k o ∧ ∀ i, co S i = co o i
theorem FitSum.start (xs ys : List (Fin p)) (n : Nat) (h : n = xs.length) : FitSum xs ys 0 (List.replicate n 0) := ⟨by simp [h], [], Fitted.start xs ys, fun i => by
  have e : co (List.replicate n (0 : Fin p)) i = 0 := by
    unfold co
    rw [List.getElem?_replicate]
    split <;> rfl
  rw [e, co_nil]⟩
def FitIn (P : List (Fin p)) (c : Fin p) (k : Nat) (S M : List (Fin p)) : Prop := M.length = S.length ∧ ∀ m, co M m = co S m + if m < k then c * co P m else 0
theorem FitIn.start (P : List (Fin p)) (c : Fin p) (S : List (Fin p)) : FitIn P c 0 S S := ⟨rfl, fun m => by rw [if_neg (by omega)]; grind⟩
theorem FitIn.step {P : List (Fin p)} {c : Fin p} {k : Nat} {S M : List (Fin p)} (h : FitIn P c k S M) (hk : k < S.length) : FitIn P c (k + 1) S (M.set k (co M k + c * co P k)) := by
  refine ⟨by rw [List.length_set, h.1], fun m => ?_⟩
  rw [co_set' _ _ _ (by rw [h.1]; exact hk)]
  by_cases hm : m = k
  · subst hm; rw [if_pos rfl, h.2, if_neg (by omega), if_pos (by omega)]; grind
  · rw [if_neg hm, h.2]
    by_cases h1 : m < k
    · rw [if_pos h1, if_pos (by omega)]
    · rw [if_neg h1, if_neg (by omega)]
theorem FitSum.step (hp : IsPrime p) {xs ys : List (Fin p)} (hx : xs.Nodup) {k : Nat} {S M P : List (Fin p)} (h : FitSum xs ys k S) (hk : k < xs.length) (hP : PartOk (vanL xs) (co xs k) P) (hPl : P.length = xs.length)
    {c : Fin p} (hc : c = co ys k * Zp.inv (ev P (co xs k))) (hm : FitIn P c P.length S M) : FitSum xs ys (k + 1) M := by
  obtain ⟨o, ho, hS⟩ := h.is
  have hv := fun j => PartOk.van hp hk (by rw [← co_of_lt hk]; exact hP) j
  refine ⟨by rw [hm.1, h.len], _, ho.step hp hx hk, fun i => ?_⟩
  rw [hm.2, co_trim, co_addL, co_sclL, if_neg (show ¬ i < 0 by omega), Nat.sub_zero, hS, ← ev_congr hv, ← hv, ← hc]
  by_cases hi : i < P.length
  · rw [if_pos hi]; grind
  · rw [if_neg hi, co_of_ge (l := P) (by omega)]; grind
theorem FitSum.done {xs ys S : List (Fin p)} (h : FitSum xs ys xs.length S) : Fitted xs ys xs.length (trimL S) := by
  obtain ⟨o, ho, hS⟩ := h.is
  have e : trimL S = o := by rw [← ho.trim]; exact trimL_congr hS
  rw [e]; exact ho
end fp
end Zp

namespace Go.Proofs.YtpkhcncempoohaaGreatDoor
open Zp
section
variable {p : Nat} [NeZero p]
theorem prodL_perm {l m : List (Fin p)} (h : l.Perm m) : prodL l = prodL m := by
  induction h with
  | nil => rfl
  | cons x _ ih => simp only [prodL]; rw [ih]
  | swap x y l => simp only [prodL]; grind
  | trans _ _ ih1 ih2 => rw [ih1, ih2]
def prX (l : List (Fin p)) (y : Fin p) : Fin p := prodL (l.map fun x => y - x)
theorem prX_cons (a : Fin p) (l : List (Fin p)) (y : Fin p) : prX (a :: l) y = (y - a) * prX l y := rfl
theorem prX_perm {l m : List (Fin p)} (h : l.Perm m) (y : Fin p) : prX l y = prX m y := prodL_perm (h.map _)
theorem prX_same (hp : IsPrime p) {l m : List (Fin p)} (hl : l.length = m.length) {S : List (Fin p)} (hn : S.Nodup) (hm : l.length ≤ S.length) (hS : ∀ x ∈ S, prX l x = prX m x) (y : Fin p) : prX l y = prX m y := by
  have h1 := monic_van hp l
  have h2 := monic_van hp m
  have hz : ∀ x ∈ S, ev (subL (vanL l) (vanL m)) x = 0 := fun x hx => by
    rw [ev_subL, ev_vanL, ev_vanL]
    have := hS x hx
    unfold prX at this
    rw [this]; grind
  have h0 : (trimL (subL (vanL l) (vanL m))).length = 0 := by
    rcases Nat.eq_zero_or_pos (trimL (subL (vanL l) (vanL m))).length with h | h
    · exact h
    · have h5 := roots_lt hp h hn hz
      have h6 : (trimL (subL (vanL l) (vanL m))).length ≤ l.length := trimL_length_of fun i hi => by
        rw [co_subL]
        by_cases hi' : i = l.length
        · have e1 : co (vanL l) i = 1 := by rw [hi']; exact h1.top
          have e2 : co (vanL m) i = 1 := by rw [hi', hl]; exact h2.top
          rw [e1, e2]; grind
        · rw [co_of_ge (by have := h1.len; omega), co_of_ge (by have := h2.len; omega)]; grind
      omega
  have h7 := ev_trim (subL (vanL l) (vanL m)) y
  rw [List.length_eq_zero_iff.1 h0, ev_subL, ev_vanL, ev_vanL] at h7
  simp only [ev] at h7
  unfold prX
  grind
theorem mem_of_zero (hp : IsPrime p) {l : List (Fin p)} {y : Fin p} (h : prX l y = 0) : y ∈ l := by
  false_or_by_contra
  rename_i hn
  have := vanL_ne hp hn
  rw [ev_vanL] at this
  exact this h
theorem prX_zero (a : Fin p) (l : List (Fin p)) : prX (a :: l) a = 0 := by rw [prX_cons]; grind
theorem perm_of_prod (hp : IsPrime p) : ∀ (l m S : List (Fin p)), l.length = m.length → S.Nodup → l.length ≤ S.length → (∀ x ∈ S, prX l x = prX m x) → l.Perm m := by
  intro l
  induction l with
  | nil => intro m S hl _ _ _; rw [List.length_eq_zero_iff.1 hl.symm]
  | cons a l ih =>
    intro m S hl hn hm hS
    have h1 := prX_same hp hl hn hm hS a
    rw [prX_zero] at h1
    have ha := mem_of_zero hp h1.symm
    have hpm := List.perm_cons_erase ha
    refine (List.Perm.cons a ?_).trans hpm.symm
    refine ih (m.erase a) (S.erase a) ?_ (hn.erase a) ?_ fun x hx => ?_
    · rw [List.length_erase_of_mem ha]
      simp only [List.length_cons] at hl
      omega
    · by_cases hs : a ∈ S
      · rw [List.length_erase_of_mem hs]
        simp only [List.length_cons] at hm
        omega
      · rw [List.erase_of_not_mem hs]
        simp only [List.length_cons] at hm
        omega
    · have hxS : x ∈ S := List.mem_of_mem_erase hx
      have hxa : x ≠ a := fun e => by
        subst e
        exact (hn.not_mem_erase) hx
      have h2 := hS x hxS
      rw [prX_perm hpm, prX_cons, prX_cons] at h2
      have hne : x - a ≠ 0 := fun e => hxa (by grind)
      have h3 : (x - a) * (prX l x - prX (m.erase a) x) = 0 := by grind
      have h4 := (mul_eq_zero hp h3).resolve_left hne
      grind
end
end Go.Proofs.YtpkhcncempoohaaGreatDoor

namespace Go.Proofs.YtpkhcncempoohaaGreatDoor
open Zp
section
variable {p : Nat} [NeZero p]
structure SortW (b w : Nat → Fin p) (N : Nat) : Prop where
  b0 : b 0 = 0
  d : ∀ i, i + 1 < N → (b (i + 1) - b i) * ((b (i + 1) - b i) - 1) = 0
  e : ∀ i, i + 1 < N → ((b (i + 1) - b i) - 1) * (w (i + 1) - w i) = 0
theorem el_natInj {i k : Nat} (hi : i < p) (hk : k < p) (h : el p (i : Int) = el p (k : Int)) : i = k := by
  have h1 := congrArg fv h
  rw [fv_el, fv_el, Int.emod_eq_of_lt (by omega) (by omega), Int.emod_eq_of_lt (by omega) (by omega)] at h1
  omega
theorem SortW.up (hp : IsPrime p) {b w : Nat → Fin p} {N : Nat} (h : SortW b w N) : ∀ k, k < N → ∃ m : Nat, m ≤ k ∧ b k = el p (m : Int) ∧ ∀ i, i ≤ k → ∃ mi : Nat, mi ≤ m ∧ b i = el p (mi : Int) ∧ (mi = m → w i = w k) := by
  intro k
  induction k with
  | zero => exact fun _ => ⟨0, Nat.le_refl _, by rw [h.b0]; exact el_zero.symm, fun i hi => ⟨0, Nat.le_refl _, by rw [show i = 0 by omega, h.b0]; exact el_zero.symm, fun _ => by rw [show i = 0 by omega]⟩⟩
  | succ k ih =>
    intro hk
    obtain ⟨m, hm, hb, hi⟩ := ih (by omega)
    have hd := h.d k hk
    have he := h.e k hk
    rcases mul_eq_zero hp hd with h0 | h1
    · have hbb : b (k + 1) = b k := by grind
      have hw : w (k + 1) = w k := by
        rw [h0] at he
        have : (0 - 1 : Fin p) * (w (k + 1) - w k) = 0 - (w (k + 1) - w k) := by grind
        rw [this] at he
        grind
      refine ⟨m, by omega, by rw [hbb, hb], fun i hik => ?_⟩
      by_cases e : i ≤ k
      · obtain ⟨mi, a1, a2, a3⟩ := hi i e
        exact ⟨mi, a1, a2, fun h => (a3 h).trans hw.symm⟩
      · rw [show i = k + 1 by omega]
        exact ⟨m, Nat.le_refl _, by rw [hbb, hb], fun _ => rfl⟩
    · have hbb : b (k + 1) = el p ((m + 1 : Nat) : Int) := by
        have e1 : el p ((m + 1 : Nat) : Int) = el p (m : Int) + 1 := by
          rw [← el_one, ← el_add]; rfl
        rw [e1, ← hb]; grind
      refine ⟨m + 1, by omega, hbb, fun i hik => ?_⟩
      by_cases e : i ≤ k
      · obtain ⟨mi, a1, a2, _⟩ := hi i e
        exact ⟨mi, by omega, a2, fun h => by omega⟩
      · rw [show i = k + 1 by omega]
        exact ⟨m + 1, Nat.le_refl _, hbb, fun _ => rfl⟩
theorem SortW.same (hp : IsPrime p) {b w : Nat → Fin p} {N : Nat} (h : SortW b w N) (hN : N ≤ p) {i k : Nat} (hi : i < N) (hk : k < N) (e : b i = b k) : w i = w k := by
  have key : ∀ i k, i ≤ k → k < N → b i = b k → w i = w k := fun i k hik hk e => by
    obtain ⟨m, hm, hb, hall⟩ := h.up hp k hk
    obtain ⟨mi, a1, a2, a3⟩ := hall i hik
    have hmk : el p (mi : Int) = el p (m : Int) := by rw [← a2, ← hb, e]
    have l1 : mi < p := by omega
    have l2 : m < p := by omega
    exact a3 (el_natInj l1 l2 hmk)
  by_cases h1 : i ≤ k
  · exact key i k h1 hk e
  · exact (key k i (by omega) hi e.symm).symm
open Classical in
noncomputable def memW (b w : Nat → Fin p) (N : Nat) (x : Fin p) : Fin p := if h : ∃ i, i < N ∧ b i = x then w h.choose else 0
theorem SortW.mem (hp : IsPrime p) {b w : Nat → Fin p} {N : Nat} (h : SortW b w N) (hN : N ≤ p) {i : Nat} (hi : i < N) : w i = memW b w N (b i) := by
  have hex : ∃ k, k < N ∧ b k = b i := ⟨i, hi, rfl⟩
  unfold memW
  rw [dif_pos hex]
  exact h.same hp hN hi hex.choose_spec.1 hex.choose_spec.2.symm
end
end Go.Proofs.YtpkhcncempoohaaGreatDoor

namespace Go.Proofs.YtpkhcncempoohaaGreatDoor
open Zp
structure InsI where
  op : Int
  a : Int
  b : Int
  c : Int
section
variable {p : Nat} [NeZero p]
structure StM (p : Nat) where
  pc : Fin p
  fp : Fin p
  ap : Fin p
  rv : Fin p
  mem : Fin p → Option (Fin p)
inductive ResM (p : Nat) where
  | blank
  | stuck
  | next (s : StM p)
  | halt (v : Fin p)
def tellM (m : Fin p → Option (Fin p)) (x v : Fin p) : Option (Fin p → Option (Fin p)) :=
  match m x with
  | none => some fun y => if y = x then some v else m y
  | some u => if u = v then some m else none
def compM (op : Int) (a b : Fin p) : Fin p :=
  if op = 1 then a + b else if op = 2 then a - b else if op = 3 then a * b else if op = 4 then a * Zp.inv b else if a = b then 1 else 0
def toldM (s : StM p) (m : Option (Fin p → Option (Fin p))) (k : (Fin p → Option (Fin p)) → ResM p) : ResM p := match m with
  | none => .stuck
  | some m' => k m'
def lookM (s : StM p) (x : Fin p) (k : Fin p → ResM p) : ResM p := match s.mem x with
  | none => .blank
  | some v => k v
def oneM (s : StM p) (x : InsI) : ResM p :=
  if x.op = 0 then lookM s (s.fp + el p x.a) fun v => .halt v
  else if x.op = 1 ∨ x.op = 2 ∨ x.op = 3 ∨ x.op = 4 ∨ x.op = 6 then
    lookM s (s.fp + el p x.a) fun a => lookM s (s.fp + el p x.b) fun b => if x.op = 4 ∧ b = 0 then .stuck else
      toldM s (tellM s.mem (s.fp + el p x.c) (compM x.op a b)) fun m => .next { s with pc := s.pc + 1, mem := m }
  else if x.op = 5 then toldM s (tellM s.mem (s.fp + el p x.a) (el p x.b)) fun m => .next { s with pc := s.pc + 1, mem := m }
  else if x.op = 7 then lookM s (s.fp + el p x.a) fun a => lookM s (s.fp + el p x.b) fun b => if a = b then .next { s with pc := s.pc + 1 } else .stuck
  else if x.op = 8 then .next { s with pc := el p x.a }
  else if x.op = 9 then lookM s (s.fp + el p x.a) fun a => .next { s with pc := if a = 0 then el p x.b else s.pc + 1 }
  else if x.op = 10 then toldM s (tellM s.mem s.ap s.fp) fun m => toldM s (tellM m (s.ap + 1) (s.pc + 1)) fun m' => .next { s with pc := el p x.a, fp := s.ap + (1 + 1), ap := s.ap + (1 + 1) + el p x.b, mem := m' }
  else if x.op = 11 then lookM s (s.fp - (1 + 1)) fun f => lookM s (s.fp - 1) fun c => lookM s (s.fp + el p x.a) fun v => .next { s with pc := c, fp := f, rv := v }
  else if x.op = 12 then toldM s (tellM s.mem (s.fp + el p x.a) s.rv) fun m => .next { s with pc := s.pc + 1, mem := m }
  else if x.op = 13 then lookM s (s.fp + el p x.a) fun v => toldM s (tellM s.mem (s.ap + (1 + 1) + el p x.b) v) fun m => .next { s with pc := s.pc + 1, mem := m }
  else .stuck
def SubM (m : Fin p → Option (Fin p)) (M : Fin p → Fin p) : Prop := ∀ x v, m x = some v → v = M x
omit [NeZero p] in
theorem SubM.tell {m : Fin p → Option (Fin p)} {M : Fin p → Fin p} (h : SubM m M) {x v : Fin p} (hv : v = M x) : ∃ m', tellM m x v = some m' ∧ SubM m' M := by
  unfold tellM
  rcases hm : m x with _ | u
  · refine ⟨_, rfl, fun y u hy => ?_⟩
    by_cases e : y = x
    · rw [if_pos e] at hy
      injection hy with hy
      rw [← hy, hv, e]
    · rw [if_neg e] at hy
      exact h y u hy
  · have hu := h x u hm
    exact ⟨m, if_pos (by rw [hu, hv]), h⟩
structure RowOk (M : Fin p → Fin p) (s : StM p) (x : InsI) (k : Nat) (s' : StM p) : Prop where
  op : 0 ≤ x.op ∧ x.op ≤ 13
  comp : (x.op = 1 ∨ x.op = 2 ∨ x.op = 3 ∨ x.op = 6) → M (s.fp + el p x.c) = compM x.op (M (s.fp + el p x.a)) (M (s.fp + el p x.b))
  div : x.op = 4 → M (s.fp + el p x.b) ≠ 0 ∧ M (s.fp + el p x.c) = compM 4 (M (s.fp + el p x.a)) (M (s.fp + el p x.b))
  set : x.op = 5 → M (s.fp + el p x.a) = el p x.b
  must : x.op = 7 → M (s.fp + el p x.a) = M (s.fp + el p x.b)
  call : x.op = 10 → M s.ap = s.fp ∧ M (s.ap + 1) = s.pc + 1
  take : x.op = 12 → M (s.fp + el p x.a) = s.rv
  pass : x.op = 13 → M (s.ap + (1 + 1) + el p x.b) = M (s.fp + el p x.a)
  pc : x.op ≠ 0 → s'.pc = if x.op = 8 ∨ x.op = 10 then el p x.a else if x.op = 9 then (if M (s.fp + el p x.a) = 0 then el p x.b else s.pc + 1) else if x.op = 11 then M (s.fp - 1) else s.pc + 1
  fp : s'.fp = if x.op = 10 then s.ap + (1 + 1) else if x.op = 11 then M (s.fp - (1 + 1)) else s.fp
  ap : s'.ap = if x.op = 10 then s.ap + (1 + 1) + el p x.b else s.ap
  rv : s'.rv = if x.op = 11 then M (s.fp + el p x.a) else s.rv
theorem row_step {M : Fin p → Fin p} {s : StM p} {x : InsI} {k : Nat} {s' : StM p} (h : RowOk M s x k s') (hm : SubM s.mem M) : oneM s x = .blank ∨ (x.op = 0 ∧ oneM s x = .halt (M (s.fp + el p x.a))) ∨ (x.op ≠ 0 ∧ ∃ m, SubM m M ∧ oneM s x = .next { s' with mem := m }) := by
  have hl : ∀ (y : Fin p) (f : Fin p → ResM p), lookM s y f = .blank ∨ lookM s y f = f (M y) := fun y f => by
    unfold lookM
    rcases hy : s.mem y with _ | v
    · exact .inl rfl
    · exact .inr (by rw [hm y v hy])
  have nx : ∀ (st : StM p) (m : Fin p → Option (Fin p)), st.pc = s'.pc → st.fp = s'.fp → st.ap = s'.ap → st.rv = s'.rv → ResM.next { st with mem := m } = ResM.next { s' with mem := m } := fun st m h1 h2 h3 h4 => by
    rw [h1, h2, h3, h4]
  have ht : ∀ (m0 : Fin p → Option (Fin p)) (y v : Fin p) (f : (Fin p → Option (Fin p)) → ResM p), SubM m0 M → v = M y → ∃ m', SubM m' M ∧ toldM s (tellM m0 y v) f = f m' := fun m0 y v f h0 hv => by
    obtain ⟨m', h1, h2⟩ := h0.tell hv
    exact ⟨m', h2, by rw [h1]; rfl⟩
  have hop := h.op
  by_cases c0 : x.op = 0
  · unfold oneM
    rw [if_pos c0]
    rcases hl (s.fp + el p x.a) (fun v => ResM.halt v) with e | e
    · exact .inl e
    · exact .inr (.inl ⟨c0, e⟩)
  have hpc := h.pc c0
  have hfp := h.fp
  have hap := h.ap
  have hrv := h.rv
  have key : oneM s x = .blank ∨ ∃ m, SubM m M ∧ oneM s x = .next { s' with mem := m } := by
    unfold oneM
    rw [if_neg c0]
    by_cases c1 : x.op = 1 ∨ x.op = 2 ∨ x.op = 3 ∨ x.op = 4 ∨ x.op = 6
    · rw [if_pos c1]
      rw [if_neg (by omega), if_neg (by omega), if_neg (by omega)] at hpc
      rw [if_neg (by omega), if_neg (by omega)] at hfp
      rw [if_neg (by omega)] at hap hrv
      rcases hl (s.fp + el p x.a) (fun a => lookM s (s.fp + el p x.b) fun b => if x.op = 4 ∧ b = 0 then .stuck else toldM s (tellM s.mem (s.fp + el p x.c) (compM x.op a b)) fun m => .next { s with pc := s.pc + 1, mem := m }) with e | e
      · exact .inl e
      · rw [e]
        rcases hl (s.fp + el p x.b) (fun b => if x.op = 4 ∧ b = 0 then .stuck else toldM s (tellM s.mem (s.fp + el p x.c) (compM x.op (M (s.fp + el p x.a)) b)) fun m => .next { s with pc := s.pc + 1, mem := m }) with e | e
        · exact .inl e
        · rw [e]
          have hd : ¬ (x.op = 4 ∧ M (s.fp + el p x.b) = 0) := fun hh => (h.div hh.1).1 hh.2
          rw [if_neg hd]
          have hc : compM x.op (M (s.fp + el p x.a)) (M (s.fp + el p x.b)) = M (s.fp + el p x.c) := by
            by_cases c4 : x.op = 4
            · rw [c4]; exact (h.div c4).2.symm
            · exact (h.comp (by omega)).symm
          obtain ⟨m', h1, h2⟩ := ht s.mem (s.fp + el p x.c) _ (fun m => .next { s with pc := s.pc + 1, mem := m }) hm hc
          exact .inr ⟨m', h1, h2.trans (nx { s with pc := s.pc + 1 } m' hpc.symm hfp.symm hap.symm hrv.symm)⟩
    rw [if_neg c1]
    by_cases c5 : x.op = 5
    · rw [if_pos c5]
      rw [if_neg (by omega), if_neg (by omega), if_neg (by omega)] at hpc
      rw [if_neg (by omega), if_neg (by omega)] at hfp
      rw [if_neg (by omega)] at hap hrv
      obtain ⟨m', h1, h2⟩ := ht s.mem (s.fp + el p x.a) _ (fun m => .next { s with pc := s.pc + 1, mem := m }) hm (h.set c5).symm
      exact .inr ⟨m', h1, h2.trans (nx { s with pc := s.pc + 1 } m' hpc.symm hfp.symm hap.symm hrv.symm)⟩
    rw [if_neg c5]
    by_cases c7 : x.op = 7
    · rw [if_pos c7]
      rw [if_neg (by omega), if_neg (by omega), if_neg (by omega)] at hpc
      rw [if_neg (by omega), if_neg (by omega)] at hfp
      rw [if_neg (by omega)] at hap hrv
      rcases hl (s.fp + el p x.a) (fun a => lookM s (s.fp + el p x.b) fun b => if a = b then .next { s with pc := s.pc + 1 } else .stuck) with e | e
      · exact .inl e
      · rw [e]
        rcases hl (s.fp + el p x.b) (fun b => if M (s.fp + el p x.a) = b then .next { s with pc := s.pc + 1 } else .stuck) with e | e
        · exact .inl e
        · rw [e, if_pos (h.must c7)]
          exact .inr ⟨s.mem, hm, nx { s with pc := s.pc + 1 } s.mem hpc.symm hfp.symm hap.symm hrv.symm⟩
    rw [if_neg c7]
    by_cases c8 : x.op = 8
    · rw [if_pos c8]
      rw [if_pos (by omega)] at hpc
      rw [if_neg (by omega), if_neg (by omega)] at hfp
      rw [if_neg (by omega)] at hap hrv
      exact .inr ⟨s.mem, hm, nx { s with pc := el p x.a } s.mem hpc.symm hfp.symm hap.symm hrv.symm⟩
    rw [if_neg c8]
    by_cases c9 : x.op = 9
    · rw [if_pos c9]
      rw [if_neg (by omega), if_pos c9] at hpc
      rw [if_neg (by omega), if_neg (by omega)] at hfp
      rw [if_neg (by omega)] at hap hrv
      rcases hl (s.fp + el p x.a) (fun a => .next { s with pc := if a = 0 then el p x.b else s.pc + 1 }) with e | e
      · exact .inl e
      · rw [e]
        exact .inr ⟨s.mem, hm, nx { s with pc := if M (s.fp + el p x.a) = 0 then el p x.b else s.pc + 1 } s.mem hpc.symm hfp.symm hap.symm hrv.symm⟩
    rw [if_neg c9]
    by_cases c10 : x.op = 10
    · rw [if_pos c10]
      rw [if_pos (by omega)] at hpc
      rw [if_pos c10] at hfp hap
      rw [if_neg (by omega)] at hrv
      obtain ⟨m', h1, h2⟩ := ht s.mem s.ap s.fp (fun m => toldM s (tellM m (s.ap + 1) (s.pc + 1)) fun m' => .next { s with pc := el p x.a, fp := s.ap + (1 + 1), ap := s.ap + (1 + 1) + el p x.b, mem := m' }) hm (h.call c10).1.symm
      rw [h2]
      obtain ⟨m2, h3, h4⟩ := ht m' (s.ap + 1) (s.pc + 1) (fun m' => .next { s with pc := el p x.a, fp := s.ap + (1 + 1), ap := s.ap + (1 + 1) + el p x.b, mem := m' }) h1 (h.call c10).2.symm
      exact .inr ⟨m2, h3, h4.trans (nx { s with pc := el p x.a, fp := s.ap + (1 + 1), ap := s.ap + (1 + 1) + el p x.b } m2 hpc.symm hfp.symm hap.symm hrv.symm)⟩
    rw [if_neg c10]
    by_cases c11 : x.op = 11
    · rw [if_pos c11]
      rw [if_neg (by omega), if_neg (by omega), if_pos c11] at hpc
      rw [if_neg (by omega), if_pos c11] at hfp
      rw [if_neg (by omega)] at hap
      rw [if_pos c11] at hrv
      rcases hl (s.fp - (1 + 1)) (fun f => lookM s (s.fp - 1) fun c => lookM s (s.fp + el p x.a) fun v => .next { s with pc := c, fp := f, rv := v }) with e | e
      · exact .inl e
      · rw [e]
        rcases hl (s.fp - 1) (fun c => lookM s (s.fp + el p x.a) fun v => .next { s with pc := c, fp := M (s.fp - (1 + 1)), rv := v }) with e | e
        · exact .inl e
        · rw [e]
          rcases hl (s.fp + el p x.a) (fun v => .next { s with pc := M (s.fp - 1), fp := M (s.fp - (1 + 1)), rv := v }) with e | e
          · exact .inl e
          · rw [e]
            exact .inr ⟨s.mem, hm, nx { s with pc := M (s.fp - 1), fp := M (s.fp - (1 + 1)), rv := M (s.fp + el p x.a) } s.mem hpc.symm hfp.symm hap.symm hrv.symm⟩
    rw [if_neg c11]
    rw [if_neg (by omega), if_neg (by omega), if_neg c11] at hpc
    rw [if_neg c10, if_neg c11] at hfp
    rw [if_neg c10] at hap
    rw [if_neg c11] at hrv
    by_cases c12 : x.op = 12
    · rw [if_pos c12]
      obtain ⟨m', h1, h2⟩ := ht s.mem (s.fp + el p x.a) _ (fun m => .next { s with pc := s.pc + 1, mem := m }) hm (h.take c12).symm
      exact .inr ⟨m', h1, h2.trans (nx { s with pc := s.pc + 1 } m' hpc.symm hfp.symm hap.symm hrv.symm)⟩
    rw [if_neg c12]
    have c13 : x.op = 13 := by omega
    rw [if_pos c13]
    rcases hl (s.fp + el p x.a) (fun v => toldM s (tellM s.mem (s.ap + (1 + 1) + el p x.b) v) fun m => .next { s with pc := s.pc + 1, mem := m }) with e | e
    · exact .inl e
    · rw [e]
      obtain ⟨m', h1, h2⟩ := ht s.mem (s.ap + (1 + 1) + el p x.b) _ (fun m => .next { s with pc := s.pc + 1, mem := m }) hm (h.pass c13).symm
      exact .inr ⟨m', h1, h2.trans (nx { s with pc := s.pc + 1 } m' hpc.symm hfp.symm hap.symm hrv.symm)⟩
  rcases key with e | e
  · exact .inl e
  · exact .inr (.inr ⟨c0, e⟩)
end
end Go.Proofs.YtpkhcncempoohaaGreatDoor

namespace Go.Proofs.YtpkhcncempoohaaGreatDoor
open Zp
section
variable {p : Nat} [NeZero p]
inductive RunR (p : Nat) where
  | blank
  | stuck
  | long
  | out (v : Fin p)
def insAt (code : List InsI) (k : Nat) : InsI := code.getD k ⟨-1, 0, 0, 0⟩
def runM (code : List InsI) : Nat → StM p → RunR p
  | 0, s => if (fv s.pc).toNat < code.length then (if (insAt code (fv s.pc).toNat).op ≠ 0 then .long else match oneM s (insAt code (fv s.pc).toNat) with
      | .blank => .blank
      | .stuck => .stuck
      | .halt v => .out v
      | .next _ => .stuck) else .stuck
  | f + 1, s => if (fv s.pc).toNat < code.length then (match oneM s (insAt code (fv s.pc).toNat) with
      | .blank => .blank
      | .stuck => .stuck
      | .halt v => .out v
      | .next s' => runM code f s') else .stuck
structure RowsOk (M : Fin p → Fin p) (code : List InsI) (n : Nat) (S : Nat → StM p) (pcs : Nat → Nat) (outcome : Fin p) : Prop where
  pc : ∀ i, i < n → pcs i < code.length ∧ (fv (S i).pc).toNat = pcs i
  row : ∀ i, i + 1 < n → RowOk M (S i) (insAt code (pcs i)) (pcs i) (S (i + 1))
  stay : ∀ i, i + 1 < n → (insAt code (pcs i)).op = 0 → (S (i + 1)).pc = (S i).pc
  last : (insAt code (pcs (n - 1))).op = 0 ∧ M ((S (n - 1)).fp + el p (insAt code (pcs (n - 1))).a) = outcome
section
variable {M : Fin p → Fin p} {code : List InsI} {n : Nat} {S : Nat → StM p} {pcs : Nat → Nat} {outcome : Fin p}
theorem RowsOk.halts (h : RowsOk M code n S pcs outcome) : ∀ d i, i + d + 1 = n → (insAt code (pcs i)).op = 0 → M ((S i).fp + el p (insAt code (pcs i)).a) = outcome := by
  intro d
  induction d with
  | zero =>
    intro i hi _
    have : i = n - 1 := by omega
    rw [this]
    exact h.last.2
  | succ d ih =>
    intro i hi h0
    have h1 := h.stay i (by omega) h0
    have h2 := h.row i (by omega)
    have h3 : (S (i + 1)).fp = (S i).fp := by
      rw [h2.fp, if_neg (by omega), if_neg (by omega)]
    have h4 : pcs (i + 1) = pcs i := by
      rw [← (h.pc (i + 1) (by omega)).2, ← (h.pc i (by omega)).2, h1]
    have h5 := ih (i + 1) (by omega) (by rw [h4]; exact h0)
    rw [h3, h4] at h5
    exact h5
theorem run_rows (h : RowsOk M code n S pcs outcome) : ∀ f i, i + f + 1 = n → ∀ m, SubM m M → runM code f { S i with mem := m } = .blank ∨ runM code f { S i with mem := m } = .out outcome := by
  intro f
  induction f with
  | zero =>
    intro i hi m hm
    have hin : i = n - 1 := by omega
    have hp := h.pc i (by omega)
    have e0 : (insAt code (pcs i)).op = 0 := by rw [hin]; exact h.last.1
    show (if (fv (S i).pc).toNat < code.length then _ else _) = _ ∨ _
    unfold runM
    simp only [hp.2, if_pos hp.1]
    rw [if_neg (by omega)]
    have e1 : oneM { S i with mem := m } (insAt code (pcs i)) = lookM { S i with mem := m } ((S i).fp + el p (insAt code (pcs i)).a) fun v => .halt v := by
      unfold oneM
      rw [if_pos e0]
    rw [e1]
    unfold lookM
    rcases hy : m ((S i).fp + el p (insAt code (pcs i)).a) with _ | v
    · exact .inl (by simp only [hy])
    · refine .inr ?_
      simp only [hy]
      rw [hm _ _ hy]
      exact congrArg RunR.out (h.halts 0 i (by omega) e0)
  | succ f ih =>
    intro i hi m hm
    have hp := h.pc i (by omega)
    unfold runM
    simp only [hp.2, if_pos hp.1]
    have hr : RowOk M { S i with mem := m } (insAt code (pcs i)) (pcs i) (S (i + 1)) := by
      have := h.row i (by omega)
      exact ⟨this.op, this.comp, this.div, this.set, this.must, this.call, this.take, this.pass, this.pc, this.fp, this.ap, this.rv⟩
    rcases row_step hr hm with e | ⟨e0, e⟩ | ⟨_, m', hm', e⟩
    · rw [e]; exact .inl rfl
    · rw [e]
      exact .inr (congrArg RunR.out (h.halts (f + 1) i (by omega) e0))
    · rw [e]
      exact ih (i + 1) (by omega) m' hm'
end
end
end Go.Proofs.YtpkhcncempoohaaGreatDoor

namespace Go.Proofs.YtpkhcncempoohaaGreatDoor
open Zp
section
variable {p : Nat} [NeZero p]
def sumI (code : List InsI) (r : Nat → Fin p) (f : Nat → InsI → Fin p) : Fin p := sumT code.length fun k => r (20 + k) * f k (insAt code k)
def cellI (r : Nat → Fin p) (j : Nat) (_ : Nat) (x : InsI) : Fin p :=
  if x.op = 1 ∨ x.op = 2 ∨ x.op = 3 ∨ x.op = 4 ∨ x.op = 6 then (if j = 0 then r 0 + el p x.a else if j = 1 then r 0 + el p x.b else r 0 + el p x.c)
  else if x.op = 5 ∨ x.op = 9 ∨ x.op = 12 ∨ x.op = 0 then (if j = 0 then r 0 + el p x.a else 0)
  else if x.op = 7 then (if j = 0 then r 0 + el p x.a else if j = 1 then r 0 + el p x.b else 0)
  else if x.op = 10 then (if j = 0 then r 1 else if j = 1 then r 1 + 1 else 0)
  else if x.op = 11 then (if j = 0 then r 0 - (1 + 1) else if j = 1 then r 0 - 1 else r 0 + el p x.a)
  else if x.op = 13 then (if j = 0 then r 0 + el p x.a else if j = 1 then r 1 + (1 + 1) + el p x.b else 0)
  else 0
def doesI (r : Nat → Fin p) (_ : Nat) (x : InsI) : Fin p :=
  if x.op = 1 then r 7 + r 8 - r 9 else if x.op = 2 then r 7 - r 8 - r 9 else if x.op = 3 then r 7 * r 8 - r 9 else if x.op = 4 then r 9 * r 8 - r 7
  else if x.op = 5 then r 7 - el p x.b else if x.op = 6 then (r 7 - r 8) * r 11 - (1 - r 9) else if x.op = 7 ∨ x.op = 13 then r 7 - r 8
  else if x.op = 9 then r 7 * (1 - r 11 * r 7) else if x.op = 10 then r 7 - r 0 else if x.op = 12 then r 7 - r 2 else if x.op = 0 ∨ x.op = 8 ∨ x.op = 11 then 0 else 1
def moreI (r : Nat → Fin p) (k : Nat) (x : InsI) : Fin p :=
  if x.op = 4 then r 11 * r 8 - 1 else if x.op = 6 then r 9 * (r 7 - r 8) else if x.op = 10 then r 8 - el p ((k : Int) + 1) else 0
def goesI (r : Nat → Fin p) (k : Nat) (x : InsI) : Fin p :=
  if x.op = 0 then el p (k : Int) else if x.op = 8 ∨ x.op = 10 then el p x.a else if x.op = 9 then (1 - r 11 * r 7) * el p x.b + r 11 * r 7 * el p ((k : Int) + 1) else if x.op = 11 then r 8 else el p ((k : Int) + 1)
def fpI (r : Nat → Fin p) (_ : Nat) (x : InsI) : Fin p := if x.op = 10 then r 1 + (1 + 1) else if x.op = 11 then r 7 else r 0
def apI (r : Nat → Fin p) (_ : Nat) (x : InsI) : Fin p := if x.op = 10 then r 1 + (1 + 1) + el p x.b else r 1
def rvI (r : Nat → Fin p) (_ : Nat) (x : InsI) : Fin p := if x.op = 11 then r 9 else r 2
def haltI (_ : Nat) (x : InsI) : Fin p := if x.op = 0 then 1 else 0
def OneHot (code : List InsI) (r : Nat → Fin p) (k : Nat) : Prop := k < code.length ∧ ∀ i, i < code.length → r (20 + i) = if i = k then 1 else 0
theorem sumI_hot {code : List InsI} {r : Nat → Fin p} {k : Nat} (h : OneHot code r k) (f : Nat → InsI → Fin p) : sumI code r f = f k (insAt code k) := by
  unfold sumI
  rw [sumT_single h.1 fun i hi hne => by rw [h.2 i hi, if_neg hne]; grind, h.2 k h.1, if_pos rfl]
  grind
theorem sum_bits (hp : IsPrime p) (f : Nat → Fin p) : ∀ n, n < p → (∀ i, i < n → f i * f i - f i = 0) → ∃ c, c ≤ n ∧ sumT n f = el p ((c : Nat) : Int) ∧ (c = 0 → ∀ i, i < n → f i = 0) ∧ (c = 1 → ∃ k, k < n ∧ ∀ i, i < n → f i = if i = k then 1 else 0) := by
  intro n
  induction n with
  | zero => exact fun _ _ => ⟨0, Nat.le_refl _, el_zero.symm, fun _ i hi => absurd hi (Nat.not_lt_zero _), fun h => absurd h (by decide)⟩
  | succ n ih =>
    intro hn h
    obtain ⟨c, c1, c2, c3, c4⟩ := ih (by omega) fun i hi => h i (by omega)
    have hb : f n = 0 ∨ f n = 1 := by
      have h1 := h n (by omega)
      have h2 : f n * (f n - 1) = 0 := by grind
      rcases mul_eq_zero hp h2 with e | e
      · exact .inl e
      · exact .inr (by grind)
    rcases hb with e | e
    · refine ⟨c, by omega, by rw [sumT_succ, c2, e]; grind, fun h0 i hi => ?_, fun h1 => ?_⟩
      · by_cases hin : i < n
        · exact c3 h0 i hin
        · rw [show i = n by omega]; exact e
      · obtain ⟨k, k1, k2⟩ := c4 h1
        refine ⟨k, by omega, fun i hi => ?_⟩
        by_cases hin : i < n
        · exact k2 i hin
        · rw [show i = n by omega, e, if_neg (by omega)]
    · refine ⟨c + 1, by omega, ?_, fun h0 => absurd h0 (by omega), fun h1 => ⟨n, by omega, fun i hi => ?_⟩⟩
      · rw [sumT_succ, c2, e, ← el_one, ← el_add]; rfl
      · by_cases hin : i < n
        · rw [c3 (by omega) i hin, if_neg (by omega)]
        · rw [show i = n by omega, e, if_pos rfl]
theorem one_hot (hp : IsPrime p) {code : List InsI} (hL : code.length < p) {r : Nat → Fin p} (h1 : ∀ k, k < code.length → r (20 + k) * r (20 + k) - r (20 + k) = 0) (h2 : sumI code r (fun _ _ => 1) - 1 = 0) : ∃ k, OneHot code r k := by
  obtain ⟨c, c1, c2, c3, c4⟩ := sum_bits hp (fun k => r (20 + k)) code.length hL h1
  have e : sumI code r (fun _ _ => 1) = sumT code.length fun k => r (20 + k) := by
    unfold sumI
    exact sumT_congr fun i _ => by grind
  rw [e, c2] at h2
  have h3 : el p ((c : Nat) : Int) = el p ((1 : Nat) : Int) := by
    have : el p ((1 : Nat) : Int) = 1 := by simpa using el_one (p := p)
    rw [this]; grind
  have h4 : c = 1 := el_natInj (by omega) hp.1 h3
  obtain ⟨k, k1, k2⟩ := c4 h4
  exact ⟨k, k1, k2⟩
structure StepR (code : List InsI) (r r' : Nat → Fin p) (k k' : Nat) : Prop where
  hot : OneHot code r k
  hot' : OneHot code r' k'
  cell : ∀ j, j < 3 → r (3 + j) = cellI r j k (insAt code k)
  does : doesI r k (insAt code k) = 0
  more : moreI r k (insAt code k) = 0
  goes : el p ((k' : Nat) : Int) = goesI r k (insAt code k)
  fp : r' 0 = fpI r k (insAt code k)
  ap : r' 1 = apI r k (insAt code k)
  rv : r' 2 = rvI r k (insAt code k)
def stR (r : Nat → Fin p) (k : Nat) : StM p := ⟨el p ((k : Nat) : Int), r 0, r 1, r 2, fun _ => none⟩
theorem el_succ (k : Nat) : el p ((k : Int) + 1) = el p (k : Int) + 1 := by rw [el_add, el_one]
theorem StepR.ok (hp : IsPrime p) {code : List InsI} {r r' : Nat → Fin p} {k k' : Nat} (h : StepR code r r' k k') {M : Fin p → Fin p} (hM : ∀ j, j < 3 → r (7 + j) = M (r (3 + j))) : RowOk M (stR r k) (insAt code k) k (stR r' k') ∧ ((insAt code k).op = 0 → (stR r' k').pc = (stR r k).pc) := by
  obtain ⟨x, hx⟩ : ∃ x, x = insAt code k := ⟨_, rfl⟩
  have c0 := h.cell 0 (by omega)
  have c1 := h.cell 1 (by omega)
  have c2 := h.cell 2 (by omega)
  have m0 := hM 0 (by omega)
  have m1 := hM 1 (by omega)
  have m2 := hM 2 (by omega)
  have hd := h.does
  have hmo := h.more
  have hg := h.goes
  have hf := h.fp
  have ha := h.ap
  have hr := h.rv
  simp only [Nat.add_zero] at c0 m0
  rw [show 3 + 1 = 4 from rfl] at c1 m1
  rw [show 3 + 2 = 5 from rfl] at c2 m2
  rw [show 7 + 1 = 8 from rfl] at m1
  rw [show 7 + 2 = 9 from rfl] at m2
  rw [← hx] at c0 c1 c2 hd hmo hg hf ha hr ⊢
  have hop : 0 ≤ x.op ∧ x.op ≤ 13 := by
    false_or_by_contra
    rename_i hn
    have h1 : doesI r k x = 1 := by
      unfold doesI
      rw [if_neg (by omega), if_neg (by omega), if_neg (by omega), if_neg (by omega), if_neg (by omega), if_neg (by omega), if_neg (by omega), if_neg (by omega), if_neg (by omega), if_neg (by omega), if_neg (by omega)]
    rw [h1] at hd
    exact one_ne_zero hp hd
  have three : (x.op = 1 ∨ x.op = 2 ∨ x.op = 3 ∨ x.op = 4 ∨ x.op = 6) → r 7 = M (r 0 + el p x.a) ∧ r 8 = M (r 0 + el p x.b) ∧ r 9 = M (r 0 + el p x.c) := fun ho => by
    unfold cellI at c0 c1 c2
    rw [if_pos ho, if_pos rfl] at c0
    rw [if_pos ho, if_neg (by decide), if_pos rfl] at c1
    rw [if_pos ho, if_neg (by decide), if_neg (by decide)] at c2
    exact ⟨by rw [m0, c0], by rw [m1, c1], by rw [m2, c2]⟩
  have first : (x.op = 5 ∨ x.op = 9 ∨ x.op = 12 ∨ x.op = 0) → r 7 = M (r 0 + el p x.a) := fun ho => by
    unfold cellI at c0
    rw [if_neg (by omega), if_pos ho, if_pos rfl] at c0
    rw [m0, c0]
  have two7 : x.op = 7 → r 7 = M (r 0 + el p x.a) ∧ r 8 = M (r 0 + el p x.b) := fun ho => by
    unfold cellI at c0 c1
    rw [if_neg (by omega), if_neg (by omega), if_pos ho, if_pos rfl] at c0
    rw [if_neg (by omega), if_neg (by omega), if_pos ho, if_neg (by decide), if_pos rfl] at c1
    exact ⟨by rw [m0, c0], by rw [m1, c1]⟩
  have two10 : x.op = 10 → r 7 = M (r 1) ∧ r 8 = M (r 1 + 1) := fun ho => by
    unfold cellI at c0 c1
    rw [if_neg (by omega), if_neg (by omega), if_neg (by omega), if_pos ho, if_pos rfl] at c0
    rw [if_neg (by omega), if_neg (by omega), if_neg (by omega), if_pos ho, if_neg (by decide), if_pos rfl] at c1
    exact ⟨by rw [m0, c0], by rw [m1, c1]⟩
  have three11 : x.op = 11 → r 7 = M (r 0 - (1 + 1)) ∧ r 8 = M (r 0 - 1) ∧ r 9 = M (r 0 + el p x.a) := fun ho => by
    unfold cellI at c0 c1 c2
    rw [if_neg (by omega), if_neg (by omega), if_neg (by omega), if_neg (by omega), if_pos ho, if_pos rfl] at c0
    rw [if_neg (by omega), if_neg (by omega), if_neg (by omega), if_neg (by omega), if_pos ho, if_neg (by decide), if_pos rfl] at c1
    rw [if_neg (by omega), if_neg (by omega), if_neg (by omega), if_neg (by omega), if_pos ho, if_neg (by decide), if_neg (by decide)] at c2
    exact ⟨by rw [m0, c0], by rw [m1, c1], by rw [m2, c2]⟩
  have two13 : x.op = 13 → r 7 = M (r 0 + el p x.a) ∧ r 8 = M (r 1 + (1 + 1) + el p x.b) := fun ho => by
    unfold cellI at c0 c1
    rw [if_neg (by omega), if_neg (by omega), if_neg (by omega), if_neg (by omega), if_neg (by omega), if_pos ho, if_pos rfl] at c0
    rw [if_neg (by omega), if_neg (by omega), if_neg (by omega), if_neg (by omega), if_neg (by omega), if_pos ho, if_neg (by decide), if_pos rfl] at c1
    exact ⟨by rw [m0, c0], by rw [m1, c1]⟩
  clear c0 c1 c2 m0 m1 m2 hM
  refine ⟨⟨hop, fun ho => ?_, fun ho => ?_, fun ho => ?_, fun ho => ?_, fun ho => ?_, fun ho => ?_, fun ho => ?_, fun ho => ?_, ?_, ?_, ?_⟩, fun ho => ?_⟩
  · obtain ⟨t0, t1, t2⟩ := three (by omega)
    show M (r 0 + el p x.c) = compM x.op (M (r 0 + el p x.a)) (M (r 0 + el p x.b))
    rw [← t0, ← t1, ← t2]
    unfold doesI at hd
    unfold compM
    rcases ho with ho | ho | ho | ho
    · rw [if_pos ho] at hd ⊢
      grind
    · rw [if_neg (by omega), if_pos ho] at hd ⊢
      grind
    · rw [if_neg (by omega), if_neg (by omega), if_pos ho] at hd ⊢
      grind
    · unfold moreI at hmo
      rw [if_neg (by omega), if_neg (by omega), if_neg (by omega), if_neg (by omega), if_neg (by omega), if_pos ho] at hd
      rw [if_neg (by omega), if_pos ho] at hmo
      rw [if_neg (by omega), if_neg (by omega), if_neg (by omega), if_neg (by omega)]
      by_cases e : r 7 = r 8
      · rw [if_pos e]
        rw [e] at hd
        grind
      · rw [if_neg e]
        rcases mul_eq_zero hp hmo with e' | e'
        · exact e'
        · exact absurd (by grind) e
  · obtain ⟨t0, t1, t2⟩ := three (by omega)
    show M (r 0 + el p x.b) ≠ 0 ∧ M (r 0 + el p x.c) = compM 4 (M (r 0 + el p x.a)) (M (r 0 + el p x.b))
    rw [← t0, ← t1, ← t2]
    unfold doesI at hd
    unfold moreI at hmo
    rw [if_neg (by omega), if_neg (by omega), if_neg (by omega), if_pos ho] at hd
    rw [if_pos ho] at hmo
    have h8 : r 8 ≠ 0 := fun e => by
      rw [e] at hmo
      exact one_ne_zero hp (by grind)
    refine ⟨h8, ?_⟩
    have hi := mul_inv hp h8
    have e4 : compM 4 (r 7) (r 8) = r 7 * Zp.inv (r 8) := rfl
    rw [e4]
    generalize Zp.inv (r 8) = I at *
    have : r 7 = r 9 * r 8 := by grind
    rw [this]
    have h9 : r 9 * r 8 * I = r 9 * (r 8 * I) := by grind
    rw [h9, hi]
    grind
  · have t0 := first (by omega)
    show M (r 0 + el p x.a) = el p x.b
    unfold doesI at hd
    rw [if_neg (by omega), if_neg (by omega), if_neg (by omega), if_neg (by omega), if_pos ho] at hd
    rw [← t0]
    grind
  · obtain ⟨t0, t1⟩ := two7 ho
    show M (r 0 + el p x.a) = M (r 0 + el p x.b)
    unfold doesI at hd
    rw [if_neg (by omega), if_neg (by omega), if_neg (by omega), if_neg (by omega), if_neg (by omega), if_neg (by omega), if_pos (by omega)] at hd
    rw [← t0, ← t1]
    grind
  · obtain ⟨t0, t1⟩ := two10 ho
    show M (r 1) = r 0 ∧ M (r 1 + 1) = el p ((k : Nat) : Int) + 1
    unfold doesI at hd
    unfold moreI at hmo
    rw [if_neg (by omega), if_neg (by omega), if_neg (by omega), if_neg (by omega), if_neg (by omega), if_neg (by omega), if_neg (by omega), if_neg (by omega), if_pos ho] at hd
    rw [if_neg (by omega), if_neg (by omega), if_pos ho, el_succ] at hmo
    rw [← t0, ← t1]
    exact ⟨by grind, by grind⟩
  · have t0 := first (by omega)
    show M (r 0 + el p x.a) = r 2
    unfold doesI at hd
    rw [if_neg (by omega), if_neg (by omega), if_neg (by omega), if_neg (by omega), if_neg (by omega), if_neg (by omega), if_neg (by omega), if_neg (by omega), if_neg (by omega), if_pos ho] at hd
    rw [← t0]
    grind
  · obtain ⟨t0, t1⟩ := two13 ho
    show M (r 1 + (1 + 1) + el p x.b) = M (r 0 + el p x.a)
    unfold doesI at hd
    rw [if_neg (by omega), if_neg (by omega), if_neg (by omega), if_neg (by omega), if_neg (by omega), if_neg (by omega), if_pos (by omega)] at hd
    rw [← t0, ← t1]
    grind
  · show el p ((k' : Nat) : Int) = if x.op = 8 ∨ x.op = 10 then el p x.a else if x.op = 9 then (if M (r 0 + el p x.a) = 0 then el p x.b else el p ((k : Nat) : Int) + 1) else if x.op = 11 then M (r 0 - 1) else el p ((k : Nat) : Int) + 1
    rw [hg]
    unfold goesI
    rw [if_neg ho]
    by_cases c8 : x.op = 8 ∨ x.op = 10
    · rw [if_pos c8, if_pos c8]
    · rw [if_neg c8, if_neg c8]
      by_cases c9 : x.op = 9
      · rw [if_pos c9, if_pos c9]
        have t0 := first (by omega)
        rw [← t0, el_succ]
        unfold doesI at hd
        rw [if_neg (by omega), if_neg (by omega), if_neg (by omega), if_neg (by omega), if_neg (by omega), if_neg (by omega), if_neg (by omega), if_pos c9] at hd
        by_cases e : r 7 = 0
        · rw [if_pos e, e]; grind
        · rw [if_neg e]
          have h1 := (mul_eq_zero hp hd).resolve_left e
          have h2 : r 11 * r 7 = 1 := by grind
          rw [h2]; grind
      · rw [if_neg c9, if_neg c9]
        by_cases c11 : x.op = 11
        · rw [if_pos c11, if_pos c11]
          exact (three11 c11).2.1
        · rw [if_neg c11, if_neg c11, el_succ]
  · show r' 0 = if x.op = 10 then r 1 + (1 + 1) else if x.op = 11 then M (r 0 - (1 + 1)) else r 0
    rw [hf]
    unfold fpI
    by_cases c11 : x.op = 11
    · have c10 : ¬ x.op = 10 := by omega
      rw [if_neg c10, if_neg c10, if_pos c11, if_pos c11]
      exact (three11 c11).1
    · rw [if_neg c11, if_neg c11]
  · exact ha
  · show r' 2 = if x.op = 11 then M (r 0 + el p x.a) else r 2
    rw [hr]
    unfold rvI
    by_cases c11 : x.op = 11
    · rw [if_pos c11, if_pos c11]
      exact (three11 c11).2.2
    · rw [if_neg c11, if_neg c11]
  · show el p ((k' : Nat) : Int) = el p ((k : Nat) : Int)
    rw [hg]
    unfold goesI
    rw [if_pos ho]
end
end Go.Proofs.YtpkhcncempoohaaGreatDoor

namespace Go.Proofs.YtpkhcncempoohaaGreatDoor
open Zp
section
variable {p : Nat} [NeZero p]
def pairA (R : Nat → Nat → Fin p) (j : Nat) : Fin p × Fin p := (R (j / 4) (3 + j % 4), R (j / 4) (7 + j % 4))
def pairB (R : Nat → Nat → Fin p) (j : Nat) : Fin p × Fin p := (R (j / 4) (12 + j % 4), R (j / 4) (16 + j % 4))
structure RulesOk (code : List InsI) (size : Int) (outcome : Fin p) (n : Nat) (R : Nat → Nat → Fin p) : Prop where
  bit : ∀ i, i < n → ∀ k, k < code.length → R i (20 + k) * R i (20 + k) - R i (20 + k) = 0
  one : ∀ i, i < n → sumI code (R i) (fun _ _ => 1) - 1 = 0
  cell : ∀ i, i < n → ∀ j, j < 3 → R i (3 + j) - sumI code (R i) (cellI (R i) j) = 0
  does : ∀ i, i < n → sumI code (R i) (doesI (R i)) = 0
  more : ∀ i, i < n → sumI code (R i) (moreI (R i)) = 0
  ordD : ∀ j, j + 1 < 4 * n → ((pairB R (j + 1)).1 - (pairB R j).1) * (((pairB R (j + 1)).1 - (pairB R j).1) - 1) = 0
  ordE : ∀ j, j + 1 < 4 * n → (((pairB R (j + 1)).1 - (pairB R j).1) - 1) * ((pairB R (j + 1)).2 - (pairB R j).2) = 0
  goes : ∀ i, i + 1 < n → (sumT code.length fun k => el p (k : Int) * R (i + 1) (20 + k)) - sumI code (R i) (goesI (R i)) = 0
  fp : ∀ i, i + 1 < n → R (i + 1) 0 - sumI code (R i) (fpI (R i)) = 0
  ap : ∀ i, i + 1 < n → R (i + 1) 1 - sumI code (R i) (apI (R i)) = 0
  rv : ∀ i, i + 1 < n → R (i + 1) 2 - sumI code (R i) (rvI (R i)) = 0
  s0 : R 0 20 - 1 = 0
  fp0 : R 0 0 - 1 = 0
  ap0 : R 0 1 - 1 - el p size = 0
  rv0 : R 0 2 = 0
  b0 : R 0 12 = 0
  w0 : R 0 16 = 0
  halt : sumI code (R (n - 1)) haltI - 1 = 0
  out : R (n - 1) 7 - outcome = 0
theorem rules_run (hp : IsPrime p) {code : List InsI} {size : Int} {outcome : Fin p} {n : Nat} {R : Nat → Nat → Fin p} (h : RulesOk code size outcome n R) (hn : 1 ≤ n) (h4 : 4 * n ≤ p) (hL : code.length < p) (hA : ∀ j, j < 4 * n → ∃ i, i < 4 * n ∧ pairB R i = pairA R j) :
    ∀ m, (∀ x v, m x = some v → x = 0 ∧ v = 0) → runM code (n - 1) ⟨0, 1, 1 + el p size, 0, m⟩ = .blank ∨ runM code (n - 1) ⟨0, 1, 1 + el p size, 0, m⟩ = .out outcome := by
  have hS : SortW (fun j => (pairB R j).1) (fun j => (pairB R j).2) (4 * n) := ⟨h.b0, h.ordD, h.ordE⟩
  obtain ⟨M, hM⟩ : ∃ M, M = memW (fun j => (pairB R j).1) (fun j => (pairB R j).2) (4 * n) := ⟨_, rfl⟩
  have hMB : ∀ j, j < 4 * n → (pairB R j).2 = M (pairB R j).1 := fun j hj => by rw [hM]; exact hS.mem hp h4 hj
  have hMA : ∀ j, j < 4 * n → (pairA R j).2 = M (pairA R j).1 := fun j hj => by
    obtain ⟨i, hi, e⟩ := hA j hj
    rw [← e]
    exact hMB i hi
  have hMr : ∀ i, i < n → ∀ j, j < 4 → R i (7 + j) = M (R i (3 + j)) := fun i hi j hj => by
    have := hMA (4 * i + j) (by omega)
    unfold pairA at this
    rw [show (4 * i + j) / 4 = i by omega, show (4 * i + j) % 4 = j by omega] at this
    exact this
  have hM0 : M 0 = 0 := by
    have := hMB 0 (by omega)
    unfold pairB at this
    simp only [Nat.zero_div, Nat.zero_mod, Nat.add_zero] at this
    rw [h.b0, h.w0] at this
    exact this.symm
  have hot : ∀ i, i < n → ∃ k, OneHot code (R i) k := fun i hi => one_hot hp hL (h.bit i hi) (h.one i hi)
  obtain ⟨pcs, hpcs⟩ : ∃ pcs : Nat → Nat, ∀ i, i < n → OneHot code (R i) (pcs i) := by
    refine ⟨fun i => if hi : i < n then (hot i hi).choose else 0, fun i hi => ?_⟩
    show OneHot code (R i) (if hi : i < n then (hot i hi).choose else 0)
    rw [dif_pos hi]
    exact (hot i hi).choose_spec
  have hstep : ∀ i, i + 1 < n → StepR code (R i) (R (i + 1)) (pcs i) (pcs (i + 1)) := fun i hi => by
    have o1 := hpcs i (by omega)
    have o2 := hpcs (i + 1) hi
    refine ⟨o1, o2, fun j hj => ?_, ?_, ?_, ?_, ?_, ?_, ?_⟩
    · have := h.cell i (by omega) j hj
      rw [sumI_hot o1] at this
      grind
    · have := h.does i (by omega)
      rwa [sumI_hot o1] at this
    · have := h.more i (by omega)
      rwa [sumI_hot o1] at this
    · have := h.goes i hi
      rw [sumI_hot o1, sumT_single o2.1 fun t ht hne => by rw [o2.2 t ht, if_neg hne]; grind, o2.2 _ o2.1, if_pos rfl] at this
      grind
    · have := h.fp i hi
      rw [sumI_hot o1] at this
      grind
    · have := h.ap i hi
      rw [sumI_hot o1] at this
      grind
    · have := h.rv i hi
      rw [sumI_hot o1] at this
      grind
  have hlast := hpcs (n - 1) (by omega)
  have hop : (insAt code (pcs (n - 1))).op = 0 := by
    have := h.halt
    rw [sumI_hot hlast] at this
    unfold haltI at this
    false_or_by_contra
    rename_i hne
    rw [if_neg hne] at this
    exact one_ne_zero hp (by grind)
  have hcell : R (n - 1) 3 = R (n - 1) 0 + el p (insAt code (pcs (n - 1))).a := by
    have := h.cell (n - 1) (by omega) 0 (by omega)
    rw [sumI_hot hlast] at this
    unfold cellI at this
    rw [if_neg (by omega), if_pos (by omega), if_pos rfl] at this
    grind
  have hrows : RowsOk M code n (fun i => stR (R i) (pcs i)) pcs outcome := by
    refine ⟨fun i hi => ⟨(hpcs i hi).1, ?_⟩, fun i hi => ((hstep i hi).ok hp fun j hj => hMr i (by omega) j (by omega)).1, fun i hi => ((hstep i hi).ok hp fun j hj => hMr i (by omega) j (by omega)).2, hop, ?_⟩
    · show (fv (el p ((pcs i : Nat) : Int))).toNat = pcs i
      have := (hpcs i hi).1
      rw [fv_el, Int.emod_eq_of_lt (by omega) (by omega)]
      omega
    · show M (R (n - 1) 0 + el p (insAt code (pcs (n - 1))).a) = outcome
      have h1 := hMr (n - 1) (by omega) 0 (by omega)
      have h2 := h.out
      rw [← hcell]
      simp only [Nat.add_zero] at h1
      rw [← h1]
      grind
  intro m hm
  have h0 := hpcs 0 (by omega)
  have hk0 : pcs 0 = 0 := by
    false_or_by_contra
    rename_i hne
    have h1 := h0.2 0 (by have := h0.1; omega)
    rw [if_neg (fun e => hne e.symm)] at h1
    have h2 := h.s0
    rw [show 20 + 0 = 20 from rfl] at h1
    rw [h1] at h2
    exact one_ne_zero hp (by grind)
  have hs : (⟨0, 1, 1 + el p size, 0, m⟩ : StM p) = { (stR (R 0) (pcs 0)) with mem := m } := by
    unfold stR
    rw [hk0]
    have e1 : R 0 0 = 1 := by have := h.fp0; grind
    have e2 : R 0 1 = 1 + el p size := by have := h.ap0; grind
    have e3 : el p ((0 : Nat) : Int) = 0 := by simpa using el_zero (p := p)
    simp only [e1, e2, h.rv0, e3]
  rw [hs]
  exact run_rows hrows (n - 1) 0 (by omega) m fun x v hx => by
    obtain ⟨e1, e2⟩ := hm x v hx
    rw [e1, e2, hM0]
end
end Go.Proofs.YtpkhcncempoohaaGreatDoor

namespace Go.Proofs.YtpkhcncempoohaaGreatDoor
open Zp
section
variable {p : Nat} [NeZero p]
def numP (y : Fin p) (q : Fin p × Fin p) : Fin p := q.1 + y * q.2
def facP (y : Fin p) (P : Nat → Fin p × Fin p) (x : Fin p) (i : Nat) : Fin p := (x - numP y (P (4 * i))) * (x - numP y (P (4 * i + 1))) * (x - numP y (P (4 * i + 2))) * (x - numP y (P (4 * i + 3)))
def prdN (f : Nat → Fin p) : Nat → Fin p
  | 0 => 1
  | n + 1 => prdN f n * f n
theorem prdN_list (f : Nat → Fin p) (n : Nat) : prdN f n = prodL ((List.range n).map f) := by
  induction n with
  | zero => rfl
  | succ n ih =>
    rw [prdN, ih, List.range_succ, List.map_append]
    have key : ∀ l : List (Fin p), ∀ a, prodL (l ++ [a]) = prodL l * a := fun l a => by
      induction l with
      | nil => simp only [List.nil_append, prodL]; grind
      | cons b l ihl => simp only [List.cons_append, prodL]; rw [ihl]; grind
    exact (key _ _).symm
theorem prdN_four (y : Fin p) (P : Nat → Fin p × Fin p) (x : Fin p) (n : Nat) : prdN (facP y P x) n = prdN (fun j => x - numP y (P j)) (4 * n) := by
  induction n with
  | zero => rfl
  | succ n ih =>
    rw [prdN, ih, show 4 * (n + 1) = 4 * n + 1 + 1 + 1 + 1 by omega, prdN, prdN, prdN, prdN]
    unfold facP
    rw [show 4 * n + 1 + 1 = 4 * n + 2 by omega, show 4 * n + 2 + 1 = 4 * n + 3 by omega]
    grind
def numsP (y : Fin p) (P : Nat → Fin p × Fin p) (N : Nat) : List (Fin p) := (List.range N).map fun j => numP y (P j)
theorem prX_nums (y : Fin p) (P : Nat → Fin p × Fin p) (N : Nat) (x : Fin p) : prX (numsP y P N) x = prdN (fun j => x - numP y (P j)) N := by
  unfold prX numsP
  rw [List.map_map, prdN_list]
  rfl
theorem round_prod {n : Nat} {z A B : Nat → Fin p} (h0 : z 0 = 1) (hz : ∀ i, i < n → z ((i + 1) % n) * B i = z i * A i) (hn : 1 ≤ n) : prdN A n = prdN B n := by
  have key : ∀ k, k < n → z k * prdN B k = prdN A k := by
    intro k
    induction k with
    | zero => intro _; rw [prdN, prdN, h0]; grind
    | succ k ih =>
      intro hk
      have h1 := hz k (by omega)
      rw [Nat.mod_eq_of_lt hk] at h1
      have h2 := ih (by omega)
      rw [prdN, prdN, ← h2]
      have : z (k + 1) * (prdN B k * B k) = prdN B k * (z (k + 1) * B k) := by grind
      rw [this, h1]
      grind
  obtain ⟨m, rfl⟩ : ∃ m, n = m + 1 := ⟨n - 1, by omega⟩
  have h1 := hz m (by omega)
  rw [Nat.mod_self, h0] at h1
  have h2 := key m (by omega)
  rw [prdN, prdN, ← h2]
  have : prdN B m * B m = prdN B m * (1 * B m) := by grind
  rw [this, h1]
  grind
theorem alike_of (hp : IsPrime p) {P Q : Nat → Fin p × Fin p} {n : Nat} (hn : 1 ≤ n) {y : Fin p} {S : List (Fin p)} (hS : S.Nodup) (hl : 4 * n ≤ S.length)
    (hz : ∀ x ∈ S, ∃ z : Nat → Fin p, z 0 = 1 ∧ ∀ i, i < n → z ((i + 1) % n) * facP y Q x i = z i * facP y P x i) (hap : ∀ i j, i < 4 * n → j < 4 * n → numP y (Q i) = numP y (P j) → Q i = P j) : ∀ j, j < 4 * n → ∃ i, i < 4 * n ∧ Q i = P j := by
  have hpr : (numsP y P (4 * n)).Perm (numsP y Q (4 * n)) := perm_of_prod hp _ _ S (by simp [numsP]) hS (by simpa [numsP] using hl) fun x hx => by
    obtain ⟨z, z0, z1⟩ := hz x hx
    rw [prX_nums, prX_nums, ← prdN_four, ← prdN_four]
    exact round_prod z0 z1 hn
  intro j hj
  have h1 : numP y (P j) ∈ numsP y P (4 * n) := List.mem_map.2 ⟨j, List.mem_range.2 hj, rfl⟩
  obtain ⟨i, hi, e⟩ := List.mem_map.1 (hpr.mem_iff.1 h1)
  exact ⟨i, List.mem_range.1 hi, hap i j (List.mem_range.1 hi) hj e⟩
end
end Go.Proofs.YtpkhcncempoohaaGreatDoor
