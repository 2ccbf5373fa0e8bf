/- Plain facts: the order of an element, found by trying the divisors of p - 1 in pairs. No program is in sight. -/
import Derived.Test.YtiohededmcfhjaaDoorEl
set_option linter.unusedVariables false
namespace Zp
section od
variable {p : Nat} [NeZero p]

/-- the least that was tried so far: the divisors of which Q holds -/
structure BestQ (Q : Nat → Prop) (x : Fin p) (b : Nat) : Prop where
  pos : 1 ≤ b
  dvd : b ∣ p - 1
  one : pw x b = 1
  least : ∀ j, j ∣ p - 1 → Q j → pw x j = 1 → b ≤ j
theorem BestQ.hit {Q R : Nat → Prop} {x : Fin p} {b i : Nat} (h : BestQ Q x b) (hi : 1 ≤ i) (hd : i ∣ p - 1) (h1 : pw x i = 1) (hlt : i < b) (hR : ∀ j, j ∣ p - 1 → R j → Q j ∨ j = i) : BestQ R x i :=
  ⟨hi, hd, h1, fun j hj hr hp => by
    rcases hR j hj hr with hq | rfl
    · have := h.least j hj hq hp; omega
    · exact Nat.le_refl _⟩
theorem BestQ.miss {Q R : Nat → Prop} {x : Fin p} {b i : Nat} (h : BestQ Q x b) (h1 : pw x i = 1 → ¬ i < b) (hR : ∀ j, j ∣ p - 1 → R j → Q j ∨ j = i) : BestQ R x b :=
  ⟨h.pos, h.dvd, h.one, fun j hj hr hp => by
    rcases hR j hj hr with hq | rfl
    · exact h.least j hj hq hp
    · have := h1 hp; omega⟩
/-- tried: below i, and their partners -/
abbrev Tried (p i j : Nat) : Prop := j < i ∨ (p - 1) / j < i
theorem BestQ.start (hp : IsPrime p) {x : Fin p} (hx : x ≠ 0) : BestQ (Tried p 1) x (p - 1) := by
  have h2 := hp.1
  refine ⟨by omega, Nat.dvd_refl _, fermat hp hx, fun j hj hr _ => ?_⟩
  have hj0 : 0 < j := Nat.pos_of_dvd_of_pos hj (by omega)
  rcases hr with hr | hr
  · omega
  · rw [Nat.div_lt_one_iff hj0] at hr; omega
omit [NeZero p] in
theorem tried_skip {i j : Nat} (hp2 : 2 ≤ p) (hi : ¬ i ∣ p - 1) (hj : j ∣ p - 1) (h : Tried p (i + 1) j) : Tried p i j := by
  rcases h with h | h
  · rcases Nat.lt_or_ge j i with hlt | hge
    · exact .inl hlt
    · obtain rfl : j = i := by omega
      exact absurd hj hi
  · rcases Nat.lt_or_ge ((p - 1) / j) i with hlt | hge
    · exact .inr hlt
    · have e : (p - 1) / j = i := by omega
      exact absurd (e ▸ Nat.div_dvd_of_dvd hj) hi
theorem BestQ.skip {x : Fin p} {i b : Nat} (hp2 : 2 ≤ p) (h : BestQ (Tried p i) x b) (hi : ¬ i ∣ p - 1) : BestQ (Tried p (i + 1)) x b :=
  ⟨h.pos, h.dvd, h.one, fun j hj hr hq => h.least j hj (tried_skip hp2 hi hj hr) hq⟩
omit [NeZero p] in
/-- the partner comes behind -/
theorem tried_pair {i j : Nat} (hp2 : 2 ≤ p) (hi : i ∣ p - 1) (hj : j ∣ p - 1) (h : Tried p (i + 1) j) : (Tried p i j ∨ j = i) ∨ j = (p - 1) / i := by
  rcases h with h | h
  · rcases Nat.lt_or_ge j i with hlt | hge
    · exact .inl (.inl (.inl hlt))
    · exact .inl (.inr (by omega))
  · rcases Nat.lt_or_ge ((p - 1) / j) i with hlt | hge
    · exact .inl (.inl (.inr hlt))
    · have e : (p - 1) / j = i := by omega
      refine .inr ?_
      obtain ⟨k, hk⟩ := hj
      have hj0 : 0 < j := by
        rcases Nat.eq_zero_or_pos j with h0 | h0
        · rw [h0, Nat.zero_mul] at hk; omega
        · exact h0
      rw [hk, Nat.mul_div_cancel_left _ hj0] at e
      have hk0 : 0 < k := by
        rcases Nat.eq_zero_or_pos k with h0 | h0
        · rw [h0, Nat.mul_zero] at hk; omega
        · exact h0
      rw [hk, ← e, Nat.mul_div_cancel _ hk0]
theorem BestQ.done (hp : IsPrime p) {x : Fin p} (hx : x ≠ 0) {i b : Nat} (h : BestQ (Tried p i) x b) (hi : p - 1 < i * i) : b = ordN x := by
  have ho := ordN_ord hp hx
  have h2 := hp.1
  have hd := ho.dvd hp hx
  have h1 : ordN x ∣ b := (ho b).1 h.one
  have hle : ordN x ≤ b := Nat.le_of_dvd h.pos h1
  have ho0 := ho.pos hp hx
  have ht : Tried p i (ordN x) := by
    rcases Nat.lt_or_ge (ordN x) i with hlt | hge
    · exact .inl hlt
    · refine .inr ?_
      rw [Nat.div_lt_iff_lt_mul ho0]
      exact Nat.lt_of_lt_of_le hi (Nat.mul_le_mul_left i hge)
  have := h.least _ hd ht ho.one
  omega
theorem el_ne_zero {k : Nat} (h1 : 1 ≤ k) (h2 : k < p) : el p (k : Int) ≠ 0 := by
  intro h
  have h3 := el_eq_zero.1 h
  rw [Int.emod_eq_of_lt (by omega) (by omega)] at h3
  omega
theorem IsGen.ord_iff (hp : IsPrime p) {G : Nat} (h : IsGen p G) : 1 ≤ G ∧ G < p ∧ ∀ k : Nat, 1 ≤ k → k ≤ G → (ordN (el p (k : Int)) = p - 1 ↔ k = G) := by
  obtain ⟨h1, h2, h3, h4⟩ := h
  refine ⟨h1, h2, fun k hk hkG => ⟨fun ho => ?_, fun he => ?_⟩⟩
  · rcases Nat.lt_or_ge k G with hlt | hge
    · exact absurd (ho ▸ ordN_ord hp (el_ne_zero hk (by omega))) (h4 k hk hlt)
    · omega
  · subst he
    exact ordN_of_ord hp (el_ne_zero hk h2) h3
end od
end Zp
