/- Plain facts on what divides two polynomials and is made of both. No program is in sight. -/
import Derived.Test.YtiohededmcfhjaaDoorPt
import Derived.Test.YtiohededmcfhjaaDoorIp
set_option linter.unusedVariables false
namespace Zp
section gp
variable {p : Nat} [NeZero p]

theorem co_mulL_sgl (a : List (Fin p)) (c : Fin p) (i : Nat) : co (mulL a [c]) i = co a i * c := by
  induction a generalizing i with
  | nil => rw [mulL, co_nil]; grind
  | cons x a ih =>
    rw [co_mulL_cons]
    cases i with
    | zero => rw [if_pos rfl, co_cons_zero c [], co_cons_zero x a]; grind
    | succ i => rw [if_neg (by omega), Nat.add_sub_cancel, ih, co_cons_succ c [], co_nil, co_cons_succ x a]; grind
theorem mul_len_le (a b : List (Fin p)) : (trimL (mulL a b)).length ≤ a.length + b.length - 1 := trimL_length_of fun i hi => by
  by_cases h : a.length + b.length ≤ i + 1
  · exact co_mulL_ge b a i h
  · omega
theorem mul_len_nil {a b : List (Fin p)} (h : a = [] ∨ b = []) : trimL (mulL a b) = [] := by
  refine trimL_congr (m := []) fun i => ?_
  rw [co_nil]
  rcases h with rfl | rfl
  · exact co_nil i
  · exact co_mulL_zero_right (fun i => co_nil i) a i
theorem DivOk.len (hp : IsPrime p) {a b Q R : List (Fin p)} (h : DivOk a b Q R) (hQ : Q ≠ []) : Q.length + (trimL b).length ≤ (trimL a).length + 1 := by
  have hb : 0 < (trimL b).length := by have := h.lt; omega
  have hq : 0 < (trimL Q).length := by rw [h.tq]; exact List.length_pos_iff.2 hQ
  have h1 := mul_length hp hq hb
  rw [h.tq] at h1
  have hpos : 0 < (trimL (mulL Q b)).length := by rw [h.tq] at hq; omega
  have h2 := top_ne hpos
  rcases Nat.lt_or_ge (trimL a).length (trimL (mulL Q b)).length with hlt | hge
  · exfalso
    have e := congrFun h.eq ((trimL (mulL Q b)).length - 1)
    rw [PS.add_ap, ← ofL_mul, ofL_ap, ofL_ap, ofL_ap, top_zero a (by omega), co_of_ge (l := R) (by have := h.lt; rw [h.tq] at hq; omega)] at e
    apply h2
    grind
  · omega

/-- what the program's loop knows -/
structure GcdI (a b r s ru su rv sv : List (Fin p)) (M : Nat) : Prop where
  tr : trimL r = r
  ts : trimL s = s
  e1 : ofL r = ofL ru * ofL a + ofL rv * ofL b
  e2 : ofL s = ofL su * ofL a + ofL sv * ofL b
  d1 : ∃ X Y : List (Fin p), ofL a = ofL X * ofL r + ofL Y * ofL s
  d2 : ∃ X Y : List (Fin p), ofL b = ofL X * ofL r + ofL Y * ofL s
  lr : r.length ≤ M
  ls : s.length ≤ M
  l1 : su.length + r.length ≤ M
  l2 : su.length + s.length ≤ M
  l3 : ru.length + s.length ≤ M
  k1 : sv.length + r.length ≤ M
  k2 : sv.length + s.length ≤ M
  k3 : rv.length + s.length ≤ M
theorem GcdI.start (a b : List (Fin p)) (M : Nat) (hM : (trimL a).length + (trimL b).length + 1 ≤ M) : GcdI a b (trimL a) (trimL b) [1] [] [] [1] M :=
  ⟨trimL_trim _, trimL_trim _, by rw [ofL_trim, ofL_one, ofL_nil, PS.one_mul, PS.zero_mul, PS.add_zero], by rw [ofL_trim, ofL_one, ofL_nil, PS.one_mul, PS.zero_mul, PS.zero_add],
    ⟨[1], [], by rw [ofL_trim, ofL_one, ofL_nil, PS.one_mul, PS.zero_mul, PS.add_zero]⟩, ⟨[], [1], by rw [ofL_trim, ofL_trim, ofL_one, ofL_nil, PS.one_mul, PS.zero_mul, PS.zero_add]⟩,
    by omega, by omega, by simp; omega, by simp; omega, by simp; omega, by simp; omega, by simp; omega, by simp; omega⟩
theorem gcd_lin {A B R S U U' V V' Q T : PS p} (h1 : R = U * A + V * B) (h2 : S = U' * A + V' * B) (h : R = Q * S + T) : T = (U - Q * U') * A + (V - Q * V') * B := by
  have e : T = R - Q * S := (PS.sub_eq_iff.2 (by rw [h, PS.add_comm])).symm
  rw [e, PS.sub_eq_iff, h1, h2, PS.sub_mul, PS.sub_mul, PS.mul_add, PS.mul_assoc, PS.mul_assoc]
  refine funext fun n => ?_
  simp only [PS.add_ap, PS.sub_ap]
  grind
theorem gcd_back {A R S Q T X Y : PS p} (h : A = X * R + Y * S) (h2 : R = Q * S + T) : A = (X * Q + Y) * S + X * T := by
  rw [h, h2, PS.mul_add, PS.add_mul, PS.mul_assoc]
  refine funext fun n => ?_
  simp only [PS.add_ap]
  grind
theorem GcdI.step (hp : IsPrime p) {a b r s ru su rv sv Q R : List (Fin p)} {M : Nat} (h : GcdI a b r s ru su rv sv M) (hd : DivOk r s Q R) :
    GcdI a b s R su (trimL (subL ru (trimL (mulL Q su)))) sv (trimL (subL rv (trimL (mulL Q sv)))) M := by
  have hlt := hd.lt
  rw [h.ts] at hlt
  have hlen : ∀ t u : List (Fin p), t.length + r.length ≤ M → u.length + s.length ≤ M → t.length + s.length ≤ M → (trimL (subL u (trimL (mulL Q t)))).length + s.length ≤ M := fun t u h1 h2 h3 => by
    have h4 : (trimL (subL u (trimL (mulL Q t)))).length ≤ max u.length (trimL (mulL Q t)).length := by
      refine Nat.le_trans (trimL_length_le _) ?_
      rw [subL, tab_length]; exact Nat.le_refl _
    have h5 : (trimL (mulL Q t)).length + s.length ≤ M := by
      by_cases hQ : Q = []
      · rw [mul_len_nil (.inl hQ)]; have := h.ls; simp; omega
      · by_cases ht : t = []
        · rw [mul_len_nil (.inr ht)]; have := h.ls; simp; omega
        · have h6 := hd.len hp hQ
          rw [h.tr, h.ts] at h6
          have h7 := mul_len_le Q t
          have := List.length_pos_iff.2 hQ
          have := List.length_pos_iff.2 ht
          omega
    omega
  have h1 := hlen su ru h.l1 h.l3 h.l2
  have h2 := hlen sv rv h.k1 h.k3 h.k2
  have hl2 := h.l2
  have hk2 := h.k2
  have hls := h.ls
  refine ⟨h.ts, hd.tr, h.e2, ?_, ?_, ?_, hls, by omega, by omega, by omega, by omega, by omega, by omega, by omega⟩
  · rw [ofL_trim, ofL_trim, ofL_sub, ofL_sub, ofL_trim, ofL_trim, ofL_mul, ofL_mul]
    exact gcd_lin h.e1 h.e2 hd.eq
  · obtain ⟨X, Y, e⟩ := h.d1
    exact ⟨addL (mulL X Q) Y, X, by rw [ofL_add, ofL_mul]; exact gcd_back e hd.eq⟩
  · obtain ⟨X, Y, e⟩ := h.d2
    exact ⟨addL (mulL X Q) Y, X, by rw [ofL_add, ofL_mul]; exact gcd_back e hd.eq⟩
/-- a divisor of both that is made of both -/
structure GcdOk (a b d u v : List (Fin p)) (M : Nat) : Prop where
  td : trimL d = d
  tu : trimL u = u
  tv : trimL v = v
  top : co d (d.length - 1) = 1
  pos : d ≠ []
  eq : ofL u * ofL a + ofL v * ofL b = ofL d
  da : ∃ Q, DivOk a d Q []
  db : ∃ Q, DivOk b d Q []
  ld : d.length ≤ M
  lu : u.length ≤ M
  lv : v.length ≤ M
theorem ofL_sgl_mul (hp : IsPrime p) {x : Fin p} (hx : x ≠ 0) : ofL [Zp.inv x] * ofL [x] = (1 : PS p) := by
  rw [← ofL_mul, ← ofL_one]
  refine funext fun i => ?_
  rw [ofL_ap, ofL_ap, co_mulL_sgl]
  cases i with
  | zero => exact inv_mul' hp hx
  | succ i => rw [co_of_ge (by simp), co_of_ge (by simp)]; grind
theorem GcdI.done (hp : IsPrime p) {a b r ru su rv sv : List (Fin p)} {M : Nat} (h : GcdI a b r [] ru su rv sv M) (hr : r ≠ []) {n : Nat} (hn : r.length = n + 1) :
    GcdOk a b (trimL (mulL r [Zp.inv (co r n)])) (trimL (mulL ru [Zp.inv (co r n)])) (trimL (mulL rv [Zp.inv (co r n)])) M := by
  have hpos : 0 < (trimL r).length := by rw [h.tr]; omega
  have htop := top_ne hpos
  rw [h.tr, hn, Nat.add_sub_cancel] at htop
  have hi := inv_mul' hp htop
  have hi0 : Zp.inv (co r n) ≠ 0 := fun e => by rw [e] at hi; have := one_ne_zero hp; grind
  have hs := ofL_sgl_mul hp htop
  generalize Zp.inv (co r n) = c at *
  have hlen : (trimL (mulL r [c])).length = n + 1 := TrimAt.length (trimAt_iff_co.2 ⟨fun i hi => by rw [co_mulL_sgl, co_of_ge (l := r) (by omega)]; grind, .inr (by
    rw [Nat.add_sub_cancel, co_mulL_sgl]; exact mul_ne_zero hp htop hi0)⟩)
  have hle : ∀ t : List (Fin p), t.length ≤ M → (trimL (mulL t [c])).length ≤ M := fun t ht => by
    have := mul_len_le t [c]
    simp only [List.length_cons, List.length_nil] at this
    omega
  have hdv : ∀ x : List (Fin p), (∃ X Y : List (Fin p), ofL x = ofL X * ofL r + ofL Y * ofL ([] : List (Fin p))) → ∃ Q, DivOk x (trimL (mulL r [c])) Q [] := fun x ⟨X, Y, e⟩ => by
    refine ⟨trimL (mulL X [co r n]), trimL_trim _, rfl, by rw [trimL_trim, hlen]; simp, ?_⟩
    rw [e, ofL_nil, PS.mul_zero, PS.add_zero, PS.add_zero, ofL_trim, ofL_trim, ofL_mul, ofL_mul]
    have e2 : ofL X * ofL [co r n] * (ofL r * ofL [c]) = ofL X * ofL r * (ofL [c] * ofL [co r n]) := by
      rw [PS.mul_assoc, PS.mul_assoc]
      congr 1
      rw [PS.mul_left_comm]
      congr 1
      rw [PS.mul_comm]
    rw [e2, hs, PS.mul_one]
  have hl3 := h.l3
  have hk3 := h.k3
  simp only [List.length_nil, Nat.add_zero] at hl3 hk3
  refine ⟨trimL_trim _, trimL_trim _, trimL_trim _, ?_, ?_, ?_, hdv a h.d1, hdv b h.d2, hle r h.lr, hle ru hl3, hle rv hk3⟩
  · rw [hlen, Nat.add_sub_cancel, co_trim, co_mulL_sgl]; grind
  · intro e; rw [e] at hlen; simp at hlen
  · rw [ofL_trim, ofL_trim, ofL_trim, ofL_mul, ofL_mul, ofL_mul, h.e1, PS.add_mul]
    rw [PS.mul_assoc, PS.mul_assoc, PS.mul_assoc, PS.mul_assoc, PS.mul_comm (ofL [c]) (ofL a), PS.mul_comm (ofL [c]) (ofL b)]
theorem GcdI.zero {a b r s ru su rv sv : List (Fin p)} {M : Nat} (h : GcdI a b r s ru su rv sv M) (hr : r = []) (hs : s = []) : trimL a = [] ∧ trimL b = [] := by
  obtain ⟨X, Y, e⟩ := h.d1
  obtain ⟨X', Y', e'⟩ := h.d2
  rw [hr, hs, ofL_nil, PS.mul_zero, PS.mul_zero, PS.add_zero, ← ofL_nil] at e e'
  exact ⟨trim_of_ofL e, trim_of_ofL e'⟩
theorem GcdI.nonzero {a b r s ru su rv sv : List (Fin p)} {M : Nat} (h : GcdI a b r s ru su rv sv M) (hab : trimL a = [] ∧ trimL b = []) : r = [] ∧ s = [] := by
  have ha : ofL a = 0 := by rw [← ofL_trim, hab.1, ofL_nil]
  have hb : ofL b = 0 := by rw [← ofL_trim, hab.2, ofL_nil]
  have e1 := h.e1
  have e2 := h.e2
  rw [ha, hb, PS.mul_zero, PS.mul_zero, PS.add_zero] at e1 e2
  exact ⟨ofL_zero h.tr e1, ofL_zero h.ts e2⟩
/-- made of both: what is compared -/
theorem GcdOk.made {a b d u v : List (Fin p)} {M : Nat} (h : GcdOk a b d u v M) : trimL (addL (trimL (mulL u a)) (trimL (mulL v b))) = d := by
  rw [← h.td]
  refine trim_of_ofL ?_
  rw [ofL_add, ofL_trim, ofL_trim, ofL_mul, ofL_mul, h.eq]
end gp
end Zp
