/- A bundle of texts: Pt, Ga, Gp, Dp. -/
import Derived.Test.YtgmkcmahbefcoaaDoorB00
/- Plain facts on the reference's division. No program is in sight. -/
set_option linter.unusedVariables false
namespace Zp
section ps
variable {p : Nat} [NeZero p]
theorem mulF_below (g : Nat → Fin p) : ∀ (n : Nat) (f : Nat → Fin p), (∀ j, j ≤ n → f j = 0) → mulF f g n = 0
  | 0, f, h => by rw [mulF, h 0 (by omega)]; grind
  | n + 1, f, h => by rw [mulF, h 0 (by omega), mulF_below g n _ (fun j hj => h (j + 1) (by omega))]; grind
theorem mulF_one (g f : Nat → Fin p) (h : ∀ j, f (j + 1) = 0) (n : Nat) : mulF f g n = f 0 * g n := by
  cases n with
  | zero => rfl
  | succ n => rw [mulF, mulF_congr (f' := fun _ => 0) (g' := g) h (fun _ => rfl), mulF_zero]; grind
/-- times c x^k -/
theorem ofL_scl (b : List (Fin p)) (c : Fin p) (k : Nat) : ofL (sclL b c k) = ofL (sclL [1] c k) * ofL b := funext fun i => by
  have h1 : ∀ j, co (sclL [(1 : Fin p)] c k) j = if j = k then c else 0 := fun j => by
    rw [co_sclL]
    by_cases h : j < k
    · rw [if_pos h, if_neg (by omega)]
    · rw [if_neg h]
      by_cases h2 : j = k
      · subst h2; rw [if_pos rfl, Nat.sub_self, co_cons_zero]; grind
      · rw [if_neg h2, co_of_ge (by simp; omega)]; grind
  show co (sclL b c k) i = mulF (co (sclL [1] c k)) (co b) i
  rw [co_sclL]
  by_cases h : i < k
  · rw [if_pos h, mulF_below _ i _ (fun j hj => (h1 j).trans (if_neg (by omega)))]
  · obtain ⟨n, rfl⟩ : ∃ n, i = k + n := ⟨i - k, by omega⟩
    have e1 := mulF_one (co b) (fun i => co (sclL [1] c k) (k + i)) (fun j => (h1 _).trans (if_neg (show ¬ k + (j + 1) = k by omega))) n
    rw [if_neg h, mulF_low _ _ n k (fun j hj => (h1 j).trans (if_neg (by omega))), e1]
    have e : co (sclL [1] c k) (k + 0) = c := (h1 _).trans (if_pos rfl)
    rw [e, show k + n - k = n from by omega]; grind
/-- what the reference's division knows -/
structure DivR (al bl Q R : List (Fin p)) : Prop where
  tq : trimL Q = Q
  tr : trimL R = R
  lq : Q.length ≤ al.length
  lr : R.length ≤ al.length
  eq : ofL al = ofL Q * ofL bl + ofL R
theorem DivR.start {al bl : List (Fin p)} (h : trimL al = al) : DivR al bl [] al := ⟨rfl, h, by simp, Nat.le_refl _, by rw [ofL_nil, PS.zero_mul, PS.zero_add]⟩
theorem DivR.step (hp : IsPrime p) {al bl Q R : List (Fin p)} {k last : Nat} (h : DivR al bl Q R) (hb : bl.length = last + 1) (hb0 : co bl last ≠ 0) (hk : R.length = last + 1 + k) :
    DivR al bl (trimL (addL Q (sclL [1] (co R (last + k) * Zp.inv (co bl last)) k))) (trimL (subL R (sclL bl (co R (last + k) * Zp.inv (co bl last)) k))) ∧ (trimL (subL R (sclL bl (co R (last + k) * Zp.inv (co bl last)) k))).length < R.length := by
  obtain ⟨c, hc⟩ : ∃ c, c = co R (last + k) * Zp.inv (co bl last) := ⟨_, rfl⟩
  rw [← hc]
  have hi := mul_inv hp hb0
  have hlt : (trimL (subL R (sclL bl c k))).length ≤ last + k := trimL_length_of fun i hi' => by
    rw [co_subL, co_sclL, if_neg (by omega)]
    by_cases he : i = last + k
    · subst he
      rw [show last + k - k = last from by omega, hc]
      have : co bl last * (co R (last + k) * Zp.inv (co bl last)) = co R (last + k) * (co bl last * Zp.inv (co bl last)) := by grind
      rw [this, hi]; grind
    · rw [co_of_ge (l := R) (by omega), co_of_ge (l := bl) (by omega)]; grind
  have hlr := h.lr
  refine ⟨⟨trimL_trim _, trimL_trim _, ?_, by omega, ?_⟩, by omega⟩
  · refine trimL_length_of fun i hi' => ?_
    rw [co_addL, co_sclL, co_of_ge (l := Q) (by have := h.lq; omega), if_neg (by omega), co_of_ge (by simp; omega)]; grind
  · rw [ofL_trim, ofL_trim, ofL_add, ofL_sub, ofL_scl bl c k, h.eq, PS.add_mul]
    refine funext fun n => ?_
    simp only [PS.add_ap, PS.sub_ap]
    grind
theorem DivR.done {al bl Q R : List (Fin p)} (h : DivR al bl Q R) (hb : trimL bl = bl) (hl : R.length < bl.length) : DivOk al bl Q R := ⟨h.tq, h.tr, by rw [hb]; exact hl, h.eq⟩
end ps
end Zp

/- Plain facts on words that mend themselves: the polynomial that is near to values at points is what is left behind a division of what vanishes at the points. No program is in sight. -/
set_option linter.unusedVariables false
namespace Zp
section ga
variable {p : Nat} [NeZero p]

/-- what the loop knows -/
structure Gao (xs ys : List (Fin p)) (k : Nat) (r s rv sv : List (Fin p)) : Prop where
  tr : trimL r = r
  ts : trimL s = s
  trv : trimL rv = rv
  tsv : trimL sv = sv
  er : ∀ i, i < xs.length → ev r (co xs i) = ev rv (co xs i) * co ys i
  es : ∀ i, i < xs.length → ev s (co xs i) = ev sv (co xs i) * co ys i
  lt : s.length < r.length
  lv : rv.length < sv.length
  len : sv.length + r.length = xs.length + 2
  big : xs.length + k + 2 ≤ 2 * r.length
theorem co_mem {xs : List (Fin p)} {i : Nat} (h : i < xs.length) : co xs i ∈ xs := by
  rw [co_of_lt h]; exact List.getElem_mem h
theorem Gao.start (hp : IsPrime p) {xs ys s : List (Fin p)} {k : Nat} (hk : k ≤ xs.length) (hs : Fitted xs ys xs.length s) : Gao xs ys k (vanL xs) s [] [1] := by
  have hm := monic_van hp xs
  have h1 := hp.1
  have h10 : trimL [(1 : Fin p)] = [1] := (monic_one (p := p)).trim hp
  refine ⟨hm.trim hp, hs.trim, rfl, h10, fun i hi => ?_, fun i hi => ?_, ?_, by simp, ?_, ?_⟩
  · rw [vanL_zero (co_mem hi)]
    have : ev ([] : List (Fin p)) (co xs i) = 0 := rfl
    rw [this]; grind
  · rw [hs.at_ i hi, if_pos hi]
    have : ev ([1] : List (Fin p)) (co xs i) = 1 := by simp only [ev]; grind
    rw [this]; grind
  · rw [hm.len]; have := hs.len; omega
  · rw [hm.len]; simp; omega
  · rw [hm.len]; omega
theorem Gao.step (hp : IsPrime p) {xs ys r s rv sv Q R : List (Fin p)} {k : Nat} (h : Gao xs ys k r s rv sv) (hd : DivOk r s Q R) (hb : xs.length + k + 2 ≤ 2 * s.length) :
    Gao xs ys k s R sv (trimL (subL rv (trimL (mulL Q sv)))) := by
  have hls : (trimL s).length = s.length := by rw [h.ts]
  have hlr : (trimL r).length = r.length := by rw [h.tr]
  have hlsv : (trimL sv).length = sv.length := by rw [h.tsv]
  have hRl : R.length < s.length := by have := hd.lt; omega
  have hs0 : 0 < s.length := by omega
  have hsv0 : 0 < sv.length := by have := h.lv; omega
  -- the quotient's length
  have hQ : 0 < Q.length := by
    rcases Nat.eq_zero_or_pos Q.length with h0 | h0
    · exfalso
      have hQn : Q = [] := List.length_eq_zero_iff.1 h0
      have e := hd.eq
      rw [hQn, ofL_nil, PS.zero_mul, PS.zero_add] at e
      have := eq_of_ofL h.tr hd.tr e
      have := h.lt
      rw [‹r = R›] at this
      omega
    · exact h0
  have hQt : (trimL Q).length = Q.length := by rw [hd.tq]
  have hQs := mul_length hp (a := Q) (b := s) (by omega) (by omega)
  rw [hQt, hls] at hQs
  have hrl : (trimL (mulL Q s)).length = r.length := by
    rw [← hlr]
    have hA : TrimAt r (trimL (mulL Q s)).length := by
      refine trimAt_iff_co.2 ⟨fun i hi => ?_, .inr ?_⟩
      · have e := congrFun hd.eq i
        rw [PS.add_ap, ← ofL_mul, ofL_ap, ofL_ap, ofL_ap, top_zero _ hi, co_of_ge (l := R) (by omega)] at e
        rw [e]; grind
      · have e := congrFun hd.eq ((trimL (mulL Q s)).length - 1)
        rw [PS.add_ap, ← ofL_mul, ofL_ap, ofL_ap, ofL_ap, co_of_ge (l := R) (by omega)] at e
        have ht := top_ne (l := mulL Q s) (by omega)
        intro h0
        rw [h0] at e
        apply ht
        grind
    exact hA.length.symm
  have hQv := mul_length hp (a := Q) (b := sv) (by omega) (by omega)
  rw [hQt, hlsv] at hQv
  have hlt := h.lt
  have hlen := h.len
  have hlv := h.lv
  -- the new one's length
  have hnl : (trimL (subL rv (trimL (mulL Q sv)))).length = (trimL (mulL Q sv)).length := by
    refine TrimAt.length (trimAt_iff_co.2 ⟨fun i hi => ?_, .inr ?_⟩)
    · rw [co_subL, co_trim, top_zero _ hi, co_of_ge (l := rv) (by omega)]; grind
    · rw [co_subL, co_trim, co_of_ge (l := rv) (by omega)]
      have ht := top_ne (l := mulL Q sv) (by omega)
      intro h0
      apply ht
      grind
  refine ⟨h.ts, hd.tr, h.tsv, trimL_trim _, h.es, fun i hi => ?_, hRl, by rw [hnl]; omega, by rw [hnl]; omega, hb⟩
  have e1 : ev r (co xs i) = ev Q (co xs i) * ev s (co xs i) + ev R (co xs i) := by
    rw [← ev_mulL, ← ev_addL]
    refine ev_congr (fun j => ?_) _
    have e := congrFun hd.eq j
    rw [PS.add_ap, ← ofL_mul, ofL_ap, ofL_ap, ofL_ap] at e
    rw [co_addL, e]
  rw [ev_trim, ev_subL, ev_trim, ev_mulL]
  have e2 := h.er i hi
  have e3 := h.es i hi
  rw [e2, e3] at e1
  have : ev R (co xs i) = ev rv (co xs i) * co ys i - ev Q (co xs i) * (ev sv (co xs i) * co ys i) := by rw [e1]; grind
  rw [this]; grind
/-- the polynomial that is near is found -/
theorem Gao.found (hp : IsPrime p) {xs ys r s rv sv f : List (Fin p)} {k : Nat} (hx : xs.Nodup) (h : Gao xs ys k r s rv sv) (hb : 2 * s.length < xs.length + k + 2) (hf : (trimL f).length ≤ k)
    (hd : 2 * diffN xs.length (fun i => ev f (co xs i)) (co ys) + k ≤ xs.length) : ofL s = ofL sv * ofL f := by
  have hsv0 : 0 < sv.length := by have := h.lv; omega
  have hag := agree_diff xs.length (fun i => ev f (co xs i)) (co ys)
  have hnd : ((agree xs.length (fun i => ev f (co xs i)) (co ys)).map (co xs)).Nodup := nodup_map_on (fun a ha b hb he => nodup_co hx (mem_agree.1 ha).1 (mem_agree.1 hb).1 he) (agree_nodup _ _ _)
  have hz : ∀ x ∈ (agree xs.length (fun i => ev f (co xs i)) (co ys)).map (co xs), ev (trimL (subL s (mulL sv f))) x = 0 := by
    intro x hx
    obtain ⟨i, hi, rfl⟩ := List.mem_map.1 hx
    have hi' := mem_agree.1 hi
    rw [ev_trim, ev_subL, ev_mulL, h.es i hi'.1]
    have : ev f (co xs i) = co ys i := hi'.2
    rw [this]; grind
  have hlen : (trimL (mulL sv f)).length + 1 ≤ sv.length + (trimL f).length ∨ (trimL (mulL sv f)).length = 0 := by
    rcases Nat.eq_zero_or_pos (trimL f).length with h0 | h0
    · right
      have : ofL f = 0 := by rw [← ofL_trim, List.length_eq_zero_iff.1 h0, ofL_nil]
      have e : trimL (mulL sv f) = [] := by
        have := trim_of_ofL (a := mulL sv f) (b := []) (by rw [ofL_mul, this, PS.mul_zero, ofL_nil])
        rw [this]; rfl
      rw [e]; rfl
    · left
      have e := mul_length hp (a := sv) (b := f) (by rw [h.tsv]; exact hsv0) h0
      rw [h.tsv] at e
      omega
  have hl := h.len
  have hbig := h.big
  have hsub : (trimL (subL s (mulL sv f))).length ≤ (agree xs.length (fun i => ev f (co xs i)) (co ys)).length := by
    refine Zp.subL_length ?_ ?_
    · rw [h.ts]; omega
    · omega
  have h0 := zero_of_roots hp hnd hz (by rw [List.length_map]; exact hsub)
  rw [trimL_trim] at h0
  have e : ofL (subL s (mulL sv f)) = 0 := by rw [← ofL_trim, h0, ofL_nil]
  rw [ofL_sub, ofL_mul] at e
  exact PS.eq_of_sub e
/-- what the division leaves then -/
theorem Gao.quot (hp : IsPrime p) {xs ys r s rv sv f a R : List (Fin p)} {k : Nat} (hx : xs.Nodup) (h : Gao xs ys k r s rv sv) (hb : 2 * s.length < xs.length + k + 2) (hf : (trimL f).length ≤ k)
    (hd : 2 * diffN xs.length (fun i => ev f (co xs i)) (co ys) + k ≤ xs.length) (hq : DivOk s sv a R) : a = trimL f ∧ R = [] := by
  have e := h.found hp hx hb hf hd
  have hsv0 : 0 < sv.length := by have := h.lv; omega
  refine hq.unique hp ⟨trimL_trim _, rfl, ?_, ?_⟩
  · rw [h.tsv]; simpa using hsv0
  · rw [e, ofL_trim, ofL_nil, PS.add_zero, PS.mul_comm]
end ga
end Zp

/- Plain facts on what divides two polynomials and is made of both. No program is in sight. -/
set_option linter.unusedVariables false
namespace Zp
section gp
variable {p : Nat} [NeZero p]

theorem co_mulL_sgl (a : List (Fin p)) (c : Fin p) (i : Nat) : co (mulL a [c]) i = co a i * c := by
  induction a generalizing i with
  | nil => rw [mulL, co_nil]; grind
  | cons x a ih =>
    rw [co_mulL_cons]
    cases i with
    | zero => rw [if_pos rfl, co_cons_zero c [], co_cons_zero x a]; grind
    | succ i => rw [if_neg (by omega), Nat.add_sub_cancel, ih, co_cons_succ c [], co_nil, co_cons_succ x a]; grind
theorem mul_len_le (a b : List (Fin p)) : (trimL (mulL a b)).length ≤ a.length + b.length - 1 := trimL_length_of fun i hi => by
  by_cases h : a.length + b.length ≤ i + 1
  · exact co_mulL_ge b a i h
  · omega
theorem mul_len_nil {a b : List (Fin p)} (h : a = [] ∨ b = []) : trimL (mulL a b) = [] := by
  refine trimL_congr (m := []) fun i => ?_
  rw [co_nil]
  rcases h with rfl | rfl
  · exact co_nil i
  · exact co_mulL_zero_right (fun i => co_nil i) a i
theorem DivOk.len (hp : IsPrime p) {a b Q R : List (Fin p)} (h : DivOk a b Q R) (hQ : Q ≠ []) : Q.length + (trimL b).length ≤ (trimL a).length + 1 := by
  have hb : 0 < (trimL b).length := by have := h.lt; omega
  have hq : 0 < (trimL Q).length := by rw [h.tq]; exact List.length_pos_iff.2 hQ
  have h1 := mul_length hp hq hb
  rw [h.tq] at h1
  have hpos : 0 < (trimL (mulL Q b)).length := by rw [h.tq] at hq; omega
  have h2 := top_ne hpos
  rcases Nat.lt_or_ge (trimL a).length (trimL (mulL Q b)).length with hlt | hge
  · exfalso
    have e := congrFun h.eq ((trimL (mulL Q b)).length - 1)
    rw [PS.add_ap, ← ofL_mul, ofL_ap, ofL_ap, ofL_ap, top_zero a (by omega), co_of_ge (l := R) (by have := h.lt; rw [h.tq] at hq; omega)] at e
    apply h2
    grind
  · omega

/-- what the program's loop knows -/
structure GcdI (a b r s ru su rv sv : List (Fin p)) (M : Nat) : Prop where
  tr : trimL r = r
  ts : trimL s = s
  e1 : ofL r = ofL ru * ofL a + ofL rv * ofL b
  e2 : ofL s = ofL su * ofL a + ofL sv * ofL b
  d1 : ∃ X Y : List (Fin p), ofL a = ofL X * ofL r + ofL Y * ofL s
  d2 : ∃ X Y : List (Fin p), ofL b = ofL X * ofL r + ofL Y * ofL s
  lr : r.length ≤ M
  ls : s.length ≤ M
  l1 : su.length + r.length ≤ M
  l2 : su.length + s.length ≤ M
  l3 : ru.length + s.length ≤ M
  k1 : sv.length + r.length ≤ M
  k2 : sv.length + s.length ≤ M
  k3 : rv.length + s.length ≤ M
theorem GcdI.start (a b : List (Fin p)) (M : Nat) (hM : (trimL a).length + (trimL b).length + 1 ≤ M) : GcdI a b (trimL a) (trimL b) [1] [] [] [1] M :=
  ⟨trimL_trim _, trimL_trim _, by rw [ofL_trim, ofL_one, ofL_nil, PS.one_mul, PS.zero_mul, PS.add_zero], by rw [ofL_trim, ofL_one, ofL_nil, PS.one_mul, PS.zero_mul, PS.zero_add],
    ⟨[1], [], by rw [ofL_trim, ofL_one, ofL_nil, PS.one_mul, PS.zero_mul, PS.add_zero]⟩, ⟨[], [1], by rw [ofL_trim, ofL_trim, ofL_one, ofL_nil, PS.one_mul, PS.zero_mul, PS.zero_add]⟩,
    by omega, by omega, by simp; omega, by simp; omega, by simp; omega, by simp; omega, by simp; omega, by simp; omega⟩
theorem gcd_lin {A B R S U U' V V' Q T : PS p} (h1 : R = U * A + V * B) (h2 : S = U' * A + V' * B) (h : R = Q * S + T) : T = (U - Q * U') * A + (V - Q * V') * B := by
  have e : T = R - Q * S := (PS.sub_eq_iff.2 (by rw [h, PS.add_comm])).symm
  rw [e, PS.sub_eq_iff, h1, h2, PS.sub_mul, PS.sub_mul, PS.mul_add, PS.mul_assoc, PS.mul_assoc]
  refine funext fun n => ?_
  simp only [PS.add_ap, PS.sub_ap]
  grind
theorem gcd_back {A R S Q T X Y : PS p} (h : A = X * R + Y * S) (h2 : R = Q * S + T) : A = (X * Q + Y) * S + X * T := by
  rw [h, h2, PS.mul_add, PS.add_mul, PS.mul_assoc]
  refine funext fun n => ?_
  simp only [PS.add_ap]
  grind
theorem GcdI.step (hp : IsPrime p) {a b r s ru su rv sv Q R : List (Fin p)} {M : Nat} (h : GcdI a b r s ru su rv sv M) (hd : DivOk r s Q R) :
    GcdI a b s R su (trimL (subL ru (trimL (mulL Q su)))) sv (trimL (subL rv (trimL (mulL Q sv)))) M := by
  have hlt := hd.lt
  rw [h.ts] at hlt
  have hlen : ∀ t u : List (Fin p), t.length + r.length ≤ M → u.length + s.length ≤ M → t.length + s.length ≤ M → (trimL (subL u (trimL (mulL Q t)))).length + s.length ≤ M := fun t u h1 h2 h3 => by
    have h4 : (trimL (subL u (trimL (mulL Q t)))).length ≤ max u.length (trimL (mulL Q t)).length := by
      refine Nat.le_trans (trimL_length_le _) ?_
      rw [subL, tab_length]; exact Nat.le_refl _
    have h5 : (trimL (mulL Q t)).length + s.length ≤ M := by
      by_cases hQ : Q = []
      · rw [mul_len_nil (.inl hQ)]; have := h.ls; simp; omega
      · by_cases ht : t = []
        · rw [mul_len_nil (.inr ht)]; have := h.ls; simp; omega
        · have h6 := hd.len hp hQ
          rw [h.tr, h.ts] at h6
          have h7 := mul_len_le Q t
          have := List.length_pos_iff.2 hQ
          have := List.length_pos_iff.2 ht
          omega
    omega
  have h1 := hlen su ru h.l1 h.l3 h.l2
  have h2 := hlen sv rv h.k1 h.k3 h.k2
  have hl2 := h.l2
  have hk2 := h.k2
  have hls := h.ls
  refine ⟨h.ts, hd.tr, h.e2, ?_, ?_, ?_, hls, by omega, by omega, by omega, by omega, by omega, by omega, by omega⟩
  · rw [ofL_trim, ofL_trim, ofL_sub, ofL_sub, ofL_trim, ofL_trim, ofL_mul, ofL_mul]
    exact gcd_lin h.e1 h.e2 hd.eq
  · obtain ⟨X, Y, e⟩ := h.d1
    exact ⟨addL (mulL X Q) Y, X, by rw [ofL_add, ofL_mul]; exact gcd_back e hd.eq⟩
  · obtain ⟨X, Y, e⟩ := h.d2
    exact ⟨addL (mulL X Q) Y, X, by rw [ofL_add, ofL_mul]; exact gcd_back e hd.eq⟩
/-- a divisor of both that is made of both -/
structure GcdOk (a b d u v : List (Fin p)) (M : Nat) : Prop where
  td : trimL d = d
  tu : trimL u = u
  tv : trimL v = v
  top : co d (d.length - 1) = 1
  pos : d ≠ []
  eq : ofL u * ofL a + ofL v * ofL b = ofL d
  da : ∃ Q, DivOk a d Q []
  db : ∃ Q, DivOk b d Q []
  ld : d.length ≤ M
  lu : u.length ≤ M
  lv : v.length ≤ M
theorem ofL_sgl_mul (hp : IsPrime p) {x : Fin p} (hx : x ≠ 0) : ofL [Zp.inv x] * ofL [x] = (1 : PS p) := by
  rw [← ofL_mul, ← ofL_one]
  refine funext fun i => ?_
  rw [ofL_ap, ofL_ap, co_mulL_sgl]
  cases i with
  | zero => exact inv_mul' hp hx
  | succ i => rw [co_of_ge (by simp), co_of_ge (by simp)]; grind
theorem GcdI.done (hp : IsPrime p) {a b r ru su rv sv : List (Fin p)} {M : Nat} (h : GcdI a b r [] ru su rv sv M) (hr : r ≠ []) {n : Nat} (hn : r.length = n + 1) :
    GcdOk a b (trimL (mulL r [Zp.inv (co r n)])) (trimL (mulL ru [Zp.inv (co r n)])) (trimL (mulL rv [Zp.inv (co r n)])) M := by
  have hpos : 0 < (trimL r).length := by rw [h.tr]; omega
  have htop := top_ne hpos
  rw [h.tr, hn, Nat.add_sub_cancel] at htop
  have hi := inv_mul' hp htop
  have hi0 : Zp.inv (co r n) ≠ 0 := fun e => by rw [e] at hi; have := one_ne_zero hp; grind
  have hs := ofL_sgl_mul hp htop
  generalize Zp.inv (co r n) = c at *
  have hlen : (trimL (mulL r [c])).length = n + 1 := TrimAt.length (trimAt_iff_co.2 ⟨fun i hi => by rw [co_mulL_sgl, co_of_ge (l := r) (by omega)]; grind, .inr (by
    rw [Nat.add_sub_cancel, co_mulL_sgl]; exact mul_ne_zero hp htop hi0)⟩)
  have hle : ∀ t : List (Fin p), t.length ≤ M → (trimL (mulL t [c])).length ≤ M := fun t ht => by
    have := mul_len_le t [c]
    simp only [List.length_cons, List.length_nil] at this
    omega
  have hdv : ∀ x : List (Fin p), (∃ X Y : List (Fin p), ofL x = ofL X * ofL r + ofL Y * ofL ([] : List (Fin p))) → ∃ Q, DivOk x (trimL (mulL r [c])) Q [] := fun x ⟨X, Y, e⟩ => by
    refine ⟨trimL (mulL X [co r n]), trimL_trim _, rfl, by rw [trimL_trim, hlen]; simp, ?_⟩
    rw [e, ofL_nil, PS.mul_zero, PS.add_zero, PS.add_zero, ofL_trim, ofL_trim, ofL_mul, ofL_mul]
    have e2 : ofL X * ofL [co r n] * (ofL r * ofL [c]) = ofL X * ofL r * (ofL [c] * ofL [co r n]) := by
      rw [PS.mul_assoc, PS.mul_assoc]
      congr 1
      rw [PS.mul_left_comm]
      congr 1
      rw [PS.mul_comm]
    rw [e2, hs, PS.mul_one]
  have hl3 := h.l3
  have hk3 := h.k3
  simp only [List.length_nil, Nat.add_zero] at hl3 hk3
  refine ⟨trimL_trim _, trimL_trim _, trimL_trim _, ?_, ?_, ?_, hdv a h.d1, hdv b h.d2, hle r h.lr, hle ru hl3, hle rv hk3⟩
  · rw [hlen, Nat.add_sub_cancel, co_trim, co_mulL_sgl]; grind
  · intro e; rw [e] at hlen; simp at hlen
  · rw [ofL_trim, ofL_trim, ofL_trim, ofL_mul, ofL_mul, ofL_mul, h.e1, PS.add_mul]
    rw [PS.mul_assoc, PS.mul_assoc, PS.mul_assoc, PS.mul_assoc, PS.mul_comm (ofL [c]) (ofL a), PS.mul_comm (ofL [c]) (ofL b)]
theorem GcdI.zero {a b r s ru su rv sv : List (Fin p)} {M : Nat} (h : GcdI a b r s ru su rv sv M) (hr : r = []) (hs : s = []) : trimL a = [] ∧ trimL b = [] := by
  obtain ⟨X, Y, e⟩ := h.d1
  obtain ⟨X', Y', e'⟩ := h.d2
  rw [hr, hs, ofL_nil, PS.mul_zero, PS.mul_zero, PS.add_zero, ← ofL_nil] at e e'
  exact ⟨trim_of_ofL e, trim_of_ofL e'⟩
theorem GcdI.nonzero {a b r s ru su rv sv : List (Fin p)} {M : Nat} (h : GcdI a b r s ru su rv sv M) (hab : trimL a = [] ∧ trimL b = []) : r = [] ∧ s = [] := by
  have ha : ofL a = 0 := by rw [← ofL_trim, hab.1, ofL_nil]
  have hb : ofL b = 0 := by rw [← ofL_trim, hab.2, ofL_nil]
  have e1 := h.e1
  have e2 := h.e2
  rw [ha, hb, PS.mul_zero, PS.mul_zero, PS.add_zero] at e1 e2
  exact ⟨ofL_zero h.tr e1, ofL_zero h.ts e2⟩
/-- made of both: what is compared -/
theorem GcdOk.made {a b d u v : List (Fin p)} {M : Nat} (h : GcdOk a b d u v M) : trimL (addL (trimL (mulL u a)) (trimL (mulL v b))) = d := by
  rw [← h.td]
  refine trim_of_ofL ?_
  rw [ofL_add, ofL_trim, ofL_trim, ofL_mul, ofL_mul, h.eq]
end gp
end Zp

/- Plain facts on places that are gone, places that are kept, places at which a polynomial is not what a word is. No program is in sight. -/
set_option linter.unusedVariables false
namespace Zp
/-- the places below n that are kept -/
def kept (n : Nat) (gone : List Int) : List Nat := (List.range n).filter fun i => decide ((i : Int) ∉ gone)
theorem kept_in {n : Nat} {gone : List Int} (h : (n : Int) ∉ gone) : kept (n + 1) gone = kept n gone ++ [n] := by
  unfold kept
  rw [List.range_succ, List.filter_append]
  simp [h]
theorem kept_out {n : Nat} {gone : List Int} (h : (n : Int) ∈ gone) : kept (n + 1) gone = kept n gone := by
  unfold kept
  rw [List.range_succ, List.filter_append]
  simp [h]
theorem kept_len (n : Nat) (gone : List Int) : (kept n gone).length ≤ n := by
  have := List.length_filter_le (fun i : Nat => decide ((i : Int) ∉ gone)) (List.range n)
  rw [List.length_range] at this
  exact this
theorem kept_lt {n : Nat} {gone : List Int} {i : Nat} (h : i ∈ kept n gone) : i < n := by
  have := (List.mem_filter.1 h).1
  exact List.mem_range.1 this
theorem kept_nodup (n : Nat) (gone : List Int) : (kept n gone).Nodup := List.nodup_range.filter _
section
variable {p : Nat} [NeZero p]
/-- is a polynomial another thing at a place than the word is? -/
def offB (s r : Fin p) (word : List Int) (a : List (Fin p)) (i : Nat) : Bool := decide (ev a (s * pw r i) ≠ el p (word.getD i 0))
/-- the kept places at which it is -/
def wrongs (s r : Fin p) (n : Nat) (gone word : List Int) (a : List (Fin p)) : List Nat := (kept n gone).filter (offB s r word a)
theorem wrongs_in {s r : Fin p} {n : Nat} {gone word : List Int} {a : List (Fin p)} (h : (n : Int) ∉ gone) : wrongs s r (n + 1) gone word a = wrongs s r n gone word a ++ if offB s r word a n then [n] else [] := by
  unfold wrongs
  rw [kept_in h, List.filter_append]
  congr 1
  cases hb : offB s r word a n <;> simp [hb]
theorem wrongs_out {s r : Fin p} {n : Nat} {gone word : List Int} {a : List (Fin p)} (h : (n : Int) ∈ gone) : wrongs s r (n + 1) gone word a = wrongs s r n gone word a := by
  unfold wrongs
  rw [kept_out h]
theorem wrongs_len (s r : Fin p) (n : Nat) (gone word : List Int) (a : List (Fin p)) : (wrongs s r n gone word a).length ≤ n := Nat.le_trans (List.length_filter_le _ _) (kept_len n gone)
theorem wrongs_congr {s r : Fin p} {n : Nat} {gone word : List Int} {a b : List (Fin p)} (h : ∀ i, co a i = co b i) : wrongs s r n gone word a = wrongs s r n gone word b := by
  unfold wrongs
  congr 1
  funext i
  unfold offB
  rw [ev_congr h]
theorem wrongs_trim (s r : Fin p) (n : Nat) (gone word : List Int) (a : List (Fin p)) : wrongs s r n gone word (trimL a) = wrongs s r n gone word a := wrongs_congr (co_trim a)
omit [NeZero p] in
theorem diffN_list (L : List Nat) (F G : Nat → Fin p) : ∀ k, k ≤ L.length → diffN k (fun j => F (L.getD j 0)) (fun j => G (L.getD j 0)) = ((L.take k).filter fun i => decide (F i ≠ G i)).length
  | 0, _ => rfl
  | k + 1, hk => by
    have hg : L.getD k 0 = L[k]'(by omega) := by rw [List.getD_eq_getElem?_getD, List.getElem?_eq_getElem (by omega), Option.getD_some]
    rw [diffN_succ, diffN_list L F G k (by omega), List.take_succ_eq_append_getElem (by omega), List.filter_append, List.length_append, hg]
    congr 1
    by_cases h : F (L[k]'(by omega)) = G (L[k]'(by omega)) <;> simp [h]
/-- points and values at the kept places -/
def keptX (s r : Fin p) (n : Nat) (gone : List Int) : List Int := (kept n gone).map fun i => fv (s * pw r i)
def keptY (n : Nat) (gone word : List Int) : List Int := (kept n gone).map fun i => word.getD i 0
theorem keptX_len (s r : Fin p) (n : Nat) (gone : List Int) : (keptX s r n gone).length = (kept n gone).length := by simp [keptX]
theorem keptY_len (n : Nat) (gone word : List Int) : (keptY n gone word).length = (kept n gone).length := by simp [keptY]
theorem keptX_els (s r : Fin p) (n : Nat) (gone : List Int) : els p (keptX s r n gone) = (kept n gone).map fun i => s * pw r i := by
  unfold keptX els
  rw [List.map_map]
  exact List.map_congr_left fun i _ => by simp [el_fv]
theorem keptX_nodup (hp : IsPrime p) {s r : Fin p} {n : Nat} (hs : s ≠ 0) (hr : Ord r n) (hn : 0 < n) (gone : List Int) : (els p (keptX s r n gone)).Nodup := by
  rw [keptX_els]
  exact nodup_map_on (fun a ha b hb he => pts_inj hp hr hn hs (kept_lt ha) (kept_lt hb) he) (kept_nodup n gone)
theorem wrongs_diff (s r : Fin p) (n : Nat) (gone word : List Int) (f : List (Fin p)) :
    diffN (els p (keptX s r n gone)).length (fun i => ev f (co (els p (keptX s r n gone)) i)) (co (els p (keptY n gone word))) = (wrongs s r n gone word f).length := by
  have hl : (els p (keptX s r n gone)).length = (kept n gone).length := by simp [els, keptX]
  rw [hl]
  have h := diffN_list (p := p) (kept n gone) (fun i => ev f (s * pw r i)) (fun i => el p (word.getD i 0)) (kept n gone).length (Nat.le_refl _)
  rw [List.take_length] at h
  show _ = ((kept n gone).filter (offB s r word f)).length
  unfold offB
  rw [← h]
  refine diffN_congr (fun j hj => ?_) (fun j hj => ?_)
  · show ev f (co (els p (keptX s r n gone)) j) = ev f (s * pw r ((kept n gone).getD j 0))
    rw [co_of_lt (by rw [hl]; exact hj), List.getD_eq_getElem?_getD, List.getElem?_eq_getElem hj, Option.getD_some]
    simp [els, keptX, el_fv]
  · show co (els p (keptY n gone word)) j = el p (word.getD ((kept n gone).getD j 0) 0)
    rw [co_of_lt (by simp [els, keptY]; exact hj), List.getD_eq_getElem?_getD (l := kept n gone), List.getElem?_eq_getElem hj, Option.getD_some]
    simp [els, keptY]
end
end Zp
