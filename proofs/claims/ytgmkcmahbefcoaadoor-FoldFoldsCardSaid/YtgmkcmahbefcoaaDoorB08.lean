/- A bundle of texts: Cy, Iv. -/
import Derived.Test.YtgmkcmahbefcoaaDoorB00
/- Plain facts on what mixes: the matrix 1 / (k + j + 8): what is unlike at few places is unlike at many behind it; matrices of eight rows, undone by rows. No program is in sight. -/
set_option linter.unusedVariables false
namespace Zp
section cy
variable {p : Nat} [NeZero p]

/-- a list's sum -/
def sumL : List (Fin p) → Fin p
  | [] => 0
  | x :: l => x + sumL l
theorem sumL_append (a b : List (Fin p)) : sumL (a ++ b) = sumL a + sumL b := by
  induction a with
  | nil => rw [List.nil_append, sumL]; grind
  | cons x a ih => rw [List.cons_append, sumL, ih, sumL]; grind
theorem sumT_list (n : Nat) (f : Nat → Fin p) : sumT n f = sumL ((List.range n).map f) := by
  induction n with
  | zero => rfl
  | succ n ih => rw [sumT_succ, ih, List.range_succ, List.map_append, sumL_append]; simp only [List.map_cons, List.map_nil, sumL]; grind
theorem sumL_filter (f : Nat → Fin p) (q : Nat → Bool) : ∀ l : List Nat, (∀ j ∈ l, q j = false → f j = 0) → sumL (l.map f) = sumL ((l.filter q).map f)
  | [], _ => rfl
  | j :: l, h => by
    have ih := sumL_filter f q l (fun i hi => h i (List.mem_cons_of_mem _ hi))
    rw [List.map_cons, sumL, ih, List.filter_cons]
    cases hq : q j with
    | true => rw [if_pos rfl, List.map_cons, sumL]
    | false => rw [if_neg (by simp), h j (by simp) hq]; grind

/-- partial fractions -/
theorem fractions (hp : IsPrime p) (a d : Nat → Fin p) : ∀ J : List Nat, (∀ i ∈ J, ∀ j ∈ J, a i = a j → i = j) → J.Nodup → (∀ j ∈ J, d j ≠ 0) → ∃ Q : List (Fin p), Q.length ≤ J.length ∧
    (∀ t, (∀ j ∈ J, t ≠ a j) → sumL (J.map fun j => d j * Zp.inv (t - a j)) * ev (vanL (J.map a)) t = ev Q t) ∧ (J ≠ [] → 0 < (trimL Q).length)
  | [], _, _, _ => ⟨[], by simp, fun t _ => by simp only [List.map_nil, sumL, ev]; grind, fun h => absurd rfl h⟩
  | j :: J, hinj, hnd, hd => by
    obtain ⟨Q, h1, h2, _⟩ := fractions hp a d J (fun i hi k hk => hinj i (List.mem_cons_of_mem _ hi) k (List.mem_cons_of_mem _ hk)) (List.nodup_cons.1 hnd).2 (fun i hi => hd i (List.mem_cons_of_mem _ hi))
    have hv : ∀ t, ev (vanL ((j :: J).map a)) t = (t - a j) * ev (vanL (J.map a)) t := fun t => by rw [ev_vanL, ev_vanL, List.map_cons, List.map_cons, prodL]
    have hev : ∀ t, ev (trimL (addL (smulL (d j) (vanL (J.map a))) (mulL Q [0 - a j, 1]))) t = d j * ev (vanL (J.map a)) t + ev Q t * (t - a j) := fun t => by
      rw [ev_trim, ev_addL, ev_smulL, ev_mulL]; simp only [ev]; grind
    refine ⟨trimL (addL (smulL (d j) (vanL (J.map a))) (mulL Q [0 - a j, 1])), ?_, fun t ht => ?_, fun _ => ?_⟩
    · refine trimL_length_of fun i hi => ?_
      rw [List.length_cons] at hi
      rw [co_addL, co_smulL, co_mulL_two, co_of_ge (l := Q) (by omega), co_of_ge (l := vanL (J.map a)) (by have := vanL_length (J.map a); rw [List.length_map] at this; omega), if_neg (by omega), co_of_ge (l := Q) (by omega)]; grind
    · have hne : t - a j ≠ 0 := fun e => ht j (by simp) (by grind)
      have hi := mul_inv hp hne
      rw [hev, hv, List.map_cons, sumL, ← h2 t (fun i hi => ht i (List.mem_cons_of_mem _ hi))]
      generalize Zp.inv (t - a j) = I at *
      generalize sumL (J.map fun j => d j * Zp.inv (t - a j)) = S
      generalize ev (vanL (J.map a)) t = V
      have e : (d j * I + S) * ((t - a j) * V) = d j * ((t - a j) * I) * V + S * V * (t - a j) := by grind
      rw [e, hi]; grind
    · rw [trimL_trim]
      have hne : ev (trimL (addL (smulL (d j) (vanL (J.map a))) (mulL Q [0 - a j, 1]))) (a j) ≠ 0 := by
        rw [hev]
        have h3 : ev (vanL (J.map a)) (a j) ≠ 0 := vanL_ne hp fun hm => by
          obtain ⟨i, hi, he⟩ := List.mem_map.1 hm
          have := hinj i (List.mem_cons_of_mem _ hi) j (by simp) he
          exact (List.nodup_cons.1 hnd).1 (this ▸ hi)
        intro e
        have : d j * ev (vanL (J.map a)) (a j) = 0 := by grind
        rcases mul_eq_zero hp this with h | h
        · exact hd j (by simp) h
        · exact h3 h
      rcases Nat.eq_zero_or_pos (trimL (addL (smulL (d j) (vanL (J.map a))) (mulL Q [0 - a j, 1]))).length with h0 | h0
      · exfalso
        rw [List.length_eq_zero_iff.1 h0] at hne
        exact hne rfl
      · exact h0

/-- a matrix's row times a vector, of eight places -/
def ap (m : Nat → Nat → Fin p) (v : Nat → Fin p) (a : Nat) : Fin p := sumT 8 fun j => m a j * v j
/-- what mixes -/
def cauchy (p : Nat) [NeZero p] (k j : Nat) : Fin p := Zp.inv (el p ((k + j + 8 : Nat) : Int))
/-- at how many of eight places it is not 0 -/
def nzN (v : Nat → Fin p) : Nat := ((List.range 8).filter fun j => decide (v j ≠ 0)).length
theorem el_nat_inj (h23 : 23 ≤ p) {a b : Nat} (ha : a < 23) (hb : b < 23) (h : el p (a : Int) = el p (b : Int)) : a = b := by
  rw [el_eq_iff, Int.emod_eq_of_lt (by omega) (by omega), Int.emod_eq_of_lt (by omega) (by omega)] at h
  omega
theorem filter_len {α : Type} (q : α → Bool) : ∀ l : List α, l.length = (l.filter q).length + (l.filter fun x => !q x).length
  | [] => rfl
  | x :: l => by
    have ih := filter_len q l
    rw [List.filter_cons, List.filter_cons]
    cases q x <;> simp <;> omega
/-- WHAT IS UNLIKE AT FEW PLACES IS UNLIKE AT MANY -/
theorem spreads (hp : IsPrime p) (h23 : 23 ≤ p) (d : Nat → Fin p) (hd : 0 < nzN d) : 9 ≤ nzN d + nzN (ap (cauchy p) d) := by
  obtain ⟨J, hJ⟩ : ∃ J, J = (List.range 8).filter fun j => decide (d j ≠ 0) := ⟨_, rfl⟩
  have hmem : ∀ j, j ∈ J ↔ j < 8 ∧ d j ≠ 0 := fun j => by rw [hJ]; simp
  have hJl : nzN d = J.length := by rw [hJ]; rfl
  have a_inj : ∀ i j, i < 8 → j < 8 → (0 - el p ((i + 8 : Nat) : Int) : Fin p) = 0 - el p ((j + 8 : Nat) : Int) → i = j := fun i j hi hj h => by
    have : el p ((i + 8 : Nat) : Int) = el p ((j + 8 : Nat) : Int) := by grind
    have := el_nat_inj h23 (by omega) (by omega) this
    omega
  obtain ⟨Q, h1, h2, h3⟩ := fractions hp (fun j => 0 - el p ((j + 8 : Nat) : Int)) d J (fun i hi j hj => a_inj i j ((hmem i).1 hi).1 ((hmem j).1 hj).1) (by rw [hJ]; exact List.nodup_range.filter _) (fun j hj => ((hmem j).1 hj).2)
  have hsub : ∀ k j : Nat, el p (k : Int) - (0 - el p ((j + 8 : Nat) : Int)) = el p ((k + j + 8 : Nat) : Int) := fun k j => by
    have : ((k + j + 8 : Nat) : Int) = (k : Int) + ((j + 8 : Nat) : Int) := by omega
    rw [this, el_add]; grind
  have hnz : ∀ k j, k < 8 → j < 8 → el p ((k + j + 8 : Nat) : Int) ≠ 0 := fun k j hk hj h => by
    rw [← el_zero (p := p)] at h
    have := el_nat_inj h23 (a := k + j + 8) (b := 0) (by omega) (by omega) h
    omega
  obtain ⟨Z, hZ⟩ : ∃ Z, Z = (List.range 8).filter fun k => decide (ap (cauchy p) d k = 0) := ⟨_, rfl⟩
  have hZm : ∀ k, k ∈ Z ↔ k < 8 ∧ ap (cauchy p) d k = 0 := fun k => by rw [hZ]; simp
  have hroots : (Z.map fun k : Nat => el p (k : Int)).length < (trimL Q).length := by
    refine roots_lt hp (h3 (by intro e; rw [hJl, e] at hd; simp at hd)) ?_ ?_
    · rw [List.nodup_iff_pairwise_ne, List.pairwise_map]
      have : Z.Nodup := by rw [hZ]; exact List.nodup_range.filter _
      rw [List.nodup_iff_pairwise_ne] at this
      refine this.imp_of_mem fun {i j} hi hj hne he => hne ?_
      exact el_nat_inj h23 (by have := ((hZm i).1 hi).1; omega) (by have := ((hZm j).1 hj).1; omega) he
    · intro x hx
      obtain ⟨k, hk, rfl⟩ := List.mem_map.1 hx
      obtain ⟨hk8, hk0⟩ := (hZm k).1 hk
      rw [← h2 _ (fun j hj e => hnz k j hk8 ((hmem j).1 hj).1 (by rw [← hsub, e]; grind))]
      have e : sumL (J.map fun j => d j * Zp.inv (el p (k : Int) - (0 - el p ((j + 8 : Nat) : Int)))) = ap (cauchy p) d k := by
        rw [ap, sumT_list, sumL_filter _ (fun j => decide (d j ≠ 0)) (List.range 8) (fun j _ hj => by
          have : d j = 0 := by simpa using hj
          rw [this]; grind), ← hJ]
        congr 1
        exact List.map_congr_left fun j _ => by rw [hsub, cauchy]; grind
      rw [e, hk0]; grind
  have hq := trimL_length_le Q
  rw [List.length_map] at hroots
  have hcount : Z.length + nzN (ap (cauchy p) d) = 8 := by
    have h := filter_len (fun k => decide (ap (cauchy p) d k = 0)) (List.range 8)
    have e : ((List.range 8).filter fun k => !decide (ap (cauchy p) d k = 0)) = (List.range 8).filter fun k => decide (ap (cauchy p) d k ≠ 0) := by
      congr 1; funext k; simp
    rw [e, List.length_range] at h
    rw [hZ, nzN]; omega
  omega
theorem nzN_zero {v : Nat → Fin p} : nzN v = 0 ↔ ∀ j, j < 8 → v j = 0 := by
  unfold nzN
  rw [List.length_eq_zero_iff, List.filter_eq_nil_iff]
  simp
theorem ap_zero (m : Nat → Nat → Fin p) {v : Nat → Fin p} (h : ∀ j, j < 8 → v j = 0) (a : Nat) : ap m v a = 0 := by
  unfold ap
  rw [sumT_congr (g := fun _ => 0) (fun i hi => by rw [h i hi]; grind), sumT_zero]
theorem nzN_le (v : Nat → Fin p) : nzN v ≤ 8 := by
  have := List.length_filter_le (fun j => decide (v j ≠ 0)) (List.range 8)
  rw [List.length_range] at this
  exact this
/-- it makes 0 of 0 alone -/
def Inj (m : Nat → Nat → Fin p) : Prop := ∀ v : Nat → Fin p, (∀ a, a < 8 → ap m v a = 0) → ∀ j, j < 8 → v j = 0
theorem cauchy_inj (hp : IsPrime p) (h23 : 23 ≤ p) : Inj (cauchy p) := fun v h => by
  rw [← nzN_zero]
  rcases Nat.eq_zero_or_pos (nzN v) with h0 | h0
  · exact h0
  · have h1 := spreads hp h23 v h0
    have h2 := nzN_zero.2 h
    have h3 := nzN_le v
    omega

theorem ap_congr {m m' : Nat → Nat → Fin p} {v v' : Nat → Fin p} {a a' : Nat} (hm : ∀ j, j < 8 → m a j = m' a' j) (hv : ∀ j, j < 8 → v j = v' j) : ap m v a = ap m' v' a' := sumT_congr fun j hj => by rw [hm j hj, hv j hj]
theorem ap_sub (m : Nat → Nat → Fin p) (u v : Nat → Fin p) (a : Nat) : ap m (fun j => u j - v j) a = ap m u a - ap m v a := by
  have h : ap m u a = ap m (fun j => u j - v j) a + ap m v a := by
    unfold ap
    rw [← sumT_add]
    exact sumT_congr fun j _ => by grind
  rw [h]; grind
theorem inj_eq {m : Nat → Nat → Fin p} (h : Inj m) {u v : Nat → Fin p} (e : ∀ a, a < 8 → ap m u a = ap m v a) : ∀ j, j < 8 → u j = v j := fun j hj => by
  have := h (fun j => u j - v j) (fun a ha => by rw [ap_sub, e a ha]; grind) j hj
  grind
/-- the unit matrix -/
def unitM (a b : Nat) : Fin p := if a = b then 1 else 0
theorem ap_unit (v : Nat → Fin p) {a : Nat} (ha : a < 8) : ap unitM v a = v a := by
  unfold ap
  rw [sumT_single ha (fun i _ hne => by unfold unitM; rw [if_neg (fun e => hne e.symm)]; grind)]
  unfold unitM; rw [if_pos rfl]; grind
theorem unit_inj : Inj (unitM (p := p)) := fun v h j hj => by rw [← ap_unit v hj]; exact h j hj

/-- what the matrix that is undone knows: m is what 'out' makes of M; 'out' makes 0 of 0 alone; the first i columns of m are done -/
structure Undo (M m out : Nat → Nat → Fin p) (i : Nat) : Prop where
  made : ∀ v a, a < 8 → ap m v a = ap out (ap M v) a
  inj : Inj out
  done : ∀ j, j < i → ∀ a, a < 8 → m a j = unitM a j
theorem Undo.start (M : Nat → Nat → Fin p) : Undo M M unitM 0 := ⟨fun v a ha => (ap_unit _ ha).symm, unit_inj, fun j hj => absurd hj (by omega)⟩
theorem Undo.mInj {M m out : Nat → Nat → Fin p} {i : Nat} (h : Undo M m out i) (hM : Inj M) : Inj m := fun v hv => hM v (h.inj _ fun a ha => by rw [← h.made v a ha]; exact hv a ha)
theorem sumT_two {n i k : Nat} {f : Nat → Fin p} (hi : i < n) (hk : k < n) (hne : i ≠ k) (h : ∀ j, j < n → j ≠ i → j ≠ k → f j = 0) : sumT n f = f i + f k := by
  have e : ∀ j, j < n → f j = (if j = i then f i else 0) + (if j = k then f k else 0) := fun j hj => by
    by_cases h1 : j = i
    · subst h1; rw [if_pos rfl, if_neg hne]; grind
    · by_cases h2 : j = k
      · subst h2; rw [if_neg h1, if_pos rfl]; grind
      · rw [if_neg h1, if_neg h2, h j hj h1 h2]; grind
  rw [sumT_congr e, sumT_add, sumT_single hi (fun j _ hj => if_neg hj), sumT_single hk (fun j _ hj => if_neg hj), if_pos rfl, if_pos rfl]
/-- what a matrix without a row to go on with would make 0 -/
def nullV (m : Nat → Nat → Fin p) (i b : Nat) : Fin p := if b = i then 1 else if b < i then 0 - m b i else 0
theorem nullV_at (m : Nat → Nat → Fin p) (i : Nat) : nullV m i i = 1 := if_pos rfl
theorem nullV_lt (m : Nat → Nat → Fin p) {i b : Nat} (h : b < i) : nullV m i b = 0 - m b i := by unfold nullV; rw [if_neg (by omega), if_pos h]
theorem nullV_gt (m : Nat → Nat → Fin p) {i b : Nat} (h : i < b) : nullV m i b = 0 := by unfold nullV; rw [if_neg (by omega), if_neg (by omega)]
/-- there is a row to go on with -/
theorem Undo.pivot (hp : IsPrime p) {M m out : Nat → Nat → Fin p} {i : Nat} (h : Undo M m out i) (hM : Inj M) (hi : i < 8) : ∃ k, i ≤ k ∧ k < 8 ∧ m k i ≠ 0 := by
  false_or_by_contra
  rename_i hn
  have hz : ∀ k, i ≤ k → k < 8 → m k i = 0 := fun k h1 h2 => by
    false_or_by_contra
    rename_i h'
    exact hn ⟨k, h1, h2, h'⟩
  have h0 := h.mInj hM (nullV m i) (fun a ha => by
    unfold ap
    by_cases hai : a < i
    · rw [sumT_two ha hi (by omega) (fun j hj h1 h2 => by
        by_cases h3 : j < i
        · rw [h.done j h3 a ha, unitM, if_neg (fun e => h1 e.symm)]; grind
        · rw [nullV_gt m (by omega)]; grind)]
      rw [nullV_lt m hai, nullV_at, h.done a hai a ha, unitM, if_pos rfl]; grind
    · rw [sumT_single hi (fun j hj h2 => by
        by_cases h3 : j < i
        · rw [h.done j h3 a ha, unitM, if_neg (show ¬ a = j by omega)]; grind
        · rw [nullV_gt m (by omega)]; grind)]
      rw [nullV_at, hz a (by omega) ha]; grind) i hi
  rw [nullV_at] at h0
  exact one_ne_zero hp h0
/-- two rows change places -/
def swapR (m : Nat → Nat → Fin p) (i k a b : Nat) : Fin p := if a = i then m k b else if a = k then m i b else m a b
def swp (i k a : Nat) : Nat := if a = i then k else if a = k then i else a
omit [NeZero p] in
theorem swapR_eq (m : Nat → Nat → Fin p) (i k a b : Nat) : swapR m i k a b = m (swp i k a) b := by
  unfold swapR swp
  split
  · rfl
  · split <;> rfl
theorem swp_lt {i k a : Nat} (hi : i < 8) (hk : k < 8) (ha : a < 8) : swp i k a < 8 := by unfold swp; split <;> (try split) <;> omega
theorem swp_swp {i k a : Nat} : swp i k (swp i k a) = a := by unfold swp; (repeat' split) <;> omega
theorem Undo.swap {M m out : Nat → Nat → Fin p} {i k : Nat} (h : Undo M m out i) (hi : i < 8) (hk : k < 8) (hik : i ≤ k) : Undo M (swapR m i k) (swapR out i k) i := by
  have e : ∀ (m : Nat → Nat → Fin p) v a, ap (swapR m i k) v a = ap m v (swp i k a) := fun m v a => ap_congr (fun j _ => swapR_eq m i k a j) (fun _ _ => rfl)
  refine ⟨fun v a ha => by rw [e, e]; exact h.made v _ (swp_lt hi hk ha), fun v hv => h.inj v fun a ha => ?_, fun j hj a ha => ?_⟩
  · have := hv (swp i k a) (swp_lt hi hk ha)
    rwa [e, swp_swp] at this
  · rw [swapR_eq, h.done j hj _ (swp_lt hi hk ha)]
    unfold unitM swp
    (repeat' split) <;> first | rfl | omega
/-- a row times an element -/
def sclR (m : Nat → Nat → Fin p) (i : Nat) (c : Fin p) (a b : Nat) : Fin p := if a = i then m a b * c else m a b
theorem ap_scl (m : Nat → Nat → Fin p) (i : Nat) (c : Fin p) (v : Nat → Fin p) (a : Nat) : ap (sclR m i c) v a = if a = i then ap m v a * c else ap m v a := by
  unfold ap sclR
  by_cases h : a = i
  · rw [if_pos h]
    have e : ∀ j, j < 8 → (if a = i then m a j * c else m a j) * v j = c * (m a j * v j) := fun j _ => by rw [if_pos h]; grind
    rw [sumT_congr e, sumT_smul]; grind
  · rw [if_neg h]
    exact sumT_congr fun j _ => by rw [if_neg h]
theorem Undo.scale (hp : IsPrime p) {M m out : Nat → Nat → Fin p} {i : Nat} {c : Fin p} (h : Undo M m out i) (hi : i < 8) (hc : c ≠ 0) : Undo M (sclR m i c) (sclR out i c) i := by
  refine ⟨fun v a ha => by rw [ap_scl, ap_scl, h.made v a ha], fun v hv => h.inj v fun a ha => ?_, fun j hj a ha => ?_⟩
  · have := hv a ha
    rw [ap_scl] at this
    by_cases h1 : a = i
    · rw [if_pos h1] at this
      exact (mul_eq_zero hp this).resolve_right hc
    · rwa [if_neg h1] at this
  · unfold sclR
    rw [h.done j hj a ha]
    by_cases h1 : a = i
    · rw [if_pos h1, unitM, if_neg (by omega)]; grind
    · rw [if_neg h1]
/-- each other row less a multiple of the row i: 'by' tells how often -/
def subR (m : Nat → Nat → Fin p) (w : Nat → Fin p) (i a b : Nat) : Fin p := if a = i then m a b else m a b - w a * m i b
theorem ap_subR (m : Nat → Nat → Fin p) (w : Nat → Fin p) (i : Nat) (v : Nat → Fin p) (a : Nat) : ap (subR m w i) v a = if a = i then ap m v a else ap m v a - w a * ap m v i := by
  by_cases h : a = i
  · rw [if_pos h]
    exact ap_congr (fun j _ => if_pos h) (fun _ _ => rfl)
  · rw [if_neg h]
    have e : ap m v a = ap (subR m w i) v a + w a * ap m v i := by
      unfold ap
      rw [← sumT_smul, ← sumT_add]
      exact sumT_congr fun j _ => by
        have : subR m w i a j = m a j - w a * m i j := if_neg h
        rw [this]; grind
    rw [e]; grind
theorem Undo.elim {M m out : Nat → Nat → Fin p} {i : Nat} (h : Undo M m out i) (hi : i < 8) (h1 : m i i = 1) : Undo M (subR m (fun a => m a i) i) (subR out (fun a => m a i) i) (i + 1) := by
  refine ⟨fun v a ha => by rw [ap_subR, ap_subR, h.made v a ha, h.made v i hi], fun v hv => h.inj v fun a ha => ?_, fun j hj a ha => ?_⟩
  · have e1 := hv i hi
    rw [ap_subR, if_pos rfl] at e1
    by_cases h2 : a = i
    · rw [h2]; exact e1
    · have e2 := hv a ha
      rw [ap_subR, if_neg h2, e1] at e2
      grind
  · unfold subR
    by_cases h2 : j = i
    · subst h2
      by_cases h3 : a = j
      · subst h3; rw [if_pos rfl, h1, unitM, if_pos rfl]
      · rw [if_neg h3, h1, unitM, if_neg h3]; grind
    · rw [h.done j (by omega) a ha, h.done j (by omega) i hi]
      by_cases h3 : a = i
      · rw [if_pos h3]
      · rw [if_neg h3, unitM, unitM, if_neg (show ¬ i = j by omega)]; grind
/-- both ways -/
theorem Undo.back {M m out : Nat → Nat → Fin p} (h : Undo M m out 8) (v : Nat → Fin p) {a : Nat} (ha : a < 8) : ap out (ap M v) a = v a := by
  rw [← h.made v a ha, ← ap_unit v ha]
  exact ap_congr (fun j hj => h.done j hj a ha) (fun _ _ => rfl)
theorem Undo.forth {M m out : Nat → Nat → Fin p} (h : Undo M m out 8) (v : Nat → Fin p) {a : Nat} (ha : a < 8) : ap M (ap out v) a = v a :=
  inj_eq h.inj (u := ap M (ap out v)) (v := v) (fun b hb => h.back (ap out v) hb) a ha
end cy
end Zp

/- Plain facts on the greatest common divisor and on what makes 1 of a number modulo another. No program is in sight. -/
set_option linter.unusedVariables false
namespace Zp

theorem gcd_step (a b : Nat) : Nat.gcd b (a % b) = Nat.gcd a b := by rw [Nat.gcd_comm b, ← Nat.gcd_rec, Nat.gcd_comm]
/-- a number with its sign -/
def sgnd (s : Bool) (n : Nat) : Int := if s then (n : Int) else -(n : Int)
theorem sgnd_not (s : Bool) (n : Nat) : sgnd (!s) n = - sgnd s n := by cases s <;> simp [sgnd]
/-- what the program's loop knows: x = sgnd g X, y = - sgnd g Y -/
structure Euc (a n : Nat) (g : Bool) (X Y r s : Nat) : Prop where
  rpos : 0 < r
  sum : X * s + Y * r = n
  xr : ∃ t : Int, sgnd g X * a = r + t * n
  ys : ∃ t : Int, (- sgnd g Y) * a = s + t * n
  gcd : Nat.gcd r s = Nat.gcd a n
  rle : r ≤ a + n
  sle : s ≤ a + n
  Xle : X ≤ n + 1
theorem Euc.start (a n : Nat) (ha : 0 < a) : Euc a n true 1 0 a n :=
  ⟨ha, by omega, ⟨0, by simp [sgnd]⟩, ⟨-1, by simp [sgnd]; omega⟩, rfl, by omega, by omega, by omega⟩
theorem Euc.step {a n : Nat} {g : Bool} {X Y r s : Nat} (h : Euc a n g X Y r s) (hs : 0 < s) : Euc a n (!g) Y (X + r / s * Y) s (r % s) := by
  have hdm := Nat.div_add_mod r s
  have hY : Y ≤ n := by
    have h1 := h.sum
    have h2 : Y * 1 ≤ Y * r := Nat.mul_le_mul_left Y h.rpos
    omega
  refine ⟨hs, ?_, ?_, ?_, ?_, h.sle, by have := Nat.mod_lt r hs; have := h.sle; omega, by omega⟩
  · have h1 := h.sum
    generalize r / s = q at *
    generalize r % s = m at *
    subst hdm
    rw [Nat.add_mul, Nat.mul_add] at *
    have e : q * Y * s = Y * (s * q) := by rw [Nat.mul_comm q Y, Nat.mul_assoc, Nat.mul_comm q s]
    omega
  · obtain ⟨t, ht⟩ := h.ys
    exact ⟨t, by rw [sgnd_not]; exact ht⟩
  · obtain ⟨t, ht⟩ := h.xr
    obtain ⟨u, hu⟩ := h.ys
    refine ⟨t - (r / s : Nat) * u, ?_⟩
    have e1 : (- sgnd (!g) (X + r / s * Y) : Int) = sgnd g X - ((r / s : Nat) : Int) * (- sgnd g Y) := by
      rw [sgnd_not, Int.neg_neg]
      unfold sgnd
      cases g
      · simp only [Bool.false_eq_true, if_false]
        rw [Int.natCast_add, Int.natCast_mul, Int.neg_neg, Int.neg_add]
        omega
      · simp only [if_true]
        rw [Int.natCast_add, Int.natCast_mul, Int.mul_neg]
        omega
    have e2 : ((r % s : Nat) : Int) = (r : Int) - ((r / s : Nat) : Int) * s := by
      have h := congrArg (fun n : Nat => (n : Int)) hdm
      simp only [Int.natCast_add, Int.natCast_mul] at h
      rw [Int.mul_comm (s : Int)] at h
      omega
    rw [e1, Int.sub_mul, Int.mul_assoc, ht, hu, e2, Int.mul_add, Int.sub_mul, Int.mul_assoc]
    omega
  · rw [gcd_step]; exact h.gcd
theorem Euc.bounds {a n : Nat} {g : Bool} {X Y r s : Nat} (h : Euc a n g X Y r s) : Y ≤ n ∧ (0 < s → X + r / s * Y ≤ n) := by
  have h2 : Y * 1 ≤ Y * r := Nat.mul_le_mul_left Y h.rpos
  have h1 := h.sum
  refine ⟨by omega, fun hs => ?_⟩
  have h3 := (h.step hs).sum
  have h4 : (X + r / s * Y) * 1 ≤ (X + r / s * Y) * s := Nat.mul_le_mul_left _ hs
  omega
/-- what is left at the end makes 1 -/
theorem Euc.done {a n : Nat} {g : Bool} {X Y r : Nat} (h : Euc a n g X Y r 0) (hg : Nat.gcd a n = 1) (hn : 0 < n) : 0 ≤ (sgnd g X) % (n : Int) ∧ (sgnd g X) % (n : Int) < n ∧ ∃ t : Int, ((sgnd g X) % (n : Int)) * a = 1 + t * n := by
  have hr : r = 1 := by have := h.gcd; rw [Nat.gcd_zero_right] at this; omega
  obtain ⟨t, ht⟩ := h.xr
  refine ⟨Int.emod_nonneg _ (by omega), Int.emod_lt_of_pos _ (by omega), t - (sgnd g X) / (n : Int) * a, ?_⟩
  have e := Int.emod_def (sgnd g X) (n : Int)
  rw [e, Int.sub_mul, ht, hr, Int.sub_mul]
  have e2 : (n : Int) * (sgnd g X / n) * a = sgnd g X / n * a * n := by
    rw [Int.mul_comm (n : Int), Int.mul_assoc, Int.mul_comm (n : Int), ← Int.mul_assoc]
  rw [e2]
  omega
/-- what undoes a power -/
theorem pw_root {p : Nat} [NeZero p] (hp : IsPrime p) {k m : Nat} (h2 : 3 ≤ p) (h : ∃ t : Int, (m : Int) * k = 1 + t * ((p - 1 : Nat) : Int)) (z : Fin p) : pw (pw z k) m = z := by
  obtain ⟨t, ht⟩ := h
  have ht0 : 0 ≤ t := by
    false_or_by_contra
    have h1 : 0 ≤ (m : Int) * k := Int.mul_nonneg (by omega) (by omega)
    have h3 : t * ((p - 1 : Nat) : Int) ≤ (-1) * ((p - 1 : Nat) : Int) := Int.mul_le_mul_of_nonneg_right (by omega) (by omega)
    omega
  obtain ⟨u, rfl⟩ := Int.eq_ofNat_of_zero_le ht0
  have e : k * m = 1 + u * (p - 1) := by
    have : ((k * m : Nat) : Int) = ((1 + u * (p - 1) : Nat) : Int) := by
      rw [Int.natCast_mul, Int.natCast_add, Int.natCast_mul, Int.mul_comm]
      exact ht
    exact Int.ofNat.inj this
  rw [← pw_mul, e]
  by_cases hz : z = 0
  · rw [hz, zero_pw _ (by omega)]
  · rw [pw_add, pw_one, Nat.mul_comm, pw_mul, fermat hp hz, one_pw]; grind
end Zp
