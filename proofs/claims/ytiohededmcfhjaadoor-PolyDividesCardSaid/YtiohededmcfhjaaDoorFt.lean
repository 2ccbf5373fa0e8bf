/- Plain facts on the polynomial that is 0 at points and on the one through points. No program is in sight. -/
import Derived.Test.YtiohededmcfhjaaDoorDs
set_option linter.unusedVariables false
namespace Zp
section ft
variable {p : Nat} [NeZero p]

/-- one factor more -/
def vanS (o : List (Fin p)) (x : Fin p) : List (Fin p) := trimL (mulL o [0 - x, 1])
/-- the product of x - each -/
def vanL (l : List (Fin p)) : List (Fin p) := l.foldl vanS [1]
theorem vanL_snoc (l : List (Fin p)) (x : Fin p) : vanL (l ++ [x]) = vanS (vanL l) x := by simp [vanL]
theorem ev_vanS (o : List (Fin p)) (x y : Fin p) : ev (vanS o x) y = ev o y * (y - x) := by
  rw [vanS, ev_trim, ev_mulL]; simp only [ev]; grind
theorem ev_foldV (y : Fin p) : ∀ (l o : List (Fin p)), ev (l.foldl vanS o) y = ev o y * prodL (l.map (fun x => y - x))
  | [], o => by simp only [List.foldl_nil, List.map_nil, prodL]; grind
  | x :: l, o => by
    rw [List.foldl_cons, ev_foldV y l, ev_vanS, List.map_cons, prodL]; grind
theorem ev_vanL (l : List (Fin p)) (y : Fin p) : ev (vanL l) y = prodL (l.map (fun x => y - x)) := by
  rw [vanL, ev_foldV]; simp only [ev]; grind
theorem vanS_length (o : List (Fin p)) (x : Fin p) : (vanS o x).length ≤ o.length + 1 :=
  trimL_length_of fun i hi => co_mulL_ge _ o i (by simp; omega)
theorem foldV_length : ∀ (l o : List (Fin p)), (l.foldl vanS o).length ≤ o.length + l.length
  | [], o => by simp
  | x :: l, o => by
    have h1 := foldV_length l (vanS o x)
    have h2 := vanS_length o x
    rw [List.foldl_cons, List.length_cons]; omega
theorem vanL_length (l : List (Fin p)) : (vanL l).length ≤ l.length + 1 := by
  have := foldV_length l [1]
  simp only [List.length_cons, List.length_nil] at this
  unfold vanL; omega
theorem vanL_ne (hp : IsPrime p) {l : List (Fin p)} {y : Fin p} (h : y ∉ l) : ev (vanL l) y ≠ 0 := by
  rw [ev_vanL]
  refine prodL_ne hp _ fun z hz => ?_
  obtain ⟨x, hx, rfl⟩ := List.mem_map.1 hz
  intro he
  have : y = x := by grind
  exact h (this ▸ hx)
theorem prodL_zero : ∀ {l : List (Fin p)}, 0 ∈ l → prodL l = 0
  | x :: l, h => by
    rw [prodL]
    rcases List.mem_cons.1 h with h | h
    · rw [← h]; grind
    · rw [prodL_zero h]; grind
theorem vanL_zero {l : List (Fin p)} {y : Fin p} (h : y ∈ l) : ev (vanL l) y = 0 := by
  rw [ev_vanL]
  exact prodL_zero (List.mem_map.2 ⟨y, h, by grind⟩)

/-- all but a place -/
def butI {α : Type} (l : List α) (k : Int) : List α := if 0 ≤ k then l.eraseIdx k.toNat else l
theorem butI_nil {α : Type} (k : Int) : butI ([] : List α) k = [] := by unfold butI; split <;> simp
theorem butI_hit {α : Type} (l : List α) (j : Nat) (hj : j < l.length) (k : Int) (hk : (j : Int) = k) : butI (l.take (j + 1)) k = butI (l.take j) k := by
  subst hk
  unfold butI
  rw [if_pos (by omega), if_pos (by omega), Int.toNat_natCast, List.eraseIdx_of_length_le (l := l.take j) (by simp; omega), List.take_succ_eq_append_getElem hj]
  rw [List.eraseIdx_append_of_length_le (by simp; omega)]
  simp [show min j l.length = j by omega]
theorem butI_miss {α : Type} (l : List α) (j : Nat) (hj : j < l.length) (k : Int) (hk : ¬ (j : Int) = k) : butI (l.take (j + 1)) k = butI (l.take j) k ++ [l[j]] := by
  unfold butI
  rw [List.take_succ_eq_append_getElem hj]
  split
  · by_cases hlt : k.toNat < j
    · rw [List.eraseIdx_append_of_lt_length (by simp; omega)]
    · rw [List.eraseIdx_of_length_le (by simp; omega), List.eraseIdx_of_length_le (by simp; omega)]
  · rfl
theorem map_eraseIdx' {α β : Type} (f : α → β) : ∀ (l : List α) (k : Nat), (l.eraseIdx k).map f = (l.map f).eraseIdx k
  | [], _ => by simp
  | x :: l, 0 => by simp
  | x :: l, k + 1 => by simp [map_eraseIdx' f l k]
theorem butI_map {α β : Type} (f : α → β) (l : List α) (k : Int) : (butI l k).map f = butI (l.map f) k := by
  unfold butI
  split
  · rw [map_eraseIdx']
  · rfl
theorem butI_length {α : Type} (l : List α) (j : Nat) (hj : j < l.length) : (butI l (j : Int)).length + 1 = l.length := by
  unfold butI
  rw [if_pos (by omega), Int.toNat_natCast, List.length_eraseIdx_of_lt hj]; omega

/-- times an element, and times x^k -/
def sclL (a : List (Fin p)) (c : Fin p) (k : Nat) : List (Fin p) := trimL (List.replicate k 0 ++ a.map (· * c))
theorem ev_sclL (a : List (Fin p)) (c : Fin p) (k : Nat) (y : Fin p) : ev (sclL a c k) y = pw y k * (c * ev a y) := by
  rw [sclL, ev_trim, ev_replicate]
  have : a.map (· * c) = smulL c a := by unfold smulL; exact List.map_congr_left (fun x _ => by grind)
  rw [this, ev_smulL]
theorem co_sclL (a : List (Fin p)) (c : Fin p) (k i : Nat) : co (sclL a c k) i = if i < k then 0 else co a (i - k) * c := by
  rw [sclL, co_trim]
  unfold co
  rw [List.getElem?_append]
  by_cases h : i < k
  · simp [h]
  · simp only [List.length_replicate, h, if_false, List.getElem?_map]
    cases a[i - k]? with
    | none => simp; grind
    | some x => rfl
theorem sclL_length (a : List (Fin p)) (c : Fin p) (k : Nat) : (sclL a c k).length ≤ a.length + k := by
  have := trimL_length_le (List.replicate k 0 ++ a.map (· * c))
  simp only [List.length_append, List.length_replicate, List.length_map] at this
  unfold sclL; omega

/-- the first k points are met; at the others it is 0 -/
structure Fitted (xs ys : List (Fin p)) (k : Nat) (o : List (Fin p)) : Prop where
  trim : trimL o = o
  len : o.length ≤ xs.length
  at_ : ∀ j, j < xs.length → ev o (co xs j) = if j < k then co ys j else 0
theorem Fitted.start (xs ys : List (Fin p)) : Fitted xs ys 0 [] := ⟨rfl, by simp, fun j _ => rfl⟩
theorem nodup_co {xs : List (Fin p)} (h : xs.Nodup) {i j : Nat} (hi : i < xs.length) (hj : j < xs.length) (he : co xs i = co xs j) : i = j := by
  rw [co_of_lt hi, co_of_lt hj] at he
  rcases Nat.lt_trichotomy i j with hl | hl | hl
  · exact absurd h (not_nodup hj hl he.symm)
  · exact hl
  · exact absurd h (not_nodup hi hl he)
theorem mem_but {xs : List (Fin p)} (k j : Nat) (hj : j < xs.length) (hne : j ≠ k) : co xs j ∈ butI xs (k : Int) := by
  unfold butI
  rw [if_pos (by omega), Int.toNat_natCast, co_of_lt hj, List.mem_eraseIdx_iff_getElem]
  exact ⟨j, hj, hne, rfl⟩
theorem not_mem_but {xs : List (Fin p)} (h : xs.Nodup) (k : Nat) (hk : k < xs.length) : co xs k ∉ butI xs (k : Int) := by
  unfold butI
  rw [if_pos (by omega), Int.toNat_natCast, List.mem_eraseIdx_iff_getElem]
  rintro ⟨j, hj, hne, he⟩
  exact hne (nodup_co h hj hk (by rw [co_of_lt hj]; exact he))
theorem Fitted.step (hp : IsPrime p) {xs ys : List (Fin p)} (hx : xs.Nodup) {k : Nat} {o : List (Fin p)} (h : Fitted xs ys k o) (hk : k < xs.length) :
    Fitted xs ys (k + 1) (trimL (addL o (sclL (vanL (butI xs (k : Int))) (co ys k * Zp.inv (ev (vanL (butI xs (k : Int))) (co xs k))) 0))) := by
  have hb := butI_length xs k hk
  have hv := vanL_length (butI xs (k : Int))
  have hs := sclL_length (vanL (butI xs (k : Int))) (co ys k * Zp.inv (ev (vanL (butI xs (k : Int))) (co xs k))) 0
  refine ⟨trimL_trim _, ?_, fun j hj => ?_⟩
  · refine Nat.le_trans (trimL_length_le _) ?_
    rw [addL, tab_length]
    have := h.len
    omega
  · rw [ev_trim, ev_addL, ev_sclL, h.at_ j hj, pw_zero]
    by_cases hjk : j = k
    · subst hjk
      have hne := vanL_ne hp (not_mem_but hx j hj)
      have hi := mul_inv hp hne
      rw [if_neg (by omega), if_pos (by omega)]
      generalize ev (vanL (butI xs (j : Int))) (co xs j) = E at hi
      generalize Zp.inv E = I at hi
      have : 0 + 1 * (co ys j * I * E) = co ys j * (E * I) := by grind
      rw [this, hi]; grind
    · rw [vanL_zero (mem_but k j hj hjk)]
      by_cases hlt : j < k
      · rw [if_pos hlt, if_pos (by omega)]; grind
      · rw [if_neg hlt, if_neg (by omega)]; grind
/-- two that meet the same points are one -/
theorem Fitted.unique (hp : IsPrime p) {xs ys a b : List (Fin p)} (hx : xs.Nodup) (ha : Fitted xs ys xs.length a) (hb : Fitted xs ys xs.length b) : a = b := by
  have hz : trimL (subL a b) = [] := by
    refine zero_of_roots hp hx (fun x hxm => ?_) (by rw [subL, tab_length]; have := ha.len; have := hb.len; omega)
    obtain ⟨j, hj, rfl⟩ := List.getElem_of_mem hxm
    rw [← co_of_lt hj, ev_subL, ha.at_ j hj, hb.at_ j hj]; grind
  have hc : ∀ i, co a i = co b i := fun i => by
    have h := co_trim (subL a b) i
    rw [hz, co_nil, co_subL] at h
    grind
  rw [← ha.trim, ← hb.trim]
  exact trimL_congr hc
end ft
end Zp
