/- Plain facts on polynomials as lists of elements, the lowest place first: without zeros at the end; degree; what they are at an element. No program is in sight. -/
import Derived.Test.YtiohededmcfhjaaDoorEl
set_option linter.unusedVariables false
namespace Zp
section pl
variable {p : Nat} [NeZero p]

/-- a list of numbers as elements; elements as numbers -/
abbrev els (p : Nat) [NeZero p] (xs : List Int) : List (Fin p) := xs.map (el p)
abbrev fvs (l : List (Fin p)) : List Int := l.map fv
theorem els_fvs (l : List (Fin p)) : els p (fvs l) = l := map_el_fv l

/-- without zeros at the end -/
def trimL : List (Fin p) → List (Fin p)
  | [] => []
  | c :: cs => match trimL cs with
    | [] => if c = 0 then [] else [c]
    | d :: ds => c :: d :: ds

/-- the place from which on all is 0 -/
structure TrimAt (l : List (Fin p)) (n : Nat) : Prop where
  le : n ≤ l.length
  zero : ∀ i x, n ≤ i → l[i]? = some x → x = 0
  last : n = 0 ∨ ∃ x, l[n - 1]? = some x ∧ x ≠ 0

theorem TrimAt.unique {l : List (Fin p)} {m n : Nat} (h : TrimAt l m) (k : TrimAt l n) : m = n := by
  rcases Nat.lt_trichotomy m n with hlt | he | hlt
  · rcases k.last with h0 | ⟨x, hx, hx0⟩
    · omega
    · exact absurd (h.zero _ x (by omega) hx) hx0
  · exact he
  · rcases h.last with h0 | ⟨x, hx, hx0⟩
    · omega
    · exact absurd (k.zero _ x (by omega) hx) hx0

theorem trimL_cons (c : Fin p) (cs : List (Fin p)) : trimL (c :: cs) = if trimL cs = [] then (if c = 0 then [] else [c]) else c :: trimL cs := by
  show (match trimL cs with | [] => if c = 0 then [] else [c] | d :: ds => c :: d :: ds) = _
  cases h : trimL cs with
  | nil => simp
  | cons d ds => simp

theorem trimL_take (l : List (Fin p)) : trimL l = l.take (trimL l).length ∧ TrimAt l (trimL l).length := by
  induction l with
  | nil => exact ⟨rfl, by simp [trimL], by simp, .inl rfl⟩
  | cons c cs ih =>
    obtain ⟨h1, h2⟩ := ih
    rw [trimL_cons]
    by_cases h : trimL cs = []
    · rw [if_pos h]
      rw [h] at h2
      have hz : ∀ (i : Nat) (x : Fin p), cs[i]? = some x → x = 0 := fun i x hx => h2.zero i x (Nat.zero_le _) hx
      by_cases hc : c = 0
      · rw [if_pos hc]
        refine ⟨rfl, by simp, fun i x _ hx => ?_, .inl rfl⟩
        cases i with
        | zero => simp at hx; rw [← hx]; exact hc
        | succ i => exact hz i x (by simpa using hx)
      · rw [if_neg hc]
        refine ⟨by simp, by simp, fun i x hi hx => ?_, .inr ⟨c, by simp, hc⟩⟩
        cases i with
        | zero => simp at hi
        | succ i => exact hz i x (by simpa using hx)
    · rw [if_neg h]
      refine ⟨by rw [List.length_cons, List.take_succ_cons, ← h1], by have := h2.le; simp; omega, fun i x hi hx => ?_, .inr ?_⟩
      · cases i with
        | zero => simp at hi
        | succ i => exact h2.zero i x (by simpa using hi) (by simpa using hx)
      · rcases h2.last with h0 | ⟨x, hx, hx0⟩
        · exact absurd (List.length_eq_zero_iff.1 h0) h
        · refine ⟨x, ?_, hx0⟩
          have : (trimL cs).length ≠ 0 := fun h0 => h (List.length_eq_zero_iff.1 h0)
          rw [List.length_cons, Nat.add_sub_cancel, List.getElem?_cons, if_neg this]
          exact hx
theorem trimL_at (l : List (Fin p)) : TrimAt l (trimL l).length := (trimL_take l).2
theorem trimL_eq_take (l : List (Fin p)) : trimL l = l.take (trimL l).length := (trimL_take l).1
theorem TrimAt.length {l : List (Fin p)} {n : Nat} (h : TrimAt l n) : (trimL l).length = n := (trimL_at l).unique h
theorem TrimAt.trim {l : List (Fin p)} {n : Nat} (h : TrimAt l n) : trimL l = l.take n := by rw [trimL_eq_take, h.length]
theorem trimL_length_le (l : List (Fin p)) : (trimL l).length ≤ l.length := (trimL_at l).le
theorem trimL_getLast {l : List (Fin p)} (h : trimL l ≠ []) : (trimL l).getLast h ≠ 0 := by
  rcases (trimL_at l).last with h0 | ⟨x, hx, hx0⟩
  · exact absurd (List.length_eq_zero_iff.1 h0) h
  · have hn : (trimL l).length ≠ 0 := fun h0 => h (List.length_eq_zero_iff.1 h0)
    rw [List.getLast_eq_getElem]
    have : (trimL l)[(trimL l).length - 1]? = some x := by
      rw [trimL_eq_take l, List.getElem?_take]
      rw [List.length_take, Nat.min_eq_left (trimL_length_le l), if_pos (by omega)]
      exact hx
    rw [List.getElem?_eq_getElem (by omega)] at this
    injection this with this
    rw [this]; exact hx0

/-- the last place that is not 0; -1: there is none -/
def degL (l : List (Fin p)) : Int := ((trimL l).length : Int) - 1

/-- what stands at a place -/
def co (l : List (Fin p)) (i : Nat) : Fin p := l[i]?.getD 0
theorem co_nil (i : Nat) : co ([] : List (Fin p)) i = 0 := by simp [co]
theorem co_cons_zero (c : Fin p) (cs : List (Fin p)) : co (c :: cs) 0 = c := by simp [co]
theorem co_cons_succ (c : Fin p) (cs : List (Fin p)) (i : Nat) : co (c :: cs) (i + 1) = co cs i := by simp [co]
theorem co_of_ge {l : List (Fin p)} {i : Nat} (h : l.length ≤ i) : co l i = 0 := by simp [co, List.getElem?_eq_none h]
theorem co_of_lt {l : List (Fin p)} {i : Nat} (h : i < l.length) : co l i = l[i] := by simp [co, List.getElem?_eq_getElem h]
theorem co_trim (l : List (Fin p)) (i : Nat) : co (trimL l) i = co l i := by
  rw [trimL_eq_take l]
  unfold co
  rw [List.getElem?_take]
  by_cases h : i < (trimL l).length
  · rw [if_pos h]
  · rw [if_neg h]
    cases hx : l[i]? with
    | none => rfl
    | some x => rw [(trimL_at l).zero i x (by omega) hx]; rfl
theorem trimAt_iff_co {l : List (Fin p)} {n : Nat} : TrimAt l n ↔ (∀ i, n ≤ i → co l i = 0) ∧ (n = 0 ∨ co l (n - 1) ≠ 0) := by
  constructor
  · intro h
    refine ⟨fun i hi => ?_, h.last.imp id ?_⟩
    · unfold co
      cases hx : l[i]? with
      | none => rfl
      | some x => exact h.zero i x hi hx
    · rintro ⟨x, hx, h0⟩
      unfold co
      rw [hx]; exact h0
  · rintro ⟨h1, h2⟩
    have hx : ∀ i x, n ≤ i → l[i]? = some x → x = 0 := fun i x hi hx => by
      have := h1 i hi
      unfold co at this
      rw [hx] at this
      exact this
    rcases h2 with h2 | h2
    · exact ⟨by omega, hx, .inl h2⟩
    · have hlt : n - 1 < l.length := by
        rcases Nat.lt_or_ge (n - 1) l.length with h | h
        · exact h
        · exact absurd (co_of_ge h) h2
      rcases Nat.eq_zero_or_pos n with h0 | h0
      · exact ⟨by omega, hx, .inl h0⟩
      · exact ⟨by omega, hx, .inr ⟨l[n - 1], List.getElem?_eq_getElem hlt, by rw [← co_of_lt hlt]; exact h2⟩⟩
/-- the same places: the same without zeros at the end -/
theorem trimL_congr {l m : List (Fin p)} (h : ∀ i, co l i = co m i) : trimL l = trimL m := by
  have hn : (trimL l).length = (trimL m).length := by
    refine TrimAt.length ?_
    have := trimAt_iff_co.1 (trimL_at m)
    exact trimAt_iff_co.2 ⟨fun i hi => by rw [h]; exact this.1 i hi, this.2.imp id (fun h' => by rw [h]; exact h')⟩
  apply List.ext_getElem hn
  intro i h1 h2
  rw [← co_of_lt h1, ← co_of_lt h2, co_trim, co_trim, h]
theorem co_congr {l m : List (Fin p)} (h : trimL l = trimL m) (i : Nat) : co l i = co m i := by rw [← co_trim l, h, co_trim]
theorem trimL_trim (l : List (Fin p)) : trimL (trimL l) = trimL l := trimL_congr (co_trim l)

/-- places alone say what a polynomial is at an element -/
theorem ev_all_zero {l : List (Fin p)} (h : ∀ i, co l i = 0) (x : Fin p) : ev l x = 0 := by
  induction l with
  | nil => rfl
  | cons c cs ih =>
    have h0 := h 0
    rw [co_cons_zero] at h0
    rw [ev, ih (fun i => by rw [← co_cons_succ c]; exact h (i + 1)), h0]
    grind
theorem ev_congr : ∀ {l m : List (Fin p)}, (∀ i, co l i = co m i) → ∀ x, ev l x = ev m x
  | [], m, h, x => by rw [ev_all_zero (l := m) (fun i => by rw [← h i, co_nil])]; rfl
  | c :: cs, [], h, x => by rw [ev_all_zero (l := c :: cs) (fun i => by rw [h i, co_nil])]; rfl
  | c :: cs, d :: ds, h, x => by
    have h0 := h 0
    rw [co_cons_zero, co_cons_zero] at h0
    rw [ev, ev, ev_congr (l := cs) (m := ds) (fun i => by rw [← co_cons_succ c, ← co_cons_succ d]; exact h (i + 1)), h0]
theorem ev_trim (l : List (Fin p)) (x : Fin p) : ev (trimL l) x = ev l x := ev_congr (co_trim l) x

/-- a polynomial that is not 0 is 0 at no more elements than its degree -/
theorem roots_lt (hp : IsPrime p) {l : List (Fin p)} (hl : 0 < (trimL l).length) {xs : List (Fin p)} (hx : xs.Nodup) (hr : ∀ x ∈ xs, ev l x = 0) : xs.length < (trimL l).length := by
  have hne : trimL l ≠ [] := fun h => by rw [h] at hl; simp at hl
  have := roots_le hp (trimL l).length (trimL l) rfl hne (trimL_getLast hne) xs hx (fun x h => by rw [ev_trim]; exact hr x h)
  omega
/-- .. so one that is 0 at more elements than it has places is 0 -/
theorem zero_of_roots (hp : IsPrime p) {l : List (Fin p)} {xs : List (Fin p)} (hx : xs.Nodup) (hr : ∀ x ∈ xs, ev l x = 0) (hl : l.length ≤ xs.length) : trimL l = [] := by
  rcases Nat.eq_zero_or_pos (trimL l).length with h | h
  · exact List.length_eq_zero_iff.1 h
  · have := roots_lt hp h hx hr
    have := trimL_length_le l
    omega

/-- unlike elements; a Bool behind a name -/
def ndB (l : List (Fin p)) : Bool := decide l.Nodup
omit [NeZero p] in
theorem ndB_true {l : List (Fin p)} (h : l.Nodup) : ndB l = true := decide_eq_true h
omit [NeZero p] in
theorem ndB_false {l : List (Fin p)} (h : ¬ l.Nodup) : ndB l = false := decide_eq_false h
omit [NeZero p] in
theorem nodup_of_lt {l : List (Fin p)} (h : ∀ i k (hi : i < l.length) (hk : k < i), l[i] ≠ l[k]) : l.Nodup := by
  rw [List.nodup_iff_pairwise_ne, List.pairwise_iff_getElem]
  intro i j hi hj hij e
  exact h j i hj hij e.symm
omit [NeZero p] in
theorem not_nodup {l : List (Fin p)} {i k : Nat} (hi : i < l.length) (hk : k < i) (h : l[i] = l[k]) : ¬ l.Nodup := by
  rw [List.nodup_iff_pairwise_ne, List.pairwise_iff_getElem]
  exact fun hn => hn k i (by omega) hi hk h.symm
end pl
end Zp
