/- What Hash makes: the state when some pieces are in it; the digest. -/
import Derived.Test.YtabhndfdioimcaaPe
import Derived.Test.YtabhndfdioimcaaPd
set_option linter.unusedVariables false
namespace Go.Proofs.Ytabhndfdioimcaa
open Go.RowKit Zp

section
variable {p : Nat}
/-- a piece of four comes into a state -/
def absT (v m : Nat → Fin p) (t j : Nat) : Fin p := if j < 4 then v j + m (4 * t + j) else v j
/-- i places of a piece are in it -/
def absI (v m : Nat → Fin p) (t i j : Nat) : Int := if j < i then fv (v j + m (4 * t + j)) else fv (v j)
theorem absI_zero (v m : Nat → Fin p) (t : Nat) : absI v m t 0 = fun j => fv (v j) := by funext j; simp [absI]
theorem absI_at (v m : Nat → Fin p) (t i : Nat) : absI v m t i i = fv (v i) := by simp [absI]
theorem absI_step (v m : Nat → Fin p) (t i : Nat) : upd (absI v m t i) i (fv (v i + m (4 * t + i))) = absI v m t (i + 1) := by
  funext j
  unfold upd absI
  by_cases h : j = i
  · subst h; rw [if_pos rfl, if_pos (by omega)]
  · rw [if_neg h]
    by_cases h1 : j < i
    · rw [if_pos h1, if_pos (by omega)]
    · rw [if_neg h1, if_neg (by omega)]
theorem absI_four (v m : Nat → Fin p) (t j : Nat) : absI v m t 4 j = fv (absT v m t j) := by
  unfold absI absT
  split <;> rfl
theorem i64_absI (hm : p ≤ 2147483647) (v m : Nat → Fin p) (t i j : Nat) : I64 (absI v m t i j) := by
  unfold absI
  split <;> exact i64_fv _ hm
end
section
variable {p : Nat} [NeZero p]
theorem permT_congr (k : Nat) {u v : Nat → Fin p} (h : ∀ j, j < 8 → u j = v j) : ∀ r j, j < 8 → permT k u r j = permT k v r j := by
  intro r
  induction r with
  | zero => exact h
  | succ r ih =>
    intro j hj
    show ap (cauchy p) _ j = ap (cauchy p) _ j
    exact ap_congr (fun _ _ => rfl) fun i hi => by rw [ih i hi]
/-- the state when t pieces are in it -/
def hashT (k : Nat) (m : Nat → Fin p) : Nat → Nat → Fin p
  | 0 => fun _ => 0
  | t + 1 => permT k (absT (hashT k m t) m t) 8
theorem absI_done (v m : Nat → Fin p) (t j : Nat) : el p (absI v m t 4 j) = absT v m t j := by
  unfold absI absT
  split <;> rw [el_fv]
/-- the padded list as elements -/
def padE (p : Nat) [NeZero p] (l : List Int) (j : Nat) : Fin p := el p ((padL (fvs (els p l))).getD j 0)
theorem padE_at (h2 : 2 ≤ p) (l : List Int) {j : Nat} (hj : j < (padL (fvs (els p l))).length) : (padL (fvs (els p l)))[j] = fv (padE p l j) := by
  have hx : ∀ x ∈ padL (fvs (els p l)), 0 ≤ x ∧ x < (p : Int) := by
    intro x hx
    unfold padL at hx
    rw [List.mem_append, List.mem_append] at hx
    rcases hx with (hx | hx) | hx
    · obtain ⟨y, _, rfl⟩ := List.mem_map.1 hx
      exact ⟨fv_nonneg y, fv_lt y⟩
    · simp at hx; subst hx; constructor <;> omega
    · have := List.eq_of_mem_replicate hx; subst this; constructor <;> omega
  obtain ⟨h0, h1⟩ := hx _ (List.getElem_mem hj)
  unfold padE
  rw [List.getD, List.getElem?_eq_getElem hj, Option.getD_some, fv_el, Int.emod_eq_of_lt h0 h1]
/-- how many pieces -/
def padC (n : Nat) : Nat := (n + 1 + padN n) / 4
theorem padC_len (l : List Int) : (padL l).length = 4 * padC l.length := by
  unfold padL padC padN
  simp only [List.length_append, List.length_cons, List.length_nil, List.length_replicate]
  omega
/-- the digest -/
def digE (p k : Nat) [NeZero p] (l : List Int) : Nat → Fin p := hashT k (padE p l) (padC l.length)
def digL (p k : Nat) [NeZero p] (l : List Int) : List Int := (List.range 4).map fun j => fv (digE p k l j)
theorem digL_len (k : Nat) (l : List Int) : (digL p k l).length = 4 := by simp [digL]
end
theorem SL.pre {w : World} {A : Option Addr} {xs : List Int} (h : SL w A xs) (k : Nat) : SL w A (xs.take k) := by
  refine ⟨by simp, fun hn => ?_⟩
  have hl : 0 < xs.length := by rw [List.length_take] at hn; omega
  obtain ⟨ad, e, hb, hc⟩ := h.2 hl
  refine ⟨ad, e, hb, fun j u hu => hc j u ?_⟩
  rw [List.map_take, List.getElem?_take] at hu
  split at hu
  · exact hu
  · cases hu
theorem SL.far {w w' : World} {ad : Addr} {xs : List Int} {g : Nat} (h : SL w (some ad) xs) (hg : w.grownBy w' (some g)) (hne : ad.block ≠ g) : SL w' (some ad) xs := by
  refine ⟨h.1, fun hn => ?_⟩
  obtain ⟨ad', e, hb, hc⟩ := h.2 hn
  injection e with e
  subst e
  refine ⟨ad, rfl, Nat.lt_of_lt_of_le hb hg.size, fun j u hu => ?_⟩
  refine (World.cell?_of_block (hg.block _ (by rw [block_of_add]; exact hb) (by rw [block_of_add]; intro e; injection e with e; exact hne e))).trans (hc j u hu)
theorem blk_grown {w : World} {g i : Nat} {u : Value} : w.grownBy (w.setCell ⟨g, i, none⟩ u) (some g) :=
  ⟨rfl, rfl, rfl, by rw [World.size_setCell]; exact Nat.le_refl _, fun k _ hne => Below.heap_setCell w _ u k (fun e => hne (by rw [e]))⟩
theorem grown_of_below {w w' : World} (h : Below w.heap.size w w') (row : Option Nat) : w.grownBy w' row := ⟨h.os, h.tape, h.output, h.size, fun k hk _ => h.block k hk⟩
theorem dig_sl {w : World} {g p k : Nat} [NeZero p] {l : List Int} (h : Blk w g 59 (st fun j => fv (digE p k l j))) : SL w (some ⟨g, 0, none⟩) (digL p k l) := by
  have h1 := (sl_of_blk h).pre 4
  have e : ((List.range 8).map fun j => fv (digE p k l j)).take 4 = digL p k l := by
    unfold digL
    rfl
  rwa [e] at h1
end Go.Proofs.Ytabhndfdioimcaa
