/- The walk of poly.Mul. -/
import Derived.Test.YtabhndfdioimcaaTrim
import Derived.Test.YtabhndfdioimcaaPm
import Derived.Test.YtabhndfdioimcaaRound
import Derived.IntWalk
set_option linter.unusedVariables false
namespace Go.Proofs.Ytabhndfdioimcaa
open Go.RowKit Zp

/-- one's own slice of elements, its block known -/
def OwnE {p : Nat} (wr : World) (base g n : Nat) (L : List (Fin p)) : Prop := L.length = n ∧ Own wr base (.slice (some ⟨g, 0, none⟩) n n) (fvs L)
theorem OwnE.at_ {p : Nat} [NeZero p] {wr : World} {base g n : Nat} {L : List (Fin p)} (h : OwnE wr base g n L) (j : Nat) (hj : j < n) : wr.cell? ⟨g, j, none⟩ = some (vi (fv (co L j))) := by
  have hl := h.1
  have := Own.at_ h.2 (by simp [hl]) j (by simp [hl]; omega)
  rw [this, co_of_lt (by omega), List.getElem_map]
theorem OwnE.frozen {p : Nat} {wr : World} {base g n : Nat} {L : List (Fin p)} (h : OwnE wr base g n L) (j : Nat) : wr.frozen? ⟨g, j, none⟩ = false := Own.frozen_ h.2 (by simp [h.1]) j
theorem OwnE.store {p : Nat} {wr : World} {base g n : Nat} {L : List (Fin p)} (h : OwnE wr base g n L) (j : Nat) (x : Fin p) : OwnE (wr.setCell ⟨g, j, none⟩ (vi (fv x))) base g n (L.set j x) := by
  refine ⟨by simp [h.1], ?_⟩
  have := Own.store h.2 (by simp [h.1]) j (fv x)
  rwa [← List.map_set] at this
theorem OwnE.made {p : Nat} [NeZero p] (w : World) (base n : Nat) (hb : base ≤ w.heap.size) (hc : n * 8 ≤ 281474976710656) : OwnE (p := p) (w.alloc (.cells (zeros n) 3)) base w.heap.size n (List.replicate n 0) := by
  refine ⟨by simp, ?_⟩
  have := own_made w base n hb hc
  rwa [show List.replicate n (0 : Int) = fvs (List.replicate n (0 : Fin p)) from by simp [fv_zero]] at this
theorem OwnE.lt {p : Nat} {wr : World} {base g n : Nat} {L : List (Fin p)} (h : OwnE wr base g n L) : base ≤ g ∧ g < wr.heap.size := h.2.lt g rfl
theorem OwnE.sl {p : Nat} {wr : World} {base g n : Nat} {L : List (Fin p)} (h : OwnE wr base g n L) : SL wr (some ⟨g, 0, none⟩) (fvs L) := by
  obtain ⟨A, c, h1, h2⟩ := h.2.len
  injection h1 with h1 _ _
  rw [h1]; exact h2
theorem co_set {p : Nat} [NeZero p] (L : List (Fin p)) (j : Nat) (x : Fin p) (hj : j < L.length) (m : Nat) : co (L.set j x) m = if m = j then x else co L m := by
  unfold co
  rw [List.getElem?_set]
  by_cases h : m = j
  · subst h; rw [if_pos rfl, if_pos rfl, if_pos hj]; rfl
  · rw [if_neg (fun e => h e.symm), if_neg h]
theorem co_replicate {p : Nat} [NeZero p] (n m : Nat) : co (List.replicate n (0 : Fin p)) m = 0 := by
  unfold co
  rw [List.getElem?_replicate]
  split <;> rfl

theorem i64_fvs {p : Nat} (L : List (Fin p)) (hp2 : p ≤ 2147483647) : ∀ n ∈ fvs L, I64 n := by
  intro n hn
  obtain ⟨x, _, rfl⟩ := List.mem_map.1 hn
  exact i64_fv x hp2

end Go.Proofs.Ytabhndfdioimcaa
