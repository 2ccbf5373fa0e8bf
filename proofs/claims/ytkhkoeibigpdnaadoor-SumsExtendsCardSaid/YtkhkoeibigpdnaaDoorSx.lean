/- Plain: tables over a cube: how many variables; the table over one variable less. -/
import Derived.Test.YtkhkoeibigpdnaaDoorFd
import Derived.Test.YtkhkoeibigpdnaaDoorPm
set_option linter.unusedVariables false
namespace Go.Proofs.YtkhkoeibigpdnaaDoor
open Zp

/-- a table's length: 2 ^ v, v to 12 -/
def Cube (n v : Nat) : Prop := v ≤ 12 ∧ n = 2 ^ v
/-- is there any? -/
def IsCube (n : Nat) : Prop := ∃ v, Cube n v
open Classical in
noncomputable def varsI (n : Nat) : Int := if h : IsCube n then (h.choose : Int) else -1

theorem Cube.pos {n v : Nat} (h : Cube n v) : 0 < n := by rw [h.2]; exact Nat.pow_pos (by omega)
theorem Cube.le {n v : Nat} (h : Cube n v) : n ≤ 4096 := by
  rw [h.2]; exact Nat.pow_le_pow_right (n := 2) (by omega) h.1
theorem Cube.inj {n v u : Nat} (h : Cube n v) (k : Cube n u) : v = u := by
  have := h.2.symm.trans k.2
  exact (Nat.pow_right_inj (by omega)).1 this
theorem varsI_of {n v : Nat} (h : Cube n v) : varsI n = v := by
  have hi : IsCube n := ⟨v, h⟩
  rw [varsI, dif_pos hi, hi.choose_spec.inj h]
theorem varsI_no {n : Nat} (h : ¬ IsCube n) : varsI n = -1 := by rw [varsI, dif_neg h]
theorem Cube.and {n v : Nat} (h : Cube n v) : (n &&& (n - 1)) = 0 := (two_pow_iff n h.pos).2 ⟨v, h.2⟩
theorem isCube_iff (n : Nat) : IsCube n ↔ 1 ≤ n ∧ (n &&& (n - 1)) = 0 ∧ n ≤ 4096 := by
  constructor
  · rintro ⟨v, h⟩; exact ⟨h.pos, h.and, h.le⟩
  · rintro ⟨h1, h2, h3⟩
    obtain ⟨v, e⟩ := (two_pow_iff n h1).1 h2
    refine ⟨v, ?_, e⟩
    subst e
    false_or_by_contra
    rename_i hk
    have : 2 ^ 13 ≤ 2 ^ v := Nat.pow_le_pow_right (by omega) (by omega)
    omega
theorem Cube.half {n v h : Nat} (hc : Cube n (v + 1)) (e : h = n / 2) : Cube h v ∧ n = 2 * h := by
  obtain ⟨h1, h2⟩ := hc
  rw [Nat.pow_succ] at h2
  refine ⟨⟨by omega, by omega⟩, by omega⟩

section
variable {p : Nat} [NeZero p]
/-- one number of the table over one variable less -/
def fixE (a b r : Fin p) : Fin p := a * (1 - r) + b * r
def fixL (h : Nat) (l : List (Fin p)) (r : Fin p) : List (Fin p) := tab h fun i => fixE (co l i) (co l (i + h)) r
theorem fixL_length (h : Nat) (l : List (Fin p)) (r : Fin p) : (fixL h l r).length = h := by rw [fixL, tab_length]
theorem co_fixL {h i : Nat} (l : List (Fin p)) (r : Fin p) (hi : i < h) : co (fixL h l r) i = fixE (co l i) (co l (i + h)) r := by rw [fixL, co_tab, if_pos hi]
/-- a table of n numbers at a point -/
def extL : List (Fin p) → List (Fin p) → List (Fin p)
  | l, [] => l
  | l, r :: rs => extL (fixL (l.length / 2) l r) rs
end
end Go.Proofs.YtkhkoeibigpdnaaDoor
