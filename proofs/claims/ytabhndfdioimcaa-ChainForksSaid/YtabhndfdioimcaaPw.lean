/- Sponge.Power, Field; what Pad makes. -/
import Derived.Test.YtabhndfdioimcaaSn
set_option linter.unusedVariables false
namespace Go.Proofs.Ytabhndfdioimcaa
open Go.RowKit Zp

theorem power_s {p : Nat} [NeZero p] (s b k z : Nat) (oo : Nat → Nat → Fin p) (w : World) (G : Spg w s b k z oo) :
    Calls Try.prog 28 #[.pointer (some ⟨s, 0, none⟩)] w fun e w' => e = .returned (vi k) ∧ w = w' := by
  have h1 := G.c1
  clear G
  go_enter Try.func28, Try.ntmps28
  go_wp2
  go_ret
  exact ⟨rfl, rfl⟩
theorem sfield_s {p : Nat} [NeZero p] (s b k z : Nat) (oo : Nat → Nat → Fin p) (w : World) (G : Spg w s b k z oo) :
    Calls Try.prog 42 #[.pointer (some ⟨s, 0, none⟩)] w fun e w' => e = .returned (.pointer (some ⟨b, 0, none⟩)) ∧ w = w' := by
  have h1 := G.c0
  clear G
  go_enter Try.func42, Try.ntmps42
  go_wp2
  go_ret
  exact ⟨rfl, rfl⟩
/-- a list with what stands behind it: a 1, and zeros till its length is a multiple of four -/
def padN (n : Nat) : Nat := (4 - (n + 1) % 4) % 4
def padL (l : List Int) : List Int := l ++ [1] ++ List.replicate (padN l.length) 0
theorem padL_length (l : List Int) : (padL l).length % 4 = 0 := by
  unfold padL padN
  simp only [List.length_append, List.length_cons, List.length_nil, List.length_replicate]
  omega
theorem padL_five : padL [5] = [5, 1, 0, 0] := by decide
/-- the power of 97 is 5 -/
theorem power_97 {k : Nat} (h2 : 2 ≤ k) (hl : ∀ j, 2 ≤ j → j < k → Nat.gcd j 96 ≠ 1) (hc : Nat.gcd k 96 = 1) : k = 5 := by
  have h5 : k ≤ 5 := by
    rcases Nat.lt_or_ge 5 k with h | h
    · exact absurd (by decide) (hl 5 (by omega) h)
    · exact h
  have : k = 2 ∨ k = 3 ∨ k = 4 ∨ k = 5 := by omega
  rcases this with rfl | rfl | rfl | rfl
  · exact absurd hc (by decide)
  · exact absurd hc (by decide)
  · exact absurd hc (by decide)
  · rfl
end Go.Proofs.Ytabhndfdioimcaa
