/- Walks of poly.Degree and of the reference's Degree. -/
import Derived.Test.YtlcmacdeadmloaaDoorFw4
import Derived.Test.YtlcmacdeadmloaaDoorRa
set_option linter.unusedVariables false
namespace Go.Proofs.YtlcmacdeadmloaaDoor
open Go.RowKit Zp

/-- what the loop from the end knows: from place n on all is 0 -/
def ZeroFrom (p : Nat) [NeZero p] (xs : List Int) (n : Nat) : Prop := ∀ i, n ≤ i → co (els p xs) i = 0
theorem ZeroFrom.start (p : Nat) [NeZero p] (xs : List Int) : ZeroFrom p xs xs.length := fun i hi => co_of_ge (by simpa using hi)
theorem ZeroFrom.next {p : Nat} [NeZero p] {xs : List Int} {n : Nat} (h : ZeroFrom p xs (n + 1)) (h0 : co (els p xs) n = 0) : ZeroFrom p xs n := fun i hi => by
  by_cases he : i = n
  · rw [he]; exact h0
  · exact h i (by omega)
theorem ZeroFrom.done {p : Nat} [NeZero p] {xs : List Int} {n : Nat} (h : ZeroFrom p xs n) (hn : n = 0 ∨ co (els p xs) (n - 1) ≠ 0) : degL (els p xs) = (n : Int) - 1 := by
  unfold degL
  rw [(trimAt_iff_co.2 ⟨h, hn⟩).length]

end Go.Proofs.YtlcmacdeadmloaaDoor
