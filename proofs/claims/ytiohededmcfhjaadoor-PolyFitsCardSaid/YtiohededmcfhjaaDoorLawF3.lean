/- Walks: Field.Invs; the laws FieldInvs. -/
import Derived.Test.YtiohededmcfhjaaDoorLawF1
import Derived.Test.YtiohededmcfhjaaDoorAppA
import Derived.Test.YtiohededmcfhjaaDoorArg
set_option linter.unusedVariables false
namespace Go.Proofs.YtiohededmcfhjaaDoor
open Go.RowKit Zp

theorem SL_of_own {w : World} {base n c : Nat} {A : Option Addr} {xs : List Int} (h : Own w base (.slice A n c) xs) : SL w A xs := by
  obtain ⟨A', c', e, hs⟩ := h.len
  injection e with e1 e2 e3
  subst e1
  exact hs
theorem ints_same (A B : Option Addr) (n c m d : Nat) (xs ys : List Int) (hnx : xs.length = n) (hmy : ys.length = m) (he : xs = ys) (hn : n ≤ 9223372036854775807) (w : World) (hsx : SL w A xs) (hsy : SL w B ys) :
    Calls Tryd.prog 11 #[.slice A n c, .slice B m d] w fun e w' => e = .returned (.bool true) ∧ ∃ k, w' = w.drewN k := by
  subst hnx hmy
  have h := ints_any A B c d xs ys hn (by rw [← he]; exact hn) w hsx hsy
  rw [eqB_true he] at h
  exact h


end Go.Proofs.YtiohededmcfhjaaDoor
