/- Walks: poly.Derive; the law PolyEvals. -/
import Derived.Test.YtiohededmcfhjaaDoorLawF3
import Derived.Test.YtiohededmcfhjaaDoorEval
import Derived.Test.YtiohededmcfhjaaDoorTrim
import Derived.Test.YtiohededmcfhjaaDoorRq
set_option linter.unusedVariables false
namespace Go.Proofs.YtiohededmcfhjaaDoor
open Go.RowKit Zp

/-- the derivative's places -/
def derL {p : Nat} [NeZero p] (l : List (Fin p)) : List (Fin p) := tab (l.length - 1) (fun i => el p ((i + 1 : Nat) : Int) * co l (i + 1))
theorem derL_length {p : Nat} [NeZero p] (l : List (Fin p)) : (derL l).length = l.length - 1 := tab_length _ _
theorem derL_take {p : Nat} [NeZero p] (xs : List Int) (k : Nat) (hk0 : 1 ≤ k) (hk : k < xs.length) : (fvs (derL (els p xs))).take (k - 1) ++ [fv (el p (k : Int) * el p xs[k])] = (fvs (derL (els p xs))).take k := by
  have hl : k - 1 < (derL (els p xs)).length := by rw [derL_length, List.length_map]; omega
  have h2 := map_take_succ fv (derL (els p xs)) (k - 1) hl
  rw [show k - 1 + 1 = k by omega] at h2
  have e : (derL (els p xs))[k - 1] = el p (k : Int) * el p xs[k] := by
    rw [← co_of_lt hl]; unfold derL; rw [co_tab, if_pos (by rw [List.length_map]; omega), show k - 1 + 1 = k by omega, co_of_lt (by simpa using hk)]; simp
  rw [e] at h2
  exact h2

theorem trim_n (p : Nat) [NeZero p] (hp2 : p ≤ 2147483647) (b : Nat) (A : Option Addr) (n cap : Nat) (xs : List Int) (hml : xs.length = n) (hxs : ∀ n ∈ xs, I64 n) (hreach : n * 8 ≤ 281474976710656) (hcap : n ≤ cap) (w : World) (hc : w.cell? ⟨b, 0, none⟩ = some (vi p)) (hs : SL w A xs) :
    Calls Tryd.prog 23 #[.pointer (some ⟨b, 0, none⟩), .slice A n cap] w fun e w' => Made (fvs (trimL (els p xs))) w e w' := by
  subst hml
  exact trim_any p hp2 b A cap xs hxs hreach hcap w hc hs
theorem eval_n (p : Nat) [NeZero p] (S b : Nat) (A : Option Addr) (n cap : Nat) (xs : List Int) (hml : xs.length = n) (hxs : ∀ n ∈ xs, I64 n) (hreach : n * 8 ≤ 140737488351232) (x : Int) (hx : I64 x) (w : World) (F : Fld w S b p) (hs : SL w A xs) :
    Calls Tryd.prog 35 #[.pointer (some ⟨b, 0, none⟩), .slice A n cap, vi x] w fun e w' => SaysW (vi (fv (ev (els p xs) (el p x)))) w e w' := by
  subst hml
  exact eval_any p S b A cap xs hxs hreach x hx w F hs


end Go.Proofs.YtiohededmcfhjaaDoor
