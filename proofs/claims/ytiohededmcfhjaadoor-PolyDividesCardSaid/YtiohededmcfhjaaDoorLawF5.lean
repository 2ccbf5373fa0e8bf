/- Walks: same.Spoil; the law PolyAdds. -/
import Derived.Test.YtiohededmcfhjaaDoorLawF4
import Derived.Test.YtiohededmcfhjaaDoorEach
import Derived.Test.YtiohededmcfhjaaDoorArgU
set_option linter.unusedVariables false
namespace Go.Proofs.YtiohededmcfhjaaDoor
open Go.RowKit Zp

theorem pmul_n' (p : Nat) [NeZero p] (hp2 : p ≤ 2147483647) (b : Nat) (A B : Option Addr) (na ca nb cb : Nat) (xs ys : List Int) (hna : xs.length = na) (hnb : ys.length = nb) (hxs : ∀ n ∈ xs, I64 n) (hys : ∀ n ∈ ys, I64 n) (hrx : na * 8 ≤ 140737488351232) (hry : nb * 8 ≤ 140737488351232) (hcx : na ≤ ca) (hcy : nb ≤ cb)
    (w : World) (hc : w.cell? ⟨b, 0, none⟩ = some (vi p)) (hsx : SL w A xs) (hsy : SL w B ys) :
    Calls Tryd.prog 41 #[.pointer (some ⟨b, 0, none⟩), .slice A na ca, .slice B nb cb] w fun e w' => Made (fvs (trimL (mulL (els p xs) (els p ys)))) w e w' := by
  subst hna hnb
  exact pmul_any p hp2 b A B ca cb xs ys hxs hys hrx hry hcx hcy w hc hsx hsy
theorem degree_n' (p : Nat) [NeZero p] (hp2 : p ≤ 2147483647) (b : Nat) (A : Option Addr) (n cap : Nat) (xs : List Int) (hn : xs.length = n) (hxs : ∀ n ∈ xs, I64 n) (hreach : n * 8 ≤ 281474976710656) (w : World) (hc : w.cell? ⟨b, 0, none⟩ = some (vi p)) (hs : SL w A xs) :
    Calls Tryd.prog 47 #[.pointer (some ⟨b, 0, none⟩), .slice A n cap] w fun e w' => e = .returned (vi (degL (els p xs))) ∧ w = w' := by
  subst hn
  exact degree_any p hp2 b A cap xs hxs hreach w hc hs


end Go.Proofs.YtiohededmcfhjaaDoor
