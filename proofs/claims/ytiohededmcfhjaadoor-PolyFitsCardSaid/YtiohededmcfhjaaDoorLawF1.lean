/- Walks of the laws FieldMakes, FieldReckons, FieldRoots, FieldPowers. -/
import Derived.Test.YtiohededmcfhjaaDoorSame
import Derived.Test.YtiohededmcfhjaaDoorRo
import Derived.Test.YtiohededmcfhjaaDoorInts
import Derived.Test.YtiohededmcfhjaaDoorRp
set_option linter.unusedVariables false
namespace Go.Proofs.YtiohededmcfhjaaDoor
open Go.RowKit Zp

theorem fld_order (p S b : Nat) [NeZero p] (m : Int) (hm : I64 m) (w : World) (F : Fld w S b p) :
    Calls Tryd.prog 46 #[.pointer (some ⟨b, 0, none⟩), vi m] w fun e w' => e = .returned (vi ((ordN (el p m) : Nat) : Int)) ∧ w = w' := by
  obtain ⟨A, c, fs, h1, h2, h3, h4⟩ := F.c1
  refine order_any p F.prime F.max fs h3 b m hm w F.c0 A c h1 h2 ?_
  have h4' : Reads w S 1 A (fs.map (fun q : Nat => (q : Int))).length ((fs.map (fun q : Nat => (q : Int))).map vi) := by rw [List.length_map]; exact h4
  exact Reads.more h4' F.le



end Go.Proofs.YtiohededmcfhjaaDoor
