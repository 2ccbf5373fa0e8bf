/- A bundle of texts: Wm, Wn, Fo, Fp4, Fq. -/
import Derived.Test.YtflkiddmakeabaaGreatDoorR05
import Derived.ChangeKeysEq
/- tree.way.work at a group of one row that is shown. -/
set_option linter.unusedVariables false
namespace Go.Proofs.YtflkiddmakeabaaGreatDoor
open Go.RowKit Zp Go.MapKept Go.ChangeMaps
/-- the row that is shown at a place -/
def rowAt (l : List Int) (rs : List (List Int)) (a : Nat) : List Int := rs.getD (lowB l a) []
end Go.Proofs.YtflkiddmakeabaaGreatDoor

/- tree.way.work, at every group. -/
set_option linter.unusedVariables false
namespace Go.Proofs.YtflkiddmakeabaaGreatDoor
open Go.RowKit Zp Go.MapKept Go.ChangeMaps
end Go.Proofs.YtflkiddmakeabaaGreatDoor

/- Walks: slices.IndexFunc and ContainsFunc at rows; the closures of tree.follow. -/
set_option linter.unusedVariables false
namespace Go.Proofs.YtflkiddmakeabaaGreatDoor
open Go.RowKit Zp
end Go.Proofs.YtflkiddmakeabaaGreatDoor

/- Arrays of four ints compared. -/
set_option linter.unusedVariables false
namespace Go.Proofs.YtflkiddmakeabaaGreatDoor
open Go.RowKit Zp
end Go.Proofs.YtflkiddmakeabaaGreatDoor

/- Plain: what follow asks of an Opening. And the walk of tree.follow. -/
set_option linter.unusedVariables false
namespace Go.Proofs.YtflkiddmakeabaaGreatDoor
open Go.RowKit Zp Go.MapKept Go.ChangeMaps
/-- places that ascend, within n rows -/
def OkP (l : List Int) (n : Int) : Prop := Asc l ∧ ∀ x ∈ l, 0 ≤ x ∧ x < n
/-- .. as far as k of them -/
def PreOk (l : List Int) (n : Int) (k : Nat) : Prop := (∀ j (h : j < l.length), j < k → 0 ≤ l[j] ∧ l[j] < n) ∧ (∀ j (h : j + 1 < l.length), j + 1 < k → l[j] < l[j + 1])
theorem PreOk.zero (l : List Int) (n : Int) : PreOk l n 0 := ⟨fun j _ h => absurd h (Nat.not_lt_zero _), fun j _ h => absurd h (Nat.not_lt_zero _)⟩
theorem PreOk.done {l : List Int} {n : Int} {k : Nat} (h : PreOk l n k) (hk : l.length ≤ k) : OkP l n :=
  ⟨asc_of_steps fun i hi => h.2 i hi (by omega), fun x hx => by
    obtain ⟨j, hj, rfl⟩ := List.mem_iff_getElem.1 hx
    exact h.1 j hj (by omega)⟩
theorem PreOk.first {l : List Int} {n : Int} (h : PreOk l n 0) (hk : 0 < l.length) (h1 : 0 ≤ l[0] ∧ l[0] < n) : PreOk l n 1 :=
  ⟨fun j hj hjk => by
    obtain rfl : j = 0 := by omega
    exact h1, fun j hj hjk => by omega⟩
theorem PreOk.next {l : List Int} {n : Int} {k : Nat} (h : PreOk l n (k + 1)) (hk : k + 1 < l.length) (h1 : 0 ≤ l[k + 1] ∧ l[k + 1] < n) (h2 : l[k] < l[k + 1]) : PreOk l n (k + 1 + 1) :=
  ⟨fun j hj hjk => by
    by_cases e : j < k + 1
    · exact h.1 j hj e
    · obtain rfl : j = k + 1 := by omega
      exact h1, fun j hj hjk => by
    by_cases e : j + 1 < k + 1
    · exact h.2 j hj e
    · obtain rfl : j = k := by omega
      exact h2⟩
section
variable (p k : Nat) [NeZero p]
/-- what is worked out of an Opening -/
def workE (l : List Int) (rs ns : List (List Int)) (n : Nat) : (GF × GF) × List (List Int) :=
  workW (digL p k) (fun x => fvs (els p x)) (fun i => fvs (els p (rowAt l rs i))) l 0 n (fun _ _ => none, fun _ _ => none) ns
/-- what follow takes -/
def TakenP (l : List Int) (rs ns : List (List Int)) (top : List Int) (n : Int) : Prop :=
  (1 ≤ n ∧ n ≤ 65536) ∧ top.length = 4 ∧ rs.length = l.length ∧ OkP l n ∧ ns.length = (hidL l 0 n.toNat).length ∧ (∀ x ∈ ns, x.length = 4) ∧
    (climbD (digL p k) (fun x => fvs (els p x)) (fun i => fvs (els p (rowAt l rs i))) l 0 n.toNat ns).1 = fvs (els p top)
open Classical in
noncomputable def takenB (l : List Int) (rs ns : List (List Int)) (top : List Int) (n : Int) : Bool := decide (TakenP p k l rs ns top n)
end
section
variable {p k : Nat} [NeZero p] {l : List Int} {rs ns : List (List Int)} {top : List Int} {n : Int}
open Classical in
theorem takenB_false (h : ¬ TakenP p k l rs ns top n) : takenB p k l rs ns top n = false := by unfold takenB; exact decide_eq_false h
end
end Go.Proofs.YtflkiddmakeabaaGreatDoor
