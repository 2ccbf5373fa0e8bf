/- What the bound of a second form gives (after the guide's page UptoLemmas). -/
import Derived.Test.YtiohededmcfhjaaDoorRows
import Derived.ChangeSlices
set_option linter.unusedVariables false
namespace Go.Proofs.YtiohededmcfhjaaDoor.Upto
open Go.ChangeShapes

theorem one_le {H : Type} (d : DataW H) : 1 ≤ Rows.uptoBulk d := by
  cases d with
  | lit l => cases l <;> simp [Rows.uptoBulk]
  | nil => simp [Rows.uptoBulk]
  | ptr d => simp [Rows.uptoBulk]
  | slice elems spare => simp [Rows.uptoBulk]
  | agg parts => simp [Rows.uptoBulk]
  | iface t d => simp [Rows.uptoBulk]
  | map entries => simp [Rows.uptoBulk]
  | held h => simp [Rows.uptoBulk]
theorem part_le' {H : Type} {d : DataW H} {l : List (DataW H)} (h : d ∈ l) : Rows.uptoBulk d ≤ Rows.uptoBulkAll l := by
  induction l with
  | nil => cases h
  | cons x r ih =>
    simp only [Rows.uptoBulkAll]
    cases List.mem_cons.1 h with
    | inl e => subst e; omega
    | inr e => have := ih e; omega
theorem part_le {H : Type} {d : DataW H} {ds : List (DataW H)} {B : Nat} (h : d ∈ ds) (hb : Rows.uptoBulkAll ds ≤ B) : Rows.uptoBulk d ≤ B := Nat.le_trans (part_le' h) hb
theorem length_le {H : Type} (l : List (DataW H)) : l.length ≤ Rows.uptoBulkAll l := by
  induction l with
  | nil => simp [Rows.uptoBulkAll]
  | cons x r ih => have := one_le x; simp only [Rows.uptoBulkAll, List.length_cons]; omega
theorem slice_le {H : Type} (elems spare : List (DataW H)) : elems.length + spare.length + 1 ≤ Rows.uptoBulk (.slice elems spare) := by
  have h1 := length_le elems
  have h2 := length_le spare
  simp only [Rows.uptoBulk]
  omega
theorem ints_le {H : Type} {k : IntKind} (zs : List Int) (l : Nat) {cap B : Nat} (hz : zs.length = cap) (hl : l ≤ cap) (h : Rows.uptoBulk (DataW.slice (H := H) (lits k (zs.take l)) (lits k (zs.drop l))) ≤ B) : cap ≤ B := by
  have h1 := slice_le (H := H) (lits k (zs.take l)) (lits k (zs.drop l))
  have e1 : (lits (H := H) k (zs.take l)).length = min l zs.length := by simp [lits]
  have e2 : (lits (H := H) k (zs.drop l)).length = zs.length - l := by simp [lits]
  rw [e1, e2] at h1
  omega
end Go.Proofs.YtiohededmcfhjaaDoor.Upto
