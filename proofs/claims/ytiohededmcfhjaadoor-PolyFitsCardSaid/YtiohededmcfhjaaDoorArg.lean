/- A slice of ints that came in. -/
import Derived.Test.YtiohededmcfhjaaDoorMem
import Derived.ChangeSlices
set_option linter.unusedVariables false
namespace Go.Proofs.YtiohededmcfhjaaDoor
open Go.RowKit

/-- '.slice A n c' came in and reads as xs -/
structure ArgS (w : World) (A : Option Addr) (n c : Nat) (xs : List Int) : Prop where
  len : xs.length = n
  cap : n ≤ c
  i64 : ∀ x ∈ xs, I64 x
  reach : c * 8 ≤ 140737488351232
  sl : SL w A xs

theorem ArgS.nil (w : World) : ArgS w none 0 0 [] := ⟨rfl, Nat.le_refl _, by simp, by omega, SL.nil⟩
theorem i64_of_wf {n : Int} (h : (Lit.int .i64 n).wf = true) : I64 n := by
  simpa [Lit.wf, IntKind.min, IntKind.max, IntKind.signed, IntKind.bits] using h

theorem ArgS.mk_ {w : World} {a : Addr} {len cap : Nat} {zs : List Int} (hl : len ≤ cap) (hm : cap ≤ maxLen) (hz : zs.length = cap) (lt : ∀ q ∈ MemPlace.row a zs.length, q.block < w.heap.size)
    (hcell : ∀ i, i < zs.length → w.cell? (a.add i) = some (.int .i64 (zs.getD i 0))) (hwz : ∀ n ∈ zs, (Lit.int .i64 n).wf = true) (hb : cap * 8 ≤ 140737488351232) : ArgS w (some a) len cap (zs.take len) := by
  have hlen : (zs.take len).length = len := by rw [List.length_take, hz]; omega
  refine ⟨hlen, hl, fun x hx => i64_of_wf (hwz x (List.mem_of_mem_take hx)), hb, ?_⟩
  refine ⟨by simp, fun hn => ⟨a, rfl, ?_, fun j u hu => ?_⟩⟩
  · have h0 : 0 < zs.length := by rw [hlen] at hn; omega
    have hc0 := hcell 0 h0
    have : (a.add 0).block < w.heap.size := by
      false_or_by_contra
      rename_i hge
      rw [World.cell?, Array.getElem?_eq_none (by omega)] at hc0
      cases hc0
    rwa [block_of_add] at this
  · rw [List.getElem?_map] at hu
    cases hj : (zs.take len)[j]? with
    | none => rw [hj] at hu; cases hu
    | some x =>
      rw [hj] at hu
      injection hu with hu
      rw [List.getElem?_take] at hj
      split at hj
      · have hjl : j < zs.length := (List.getElem?_eq_some_iff.1 hj).1
        rw [hcell j hjl, ← hu]
        simp [List.getD_eq_getElem?_getD, hj]
      · cases hj

section
variable {w w' : World} {A : Option Addr} {n c : Nat} {xs : List Int}
theorem ArgS.below (h : ArgS w A n c xs) (hb : Below w.heap.size w w') : ArgS w' A n c xs := ⟨h.len, h.cap, h.i64, h.reach, h.sl.below hb⟩
theorem ArgS.r8 (h : ArgS w A n c xs) : xs.length * 8 ≤ 140737488351232 := by
  have := h.reach
  have := h.cap
  have := h.len
  omega
end
end Go.Proofs.YtiohededmcfhjaaDoor
