/- Walks: Root, domain.New, Size, Field; a domain in memory. -/
import Derived.Test.YtiohededmcfhjaaDoorFw4
import Derived.Test.YtiohededmcfhjaaDoorDm
import Derived.Test.YtiohededmcfhjaaDoorRound
import Derived.IntWalk
import Derived.Test.YtiohededmcfhjaaDoorRt
set_option linter.unusedVariables false
namespace Go.Proofs.YtiohededmcfhjaaDoor
open Go.RowKit Zp


/-- a size that may be -/
def SizeOk (p n : Nat) : Prop := (∃ k, k ≤ 16 ∧ n = 2 ^ k) ∧ n ∣ p - 1
theorem SizeOk.pos {p n : Nat} (h : SizeOk p n) : 0 < n := by
  obtain ⟨⟨k, _, rfl⟩, _⟩ := h
  exact Nat.pow_pos (by omega)
theorem SizeOk.le {p n : Nat} (h : SizeOk p n) : n ≤ 65536 := by
  obtain ⟨⟨k, hk, rfl⟩, _⟩ := h
  exact Nat.pow_le_pow_right (n := 2) (by omega) hk
theorem sizeOk_of {p n : Nat} (h1 : 1 ≤ n) (h2 : n ≤ 65536) (h3 : (n &&& (n - 1)) = 0) (h4 : n ∣ p - 1) : SizeOk p n := by
  obtain ⟨k, rfl⟩ := (two_pow_iff n h1).1 h3
  refine ⟨⟨k, ?_, rfl⟩, h4⟩
  false_or_by_contra
  rename_i hk
  have : 2 ^ 17 ≤ 2 ^ k := Nat.pow_le_pow_right (by omega) (by omega)
  omega
theorem SizeOk.and {p n : Nat} (h : SizeOk p n) : (n &&& (n - 1)) = 0 := (two_pow_iff n h.pos).2 (let ⟨⟨k, _, e⟩, _⟩ := h; ⟨k, e⟩)

/-- the domain of n points that begins with s lies at block D, its field at b, all of it below block S -/
structure Dom (w : World) (S D b p : Nat) [NeZero p] (n : Nat) (s : Fin p) : Prop where
  fld : Fld w S b p
  lt : D < S
  c0 : w.cell? ⟨D, 0, none⟩ = some (.pointer (some ⟨b, 0, none⟩))
  c1 : w.cell? ⟨D, 1, none⟩ = some (vi n)
  c2 : w.cell? ⟨D, 2, none⟩ = some (vi (fv s))
  c3 : w.cell? ⟨D, 3, none⟩ = some (vi (fv (rootI p n)))
  s0 : s ≠ 0
  size : SizeOk p n
section
variable {w w' : World} {S D b p n : Nat} [NeZero p] {s : Fin p}
theorem Dom.keep (h : Dom w S D b p n s) (hk : ∀ q : Addr, q.block < S → w'.cell? q = w.cell? q) (hs : w.heap.size ≤ w'.heap.size) : Dom w' S D b p n s :=
  ⟨h.fld.keep hk hs, h.lt, (hk _ h.lt).trans h.c0, (hk _ h.lt).trans h.c1, (hk _ h.lt).trans h.c2, (hk _ h.lt).trans h.c3, h.s0, h.size⟩
theorem Dom.below (h : Dom w S D b p n s) {B : Nat} (hb : Below B w w') (hS : S ≤ B) : Dom w' S D b p n s := h.keep (fun q hq => hb.cell (by omega)) hb.size
theorem Dom.drewN (h : Dom w S D b p n s) (k : Nat) : Dom (w.drewN k) S D b p n s := h.keep (fun _ _ => rfl) (Nat.le_refl _)
theorem Dom.alloc (h : Dom w S D b p n s) (o : Obj) : Dom (w.alloc o) S D b p n s := h.keep (fun q hq => World.cell?_alloc_lt w o q (by have := h.fld.le; omega)) (by simp)
theorem Dom.le (h : Dom w S D b p n s) : S ≤ w.heap.size := h.fld.le
end

theorem and_pred (n : Nat) (h1 : 1 ≤ n) (h2 : n ≤ 65536) : bits .and .i64 (n : Int) ((n : Int) - 1) = ((n &&& (n - 1) : Nat) : Int) := by
  have e : (n : Int) - 1 = ((n - 1 : Nat) : Int) := by omega
  rw [e]
  exact i64_and_nat n (n - 1) (by omega) (by omega)


end Go.Proofs.YtiohededmcfhjaaDoor
