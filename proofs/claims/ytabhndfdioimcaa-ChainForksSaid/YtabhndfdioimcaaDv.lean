/- The walk of poly.Divide. -/
import Derived.Test.YtabhndfdioimcaaEach
import Derived.Test.YtabhndfdioimcaaPs
import Derived.Test.YtabhndfdioimcaaIp
import Derived.Test.YtabhndfdioimcaaSpread
set_option linter.unusedVariables false
namespace Go.Proofs.Ytabhndfdioimcaa
open Go.RowKit Zp

/-- one's own slice of elements, its block and its capacity known -/
def OwnC {p : Nat} (wr : World) (base g n c : Nat) (L : List (Fin p)) : Prop := L.length = n ∧ Own wr base (.slice (some ⟨g, 0, none⟩) n c) (fvs L)
section
variable {p : Nat} [NeZero p] {wr w' : World} {base g n c : Nat} {L : List (Fin p)}
theorem OwnC.at_ (h : OwnC wr base g n c L) (j : Nat) (hj : j < n) : wr.cell? ⟨g, j, none⟩ = some (vi (fv (co L j))) := by
  have hl := h.1
  have := Own.at_ h.2 (by simp [hl]) j (by simp [hl]; omega)
  rw [this, co_of_lt (by omega), List.getElem_map]
omit [NeZero p] in
theorem OwnC.frozen (h : OwnC wr base g n c L) (j : Nat) : wr.frozen? ⟨g, j, none⟩ = false := Own.frozen_ h.2 (by simp [h.1]) j
omit [NeZero p] in
theorem OwnC.store (h : OwnC wr base g n c L) (j : Nat) (x : Fin p) : OwnC (wr.setCell ⟨g, j, none⟩ (vi (fv x))) base g n c (L.set j x) := by
  refine ⟨by simp [h.1], ?_⟩
  have := Own.store h.2 (by simp [h.1]) j (fv x)
  rwa [← List.map_set] at this
omit [NeZero p] in
theorem OwnC.lt (h : OwnC wr base g n c L) : base ≤ g ∧ g < wr.heap.size := h.2.lt g rfl
omit [NeZero p] in
theorem OwnC.far (h : OwnC wr base g n c L) {q : Addr} (hq : g ≠ q.block) (u : Value) : OwnC (wr.setCell q u) base g n c L := ⟨h.1, h.2.far (fun e => hq (by injection e)) u⟩
omit [NeZero p] in
theorem OwnC.drewN (h : OwnC wr base g n c L) (k : Nat) : OwnC (wr.drewN k) base g n c L := h
omit [NeZero p] in
theorem OwnC.below (h : OwnC wr base g n c L) (hb : Below wr.heap.size wr w') : OwnC w' base g n c L := ⟨h.1, h.2.below hb⟩
omit [NeZero p] in
theorem OwnC.alloc (h : OwnC wr base g n c L) (o : Obj) : OwnC (wr.alloc o) base g n c L := ⟨h.1, h.2.alloc' o⟩
omit [NeZero p] in
theorem OwnC.sl (h : OwnC wr base g n c L) : SL wr (some ⟨g, 0, none⟩) (fvs L) := by
  obtain ⟨A, c, h1, h2⟩ := h.2.len
  injection h1 with h1 _ _
  rw [h1]; exact h2
theorem OwnC.made (w : World) (base n : Nat) (hb : base ≤ w.heap.size) (hc : n * 8 ≤ 281474976710656) : OwnC (p := p) (w.alloc (.cells (zeros n) 3)) base w.heap.size n n (List.replicate n 0) := OwnE.made w base n hb hc
end

theorem ptrim_n (p : Nat) [NeZero p] (hp2 : p ≤ 2147483647) (b : Nat) (A : Option Addr) (n cap : Nat) (xs : List Int) (hml : xs.length = n) (hxs : ∀ n ∈ xs, I64 n) (hreach : n * 8 ≤ 281474976710656) (hcap : n ≤ cap) (w : World) (hc : w.cell? ⟨b, 0, none⟩ = some (vi p)) (hs : SL w A xs) :
    Calls Try.prog 73 #[.pointer (some ⟨b, 0, none⟩), .slice A n cap] w fun e w' => Made (fvs (trimL (els p xs))) w e w' := by
  subst hml
  exact trim_any p hp2 b A cap xs hxs hreach hcap w hc hs

/-- quotient and rest are handed back -/
def MadeQR (Q R : List Int) (w : World) (e : Ending) (w' : World) : Prop := ∃ v1 v2, e = .returned (.tuple #[v1, v2, .nilIface]) ∧ Own w' w.heap.size v1 Q ∧ Own w' w.heap.size v2 R ∧ Below w.heap.size w w'
def MadeDiv {p : Nat} [NeZero p] (a b : List (Fin p)) (w : World) (e : Ending) (w' : World) : Prop := ∃ Q R, DivOk a b Q R ∧ MadeQR (fvs Q) (fvs R) w e w'
theorem divOk_trim {p : Nat} [NeZero p] {a b Q R : List (Fin p)} (h : DivOk (trimL a) (trimL b) Q R) : DivOk a b Q R := ⟨h.tq, h.tr, by have := h.lt; rwa [trimL_trim] at this, by have := h.eq; rwa [ofL_trim, ofL_trim] at this⟩

end Go.Proofs.Ytabhndfdioimcaa
