/- Walks: attestlaw2's plain and lives. -/
import Derived.Test.YtkhkoeibigpdnaaDoorLv1
import Derived.Test.YtkhkoeibigpdnaaDoorVals
set_option linter.unusedVariables false
namespace Go.Proofs.YtkhkoeibigpdnaaDoor
open Go.RowKit Zp

/-- is there a domain? -/
def HasDom (p size t : Int) : Prop := HasField p ∧ ∃ n : Nat, size = n ∧ SizeOk p.toNat n ∧ ¬ t % p = 0

/-- domain.New where there is no domain of this field -/
def NoDomE (w : World) (e : Ending) (w' : World) : Prop := (e = NoDom 2 ∨ e = NoDom 3) ∧ w = w'
theorem dnew_none (q S b : Nat) [NeZero q] (size t : Int) (hs : I64 size) (ht : I64 t) (w : World) (F : Fld w S b q) (h : ¬ ∃ n : Nat, size = n ∧ SizeOk q n ∧ ¬ t % (q : Int) = 0) :
    Calls Tryd.prog 65 #[.pointer (some ⟨b, 0, none⟩), vi size, vi t] w fun e w' => NoDomE w e w' := by
  have hc := F.c0
  by_cases h1 : size < 1 ∨ 65536 < size
  · exact (dnew_size1 b size t h1 w).mono fun e w' ⟨h1, h2⟩ => ⟨.inl h1, h2⟩
  · obtain ⟨n, rfl⟩ := Int.eq_ofNat_of_zero_le (a := size) (by omega)
    by_cases h2 : SizeOk q n
    · have h3 : el q t = 0 := by
        false_or_by_contra
        rename_i h3
        exact h ⟨n, rfl, h2, fun h4 => h3 (el_eq_zero.2 h4)⟩
      exact (dnew_shift q b n t ht F.two F.max h2 h3 w hc).mono fun e w' ⟨h1, h2⟩ => ⟨.inr h1, h2⟩
    · exact (dnew_size2 q b n t (by omega) (by omega) F.two F.max h2 w hc).mono fun e w' ⟨h1, h2⟩ => ⟨.inl h1, h2⟩


/-- the parts of HasDom -/
theorem HasDom.parts {p size t : Int} (h : HasDom p size t) : ∃ q n : Nat, p = q ∧ size = n ∧ 3 ≤ q ∧ q ≤ 2147483647 ∧ IsPrime q ∧ SizeOk q n ∧ ¬ t % (q : Int) = 0 := by
  obtain ⟨⟨h3, hm, hpr⟩, n, rfl, hs, h0⟩ := h
  obtain ⟨q, rfl⟩ := Int.eq_ofNat_of_zero_le (a := p) (by omega)
  rw [Int.toNat_natCast] at hpr hs
  exact ⟨q, n, rfl, rfl, by omega, by omega, hpr, hs, h0⟩

/-- a list written out reads as it is -/
theorem sl_lit (w : World) (xs : List Int) : SL (w.alloc (.cells (xs.map vi).toArray 3)) (some ⟨w.heap.size, 0, none⟩) xs := by
  refine ⟨by simp, fun hn => ⟨_, rfl, by simp, fun j u hu => ?_⟩⟩
  have e : (⟨w.heap.size, 0, none⟩ : Addr).add j = ⟨w.heap.size, j, none⟩ := by simp [Addr.add]; intro h; exact h.symm
  rw [e, (Blk.new w 3 (xs.map vi).toArray).cell]
  simpa using hu

theorem size4 : SizeOk 17 4 := ⟨⟨2, by omega, rfl⟩, ⟨4, rfl⟩⟩
theorem root17 : rootI 17 ((4 : Nat) : Int) = el 17 13 := by
  rw [rootI_nat (by omega) (by decide) (by omega), gen17]
  decide
theorem vals17 : fvs (valL (el 17 3) (rootI 17 ((4 : Nat) : Int)) 4 (els 17 [1, 1])) = [4, 6, 15, 13] := by
  rw [root17]
  decide

theorem ints_n (A B : Option Addr) (n c m d : Nat) (xs ys : List Int) (hnx : xs.length = n) (hmy : ys.length = m) (hn : n ≤ 9223372036854775807) (hm : m ≤ 9223372036854775807) (w : World) (hsx : SL w A xs) (hsy : SL w B ys) :
    Calls Tryd.prog 21 #[.slice A n c, .slice B m d] w fun e w' => e = .returned (.bool (eqB xs ys)) ∧ ∃ k, w' = w.drewN k := by
  subst hnx hmy
  exact ints_any A B c d xs ys hn hm w hsx hsy
end Go.Proofs.YtkhkoeibigpdnaaDoor
