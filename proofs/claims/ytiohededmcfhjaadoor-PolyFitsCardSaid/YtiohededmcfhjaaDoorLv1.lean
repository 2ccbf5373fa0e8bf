/- Walks: attestlaw1's lives: the field of 17; New of any number. -/
import Derived.Test.YtiohededmcfhjaaDoorFw4
set_option linter.unusedVariables false
namespace Go.Proofs.YtiohededmcfhjaaDoor
open Go.RowKit Zp

theorem prime17 : IsPrime 17 := by decide
theorem ord17 : Ord (el 17 3) 16 := ord_of_least (by omega) (by decide) (by
  intro k h1 h2
  have : ∀ k : Fin 16, 0 < k.val → pw (el 17 3) k.val ≠ 1 := by decide
  exact this ⟨k, h2⟩ h1)
theorem gen17 : genN 17 = 3 := genN_eq ⟨by omega, by omega, ord17, fun k h1 h2 h3 => by
  have h4 : ¬ pw (el 17 (k : Int)) 8 = 1 := fun h => by
    have := (h3 8).1 h
    omega
  match k, h1, h2 with
  | 1, _, _ => exact h4 (by decide)
  | 2, _, _ => exact h4 (by decide)⟩
theorem inv17 : fv (Zp.inv (el 17 3)) = 6 := by decide

/-- a field's pointer -/
def FieldPtr (p : Nat) [NeZero p] (w : World) (e : Ending) (w' : World) : Prop :=
  ∃ b : Nat, e = .returned (.pointer (some ⟨b, 0, none⟩)) ∧ Fld w' w'.heap.size b p ∧ Below w.heap.size w w'


/-- what there is of New: no field, or one of a prime -/
inductive New_ (p : Int) (w : World) (e : Ending) (w' : World) : Prop
  | no (h : ¬ (3 ≤ p ∧ p ≤ 2147483647 ∧ IsPrime p.toNat)) (he : e = NoField) (hw : w = w')
  | yes (n : Nat) (h : p = n) (h3 : 3 ≤ n) (hm : n ≤ 2147483647) (hp : IsPrime n) (hF : ∀ h0 : NeZero n, MadeField n w e w')

theorem new_all (p : Int) (w : World) : Calls Tryd.prog 21 #[vi p] w fun e w' => New_ p w e w' := by
  by_cases h : p < 3 ∨ 2147483647 < p
  · exact (new_no p w h).mono fun e w' ⟨h1, h2⟩ => .no (by omega) h1 h2
  · obtain ⟨n, rfl⟩ := Int.eq_ofNat_of_zero_le (a := p) (by omega)
    by_cases hp : IsPrime n
    · haveI := hp.ne
      exact (new_prime n w (by omega) (by omega) hp).mono fun e w' hm => .yes n rfl (by omega) (by omega) hp (fun h0 => hm)
    · exact (new_composite n w (by omega) (by omega) hp).mono fun e w' ⟨h1, h2⟩ => .no (by rintro ⟨_, _, h⟩; exact hp (by simpa using h)) h1 h2

/-- is there a field of this number? -/
abbrev HasField (p : Int) : Prop := 3 ≤ p ∧ p ≤ 2147483647 ∧ IsPrime p.toNat
theorem new_none (p : Int) (w : World) (h : ¬ HasField p) : Calls Tryd.prog 21 #[vi p] w fun e w' => e = NoField ∧ w = w' :=
  (new_all p w).mono fun e w' h' => by
    cases h' with
    | no _ h1 h2 => exact ⟨h1, h2⟩
    | yes n h1 h3 hm hp _ => exact absurd ⟨by omega, by omega, by rw [h1]; simpa using hp⟩ h
end Go.Proofs.YtiohededmcfhjaaDoor
