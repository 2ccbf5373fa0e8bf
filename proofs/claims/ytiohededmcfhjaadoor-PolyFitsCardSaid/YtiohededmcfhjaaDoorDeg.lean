/- Walks of poly.Degree and of the reference's Degree. -/
import Derived.Test.YtiohededmcfhjaaDoorFw4
import Derived.Test.YtiohededmcfhjaaDoorRa
set_option linter.unusedVariables false
namespace Go.Proofs.YtiohededmcfhjaaDoor
open Go.RowKit Zp

/-- what the loop from the end knows: from place n on all is 0 -/
def ZeroFrom (p : Nat) [NeZero p] (xs : List Int) (n : Nat) : Prop := ∀ i, n ≤ i → co (els p xs) i = 0
theorem ZeroFrom.start (p : Nat) [NeZero p] (xs : List Int) : ZeroFrom p xs xs.length := fun i hi => co_of_ge (by simpa using hi)
theorem ZeroFrom.next {p : Nat} [NeZero p] {xs : List Int} {n : Nat} (h : ZeroFrom p xs (n + 1)) (h0 : co (els p xs) n = 0) : ZeroFrom p xs n := fun i hi => by
  by_cases he : i = n
  · rw [he]; exact h0
  · exact h i (by omega)
theorem ZeroFrom.done {p : Nat} [NeZero p] {xs : List Int} {n : Nat} (h : ZeroFrom p xs n) (hn : n = 0 ∨ co (els p xs) (n - 1) ≠ 0) : degL (els p xs) = (n : Int) - 1 := by
  unfold degL
  rw [(trimAt_iff_co.2 ⟨h, hn⟩).length]

def DegRel (p : Nat) [NeZero p] (xs : List Int) (i : Value) : Prop := ∃ k : Nat, k ≤ xs.length ∧ i = vi ((k : Int) - 1) ∧ ZeroFrom p xs k
set_option maxHeartbeats 1000000 in
theorem degree_any (p : Nat) [NeZero p] (hp2 : p ≤ 2147483647) (b : Nat) (A : Option Addr) (cap : Nat) (xs : List Int) (hxs : ∀ n ∈ xs, I64 n) (hreach : xs.length * 8 ≤ 281474976710656) (w : World) (hc : w.cell? ⟨b, 0, none⟩ = some (vi p)) (hs : SL w A xs) :
    Calls Tryd.prog 47 #[.pointer (some ⟨b, 0, none⟩), .slice A xs.length cap] w fun e w' => e = .returned (vi (degL (els p xs))) ∧ w = w' := by
  obtain ⟨len, hlen⟩ : ∃ len, len = xs.length := ⟨_, rfl⟩
  rw [← hlen]
  rw [← hlen] at hreach
  have HL := Lib.hid hlen
  clear hlen
  go_enter Tryd.func47, Tryd.ntmps47
  go_wp2
  go_loop [5] (fun i => DegRel p xs i) (fun i => (intOf i + 1).toNat)
  case atStart => exact ⟨len, by rw [HL.out]; exact Nat.le_refl _, rfl, by rw [HL.out]; exact ZeroFrom.start p xs⟩
  case round =>
    obtain ⟨k, hk, rfl, hz⟩ := hrel
    rw [← HL.out] at hk
    have HZ := Lib.hid hz
    clear hz
    by_cases h0 : k = 0
    · subst h0
      have t1 : decide ((0 : Int) ≤ (((0 : Nat) : Int) - 1)) = false := by simp
      go_wp2
      go_ret
      exact ⟨ret_int (HZ.out.done (.inl rfl)).symm, rfl⟩
    · have i0 : (0 : Int) ≤ (k : Int) - 1 := by omega
      have i1 : (1 : Int) ≤ (k : Int) := by omega
      have i2 : ((k : Int) - 1).toNat = k - 1 := by omega
      have hkx : k - 1 < xs.length := by rw [← HL.out]; omega
      obtain ⟨ad, rfl, hab, hcell⟩ := hs.at_ hkx
      have hI := hxs _ (List.getElem_mem hkx)
      have hco : co (els p xs) (k - 1) = el p xs[k - 1] := by rw [co_of_lt (by simpa using hkx)]; simp
      obtain ⟨x, hx⟩ : ∃ x, x = xs[k - 1] := ⟨_, rfl⟩
      rw [← hx] at hI hcell hco
      have hcell' : w.cell? (ad.add ((k : Int) - 1).toNat) = some (vi x) := by rw [i2]; exact hcell
      have HC := Lib.hid hco
      clear hx hco i2
      by_cases hx0 : el p x = 0
      · have t1 : (fv (el p x) == 0) = true := by rw [hx0]; rfl
        have hz2 : ZeroFrom p xs (k - 1) := ZeroFrom.next (by rw [show k - 1 + 1 = k from by omega]; exact HZ.out) (by rw [HC.out]; exact hx0)
        have HZ2 := Lib.hid hz2
        clear hz2 hx0
        go_wp2_with (go_at_call 32; refine (of_el p hp2 b x hI _ hc).mono ?_; rintro e w' ⟨rfl, rfl⟩)
        go_round
        case rel => exact ⟨k - 1, by rw [← HL.out]; omega, by congr 1; omega, HZ2.out⟩
        case measure => simp [intOf]; omega
      · have t1 : (fv (el p x) == 0) = false := by rw [beq_eq_false_iff_ne]; exact fun h => hx0 (fv_eq_zero.1 h)
        have hd := HZ.out.done (.inr (by rw [HC.out]; exact hx0))
        have HD := Lib.hid hd
        clear hd hx0
        go_wp2_with (go_at_call 32; refine (of_el p hp2 b x hI _ hc).mono ?_; rintro e w' ⟨rfl, rfl⟩)
        go_ret
        exact ⟨ret_int HD.out.symm, rfl⟩
end Go.Proofs.YtiohededmcfhjaaDoor
