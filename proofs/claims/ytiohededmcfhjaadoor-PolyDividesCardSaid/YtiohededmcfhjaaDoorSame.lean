/- Walks: plain.Told, same.Error, the reference's Prime, same.Field. -/
import Derived.Test.YtiohededmcfhjaaDoorTold
import Derived.Test.YtiohededmcfhjaaDoorLv1
set_option linter.unusedVariables false
namespace Go.Proofs.YtiohededmcfhjaaDoor
open Go.RowKit Zp

/-- what the variable errors.errorType holds -/
def Typed (w : World) : Prop := w.cell? ⟨0, 0, none⟩ = some (.iface 87 (.agg #[.pointer (some ⟨1, 27, none⟩)]))
theorem Typed.below {w w' : World} (h : Typed w) (hb : Below w.heap.size w w') : Typed w' := (hb.cell (p := ⟨0, 0, none⟩) (block_lt_of_cell h)).trans h
theorem Typed.drewN {w : World} (h : Typed w) (k : Nat) : Typed (w.drewN k) := h

/-- an error of package api by its number -/
def errV (k : Int) : Value := if k = 0 then .nilIface else .iface 48 (.int .i64 k)
theorem errV_zero : errV 0 = .nilIface := rfl
theorem errV_ne {k : Int} (h : k ≠ 0) : errV k = .iface 48 (.int .i64 k) := if_neg h

theorem told_nil (w : World) : Calls Tryd.prog 28 #[.nilIface] w fun e w' => e = .returned (vi 0) ∧ w = w' := by
  go_enter Tryd.func28, Tryd.ntmps28
  go_wp2
  go_ret
  exact ⟨rfl, rfl⟩

set_option maxHeartbeats 1000000 in
theorem told_errno (k : Int) (w : World) (hg : Typed w) :
    Calls Tryd.prog 28 #[.iface 48 (.int .i64 k)] w fun e w' => SaysW (vi k) w e w' := by
  have hgl := block_lt_of_cell hg
  have hgA : (w.alloc (.cells #[vi 0] 48)).cell? ⟨0, 0, none⟩ = some (.iface 87 (.agg #[.pointer (some ⟨1, 27, none⟩)])) := by
    rw [World.cell?_alloc_lt _ _ ⟨0, 0, none⟩ hgl]; exact hg
  have htA : (w.alloc (.cells #[vi 0] 48)).cell? ⟨w.heap.size, 0, none⟩ = some (vi 0) := by simp
  have hfA : (w.alloc (.cells #[vi 0] 48)).frozen? ⟨w.heap.size, 0, none⟩ = false := by simp
  have hbA : Below w.heap.size w (w.alloc (.cells #[vi 0] 48)) := (Below.refl _ _).alloc (Nat.le_refl _) _
  have hs1 : w.heap.size < (w.alloc (.cells #[vi 0] 48)).heap.size := by simp
  have has := as_hit k ⟨w.heap.size, 0, none⟩ (vi 0) _ hgA htA hfA
  have has2 : Calls Tryd.prog 49 #[.iface 48 (.int .i64 k), .iface 65 (.pointer (some ⟨w.heap.size, 0, none⟩))] (w.alloc (.cells #[vi 0] 48)) fun e w' => e = .returned (.bool true) ∧ Below w.heap.size w w' ∧ w'.cell? ⟨w.heap.size, 0, none⟩ = some (vi k) :=
    has.mono fun e w' ⟨h1, h2⟩ => ⟨h1, by
      rw [h2]
      refine Below.setCell ?_ (by simp) _
      exact (((hbA.alloc (by omega) _).alloc (by simp <;> omega) _).alloc (by simp <;> omega) _).alloc (by simp <;> omega) _, by
      rw [h2]
      refine World.cell?_setCell_same _ _ _ (u := vi 0) ?_
      rw [World.cell?_alloc_lt _ _ _ (by simp <;> omega), World.cell?_alloc_lt _ _ _ (by simp <;> omega), World.cell?_alloc_lt _ _ _ (by simp <;> omega), World.cell?_alloc_lt _ _ _ (by simp <;> omega)]
      exact htA⟩
  have HAS := Lib.hid has2
  clear has has2 hgA hfA htA
  go_enter Tryd.func28, Tryd.ntmps28
  go_wp2_with fail
  refine (HAS.out).mono ?_
  rintro e w1 ⟨rfl, hb1, hc1⟩
  go_wp2
  go_ret
  exact ⟨rfl, hb1⟩

theorem told_any (k : Int) (w : World) (hg : Typed w) : Calls Tryd.prog 28 #[errV k] w fun e w' => SaysW (vi k) w e w' := by
  by_cases h : k = 0
  · subst h
    exact (told_nil w).mono fun e w' ⟨h1, h2⟩ => ⟨h1, h2 ▸ Below.refl _ _⟩
  · rw [errV_ne h]
    exact told_errno k w hg

/-- a test on two ints behind a name -/
def eqI (a b : Int) : Bool := a == b
set_option maxHeartbeats 1000000 in
theorem error_any (k e : Int) (w : World) (hg : Typed w) : Calls Tryd.prog 9 #[errV k, vi e] w fun x w' => SaysW (.bool (k == e)) w x w' := by
  have ht := Lib.hid (told_any k w hg)
  generalize errV k = v at ht
  obtain ⟨B, hB⟩ : ∃ B, (k == e) = B := ⟨_, rfl⟩
  rw [hB]
  go_enter Tryd.func9, Tryd.ntmps9
  go_wp2_with fail
  refine (ht.out).mono ?_
  rintro x w1 ⟨rfl, hb1⟩
  go_wp2
  go_ret
  exact ⟨rfl, hb1⟩


theorem rprime_no (p : Int) (hp : I64 p) (h : p < 3 ∨ 2147483647 < p) (w : World) : Calls Tryd.prog 22 #[vi p] w fun e w' => e = .returned (.bool false) ∧ w = w' := by
  rcases h with h | h
  · go_enter Tryd.func22, Tryd.ntmps22
    go_wp2
    go_ret
    exact ⟨rfl, rfl⟩
  · go_enter Tryd.func22, Tryd.ntmps22
    go_wp2
    go_ret
    exact ⟨rfl, rfl⟩
set_option maxHeartbeats 400000 in
theorem rprime_nat (p : Nat) (hp1 : 3 ≤ p) (hp2 : p ≤ 2147483647) (w : World) :
    Calls Tryd.prog 22 #[vi p] w fun e w' => e = .returned (.bool (primeB p)) ∧ w = w' := by
  go_enter Tryd.func22, Tryd.ntmps22
  go_wp2
  go_loop [3] (fun d => ∃ k : Nat, 2 ≤ k ∧ k ≤ p ∧ d = vi k ∧ NoDiv p k) (fun d => p - (intOf d).toNat)
  case atStart => exact ⟨2, by omega, by omega, rfl, noDiv_two _⟩
  case round =>
    obtain ⟨k, hk1, hk2, rfl, hno⟩ := hrel
    have ec : (k : Int) * k = ((k * k : Nat) : Int) := by rw [Int.natCast_mul]
    have em : (p : Int) % k = ((p % k : Nat) : Int) := by rw [Int.natCast_emod]
    have h1 : (k : Int) * k ≤ 4611686014132420609 := by
      have : k * k ≤ 2147483647 * 2147483647 := Nat.mul_le_mul (by omega) (by omega)
      rw [ec]; omega
    have h0 : (0 : Int) ≤ (k : Int) * k := by rw [ec]; omega
    have hkk : k ≤ k * k := Nat.le_mul_of_pos_left k (by omega)
    have hk2' : 2 * k ≤ k * k := Nat.mul_le_mul_right k hk1
    have EC := Lib.hid ec
    have EM := Lib.hid em
    have HKK := Lib.hid hkk
    have HKK2 := Lib.hid hk2'
    clear ec em hkk hk2'
    go_wp2
    · have ht : (k : Int) * k ≤ p := by assumption
      have hd : ((p : Int) % k == 0) = true := by assumption
      rw [beq_iff_eq, EM.out] at hd
      rw [EC.out] at ht
      go_ret
      exact ⟨ret_bool (primeB_false (not_prime_of_dvd hk1 (by omega) (Nat.dvd_of_mod_eq_zero (by omega)))).symm, rfl⟩
    · have ht : (k : Int) * k ≤ p := by assumption
      have hd : ((p : Int) % k == 0) = false := by assumption
      rw [beq_eq_false_iff_ne, EM.out] at hd
      rw [EC.out] at ht
      have := HKK.out
      have := HKK2.out
      go_round
      case rel => exact ⟨k + 1, by omega, by omega, by go_num, hno.succ (fun h => hd (by rw [Nat.mod_eq_zero_of_dvd h]; rfl))⟩
      case measure => simp [intOf]; omega
    · have ht : (p : Int) < (k : Int) * k := by assumption
      rw [EC.out] at ht
      go_ret
      exact ⟨ret_bool (by rw [primeB_true (hno.prime (by omega) (by omega))]), rfl⟩
theorem rprime_no' (p : Int) (hp : I64 p) (h : ¬ HasField p) (w : World) : Calls Tryd.prog 22 #[vi p] w fun e w' => e = .returned (.bool false) ∧ w = w' := by
  by_cases h1 : p < 3 ∨ 2147483647 < p
  · exact rprime_no p hp h1 w
  · obtain ⟨q, rfl⟩ := Int.eq_ofNat_of_zero_le (a := p) (by omega)
    have h2 := rprime_nat q (by omega) (by omega) w
    rw [primeB_false (fun hq => h ⟨by omega, by omega, by rw [Int.toNat_natCast]; exact hq⟩)] at h2
    exact h2

theorem Fld.moreS {w : World} {S S' b p : Nat} [NeZero p] (h : Fld w S b p) (h1 : S ≤ S') (h2 : S' ≤ w.heap.size) : Fld w S' b p := by
  obtain ⟨A, c, fs, a1, a2, a3, a4⟩ := h.c1
  exact ⟨h.prime, h.three, h.max, Nat.lt_of_lt_of_le h.lt h1, h2, h.c0, ⟨A, c, fs, a1, a2, a3, a4.more h1⟩, h.c2⟩
theorem sfield_no (p : Int) (hp : I64 p) (h : ¬ HasField p) (w : World) (hg : Typed w) :
    Calls Tryd.prog 6 #[vi p] w fun e w' => SaysW (.tuple #[.pointer none, .bool true]) w e w' := by
  have HN := Lib.hid (new_none p w h)
  have HR := Lib.hid (rprime_no' p hp h w)
  have he := error_any 1 1 w hg
  rw [errV_ne (by decide), show ((1 : Int) == 1) = true from rfl] at he
  have HE := Lib.hid he
  clear h he
  go_enter Tryd.func6, Tryd.ntmps6
  go_wp2_with fail
  refine (HN.out).mono ?_
  rintro e w' ⟨rfl, rfl⟩
  go_wp2_with fail
  refine (HR.out).mono ?_
  rintro e w' ⟨rfl, rfl⟩
  go_wp2_with fail
  refine (HE.out).mono ?_
  rintro e w1 ⟨rfl, hb1⟩
  go_wp2
  go_ret2
  exact ⟨rfl, hb1⟩

/-- the field, and that the program says so too -/
def FieldRight (q : Nat) [NeZero q] (w : World) (e : Ending) (w' : World) : Prop :=
  ∃ b : Nat, e = .returned (.tuple #[.pointer (some ⟨b, 0, none⟩), .bool true]) ∧ Fld w' w'.heap.size b q ∧ Below w.heap.size w w'
theorem sfield_yes (q : Nat) [NeZero q] (h3 : 3 ≤ q) (hm : q ≤ 2147483647) (hpr : IsPrime q) (w : World) (hg : Typed w) :
    Calls Tryd.prog 6 #[vi q] w fun e w' => FieldRight q w e w' := by
  have HN := Lib.hid (new_prime q w h3 hm hpr)
  have hr := fun w => rprime_nat q h3 hm w
  rw [primeB_true hpr] at hr
  have HR := Lib.hid hr
  have he := fun w hg => error_any 0 0 w hg
  rw [errV_zero, show ((0 : Int) == 0) = true from rfl] at he
  have HE := Lib.hid he
  clear hpr he hr
  go_enter Tryd.func6, Tryd.ntmps6
  go_wp2_with fail
  refine (HN.out).mono ?_
  rintro e w1 ⟨b, rfl, F, hb1, _⟩
  go_wp2_with fail
  refine (HR.out _).mono ?_
  rintro e w' ⟨rfl, rfl⟩
  go_wp2_with fail
  refine (HE.out _ (hg.below hb1)).mono ?_
  rintro e w2 ⟨rfl, hb2⟩
  go_wp2
  go_ret2
  exact ⟨b, rfl, F.below hb2 (Nat.le_refl _) |>.moreS hb2.size (Nat.le_refl _), hb1.trans (hb2.mono hb1.size)⟩
end Go.Proofs.YtiohededmcfhjaaDoor
