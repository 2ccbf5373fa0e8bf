/- Walks of the reference's domains: Fault, New; law2.made. -/
import Derived.Test.YtkhkoeibigpdnaaDoorSame
import Derived.Test.YtkhkoeibigpdnaaDoorRo
import Derived.Test.YtkhkoeibigpdnaaDoorDom
set_option linter.unusedVariables false
namespace Go.Proofs.YtkhkoeibigpdnaaDoor
open Go.RowKit Zp

/-- the fault of a domain by its number -/
noncomputable def faultI (q : Nat) (size t : Int) : Int := open Classical in if ∃ n : Nat, size = n ∧ SizeOk q n then (if t % (q : Int) = 0 then 3 else 0) else 2
theorem faultI_size {q : Nat} {size t : Int} (h : ¬ ∃ n : Nat, size = n ∧ SizeOk q n) : faultI q size t = 2 := by unfold faultI; rw [if_neg h]
theorem faultI_shift {q n : Nat} {t : Int} (h : SizeOk q n) (h0 : t % (q : Int) = 0) : faultI q n t = 3 := by unfold faultI; rw [if_pos ⟨n, rfl, h⟩, if_pos h0]
theorem faultI_ok {q n : Nat} {t : Int} (h : SizeOk q n) (h0 : ¬ t % (q : Int) = 0) : faultI q n t = 0 := by unfold faultI; rw [if_pos ⟨n, rfl, h⟩, if_neg h0]

def TwoRel (size : Int) (a b : Value) : Prop := ∃ (j N : Nat) (B : Bool), j ≤ 17 ∧ N = 2 ^ j ∧ a = .bool B ∧ b = vi N ∧ (B = true ↔ ∃ i, i < j ∧ size = ((2 ^ i : Nat) : Int))
set_option maxRecDepth 100000 in
set_option maxHeartbeats 2000000 in
theorem rfault_any (q : Nat) [NeZero q] (hq2 : 2 ≤ q) (hqm : q ≤ 2147483647) (size t : Int) (hs : I64 size) (ht : I64 t) (w : World) :
    Calls Tryd.prog 66 #[vi q, vi size, vi t] w fun e w' => e = .returned (vi (faultI q size t)) ∧ w = w' := by
  obtain ⟨F, hF⟩ : ∃ F, F = faultI q size t := ⟨_, rfl⟩
  rw [← hF]
  have HF := Lib.hid hF
  clear hF
  go_enter Tryd.func66, Tryd.ntmps66
  go_wp2
  go_loop [7, 8] (fun a b => TwoRel size a b) (fun _ b => 131073 - (intOf b).toNat)
  case atStart => exact ⟨0, 1, false, by omega, rfl, rfl, rfl, by simp⟩
  case round =>
    obtain ⟨j, N, tw, hj, hN, rfl, rfl, htw⟩ := hrel
    have HTW := Lib.hid htw
    clear htw
    by_cases hj16 : j ≤ 16
    · have hN2 : N ≤ 65536 := by rw [hN]; exact Nat.pow_le_pow_right (n := 2) (by omega) hj16
      have hN1 : 1 ≤ N := by rw [hN]; exact Nat.pow_pos (by omega)
      have hN3 : N * 2 = 2 ^ (j + 1) := by rw [hN, Nat.pow_succ]
      have HN3 := Lib.hid hN3
      have hiff : ∀ B : Bool, (B = true ↔ (tw = true ∨ (N : Int) = size)) → (B = true ↔ ∃ i, i < j + 1 ∧ size = ((2 ^ i : Nat) : Int)) := fun B hB => by
        rw [hB, HTW.out]
        constructor
        · rintro (⟨i, h1, h2⟩ | h1)
          · exact ⟨i, by omega, h2⟩
          · exact ⟨j, by omega, by rw [← hN]; exact h1.symm⟩
        · rintro ⟨i, h1, h2⟩
          by_cases hij : i = j
          · exact .inr (by rw [h2, hij, hN])
          · exact .inl ⟨i, by omega, h2⟩
      have HI := Lib.hid hiff
      clear hiff hN hN3
      cases tw with
      | true =>
        go_wp2
        go_round
        case rel => exact ⟨j + 1, N * 2, true, by omega, HN3.out, rfl, by go_num, HI.out true (by simp)⟩
        case measure => (simp [intOf] <;> omega)
      | false =>
        by_cases he : (N : Int) = size
        · have t1 : ((N : Int) == size) = true := by rw [beq_iff_eq]; exact he
          have HE := Lib.hid he
          clear he
          go_wp2
          go_round
          case rel => exact ⟨j + 1, N * 2, true, by omega, HN3.out, rfl, by go_num, HI.out true (by simp [HE.out])⟩
          case measure => (simp [intOf] <;> omega)
        · have t1 : ((N : Int) == size) = false := by rw [beq_eq_false_iff_ne]; exact he
          have HE := Lib.hid he
          clear he
          go_wp2
          go_round
          case rel => exact ⟨j + 1, N * 2, false, by omega, HN3.out, rfl, by go_num, HI.out false (by simp [HE.out])⟩
          case measure => (simp [intOf] <;> omega)
    · obtain rfl : j = 17 := by omega
      have hN17 : N = 131072 := by rw [hN]
      clear hN
      subst hN17
      cases tw with
      | false =>
        have hf : F = 2 := by
          rw [HF.out]
          refine faultI_size fun ⟨n, h1, ⟨⟨k, hk, h2⟩, _⟩⟩ => ?_
          have := HTW.out.2 ⟨k, by omega, by rw [h1, h2]⟩
          cases this
        have HF2 := Lib.hid hf
        clear hf
        go_wp2
        go_ret
        exact ⟨ret_int HF2.out.symm, rfl⟩
      | true =>
        have hex := HTW.out.1 rfl
        have hpos : ∃ n k : Nat, size = n ∧ n = 2 ^ k ∧ k ≤ 16 := by
          obtain ⟨i, h1, h2⟩ := hex
          exact ⟨_, i, h2, rfl, by omega⟩
        clear hex
        obtain ⟨n, k, rfl, hnk, hk⟩ := hpos
        have hn1 : 1 ≤ n := by rw [hnk]; exact Nat.pow_pos (by omega)
        have hn2 : n ≤ 65536 := by rw [hnk]; exact Nat.pow_le_pow_right (n := 2) (by omega) hk
        obtain ⟨r, hr⟩ : ∃ r, r = (q - 1) % n := ⟨_, rfl⟩
        have ep : (q : Int) - 1 = ((q - 1 : Nat) : Int) := by omega
        have e1 : ((q : Int) - 1).tmod n = (r : Int) := by rw [ep, Int.tmod_eq_emod_of_nonneg (by omega), hr]; omega
        have e2 : ((q : Int) - 1) % n = (r : Int) := by rw [ep, hr]; omega
        clear ep
        by_cases hr0 : r = 0
        · have hok : SizeOk q n := ⟨⟨k, hk, hnk⟩, Nat.dvd_of_mod_eq_zero (by omega)⟩
          have t1 : ((r : Int) != 0) = false := by rw [hr0]; rfl
          have hof := fun W => rof_any q hqm t ht W
          by_cases h0 : el q t = 0
          · have hf : F = 3 := by rw [HF.out]; exact faultI_shift hok (el_eq_zero.1 h0)
            have t2 : (fv (el q t) == 0) = true := by rw [h0]; rfl
            have HF2 := Lib.hid hf
            have HOF := Lib.hid hof
            clear hf hof hok hnk hr hr0 h0
            go_wp2_with fail
            refine (HOF.out _).mono ?_
            rintro e w' ⟨rfl, rfl⟩
            go_wp2
            go_ret
            exact ⟨ret_int HF2.out.symm, rfl⟩
          · have hf : F = 0 := by rw [HF.out]; exact faultI_ok hok (fun h => h0 (el_eq_zero.2 h))
            have t2 : (fv (el q t) == 0) = false := by rw [beq_eq_false_iff_ne]; exact fun h => h0 (fv_eq_zero.1 h)
            have HF2 := Lib.hid hf
            have HOF := Lib.hid hof
            clear hf hof hok hnk hr hr0 h0
            go_wp2_with fail
            refine (HOF.out _).mono ?_
            rintro e w' ⟨rfl, rfl⟩
            go_wp2
            go_ret
            exact ⟨ret_int HF2.out.symm, rfl⟩
        · have hf : F = 2 := by
            rw [HF.out]
            refine faultI_size fun ⟨m, h1, _, h2⟩ => ?_
            obtain rfl : n = m := by omega
            have := Nat.mod_eq_zero_of_dvd h2
            omega
          have t1 : ((r : Int) != 0) = true := by rw [bne_iff_ne]; omega
          have HF2 := Lib.hid hf
          clear hf hnk hr hr0
          go_wp2
          go_ret
          exact ⟨ret_int HF2.out.symm, rfl⟩

/-- a reference's domain -/
abbrev RDom (q n : Nat) (s r : Int) : Value := .agg #[vi q, vi n, vi s, vi r]

def GivesV (v : Value) (w : World) (e : Ending) (w' : World) : Prop := e = .returned v ∧ Below w.heap.size w w'
set_option maxHeartbeats 1000000 in
theorem rnew_any (q : Nat) [NeZero q] (hpr : IsPrime q) (h3 : 3 ≤ q) (hqm : q ≤ 2147483647) (n : Nat) (hn : n ≤ 65536) (t : Int) (ht : I64 t) (w : World) :
    Calls Tryd.prog 67 #[vi q, vi n, vi t] w fun e w' => GivesV (RDom q n (fv (el q t)) (fv (rootI q n))) w e w' := by
  have HR := Lib.hid (fun w => rroot_any q hpr h3 hqm n (by constructor <;> omega) w)
  have HO := Lib.hid (fun w => rof_any q hqm t ht w)
  generalize fv (rootI q n) = R at HR ⊢
  generalize fv (el q t) = T at HO ⊢
  clear hpr
  go_enter Tryd.func67, Tryd.ntmps67
  go_wp2_with fail
  refine (HR.out _).mono ?_
  rintro e w' ⟨rfl, rfl⟩
  go_wp2_with fail
  refine (HO.out _).mono ?_
  rintro e w' ⟨rfl, rfl⟩
  go_wp2
  exact bodyPost_ret (v := RDom q n T R) (by simp [results, Tryd.results67, go_sem]) rfl ⟨rfl, (Below.refl _ _).alloc (Nat.le_refl _) _⟩
end Go.Proofs.YtkhkoeibigpdnaaDoor
