/- The walk of the field's Root. -/
import Derived.Test.YtkhkoeibigpdnaaDoorFw4
import Derived.Test.YtkhkoeibigpdnaaDoorDm
import Derived.Test.YtkhkoeibigpdnaaDoorRound
import Derived.IntWalk
set_option linter.unusedVariables false
namespace Go.Proofs.YtkhkoeibigpdnaaDoor
open Go.RowKit Zp

theorem genN_lt {p : Nat} [NeZero p] (hp : IsPrime p) : genN p < p := (genN_is hp).2.1

set_option maxHeartbeats 1000000 in
theorem root_any (p : Nat) [NeZero p] (S b : Nat) (n : Int) (hn : I64 n) (w : World) (F : Fld w S b p) :
    Calls Tryd.prog 105 #[.pointer (some ⟨b, 0, none⟩), vi n] w fun e w' => e = .returned (vi (fv (rootI p n))) ∧ ∃ k, w' = w.drewN k := by
  have hc0 := F.c0
  have hc2 := F.c2
  have hp1 := F.two
  have hp2 := F.max
  have hg := genN_lt F.prime
  obtain ⟨hn1, hn2⟩ := hn
  obtain ⟨g, hgg⟩ : ∃ g, g = genN p := ⟨_, rfl⟩
  rw [← hgg] at hc2 hg
  have HG := Lib.hid hgg
  clear hgg F
  by_cases h0 : n ≤ 0
  · have hr := rootI_no (p := p) (n := n) (by omega)
    have HR := Lib.hid hr
    clear hr
    go_enter Tryd.func105, Tryd.ntmps105
    go_wp2
    go_ret
    exact ⟨ret_int (by rw [HR.out, fv_zero]), 0, rfl⟩
  · have hnz : ¬ n = 0 := by omega
    have hp0 : (0 : Int) ≤ (p : Int) - 1 := by omega
    have et : ((p : Int) - 1).tmod n = ((p : Int) - 1) % n := Int.tmod_eq_emod_of_nonneg hp0
    have eq_ : ((p : Int) - 1).tdiv n = ((p : Int) - 1) / n := Int.tdiv_eq_ediv_of_nonneg hp0
    by_cases hd : ((p : Int) - 1) % n = 0
    · have t1 : (((p : Int) - 1) % n != 0) = false := by rw [hd]; rfl
      have hr : rootI p n = pw (el p (g : Int)) (((p : Int) - 1) / n).toNat := by rw [rootI, if_pos ⟨by omega, hd⟩, HG.out]
      have HR := Lib.hid hr
      have d1 : 0 ≤ ((p : Int) - 1) / n := Int.ediv_nonneg hp0 (by omega)
      have d2 : ((p : Int) - 1) / n ≤ (p : Int) - 1 := Int.ediv_le_self _ hp0
      have hdI : I64 (((p : Int) - 1) / n) := ⟨by omega, by omega⟩
      have hgI : I64 (g : Int) := ⟨by omega, by omega⟩
      have HD := Lib.hid hd
      have d3 : IntKind.i64.wrap (((p : Int) - 1).tdiv n) = ((p : Int) - 1) / n := by rw [eq_]; exact IntWalk.i64_in _ hdI
      clear hd hr
      go_enter Tryd.func105, Tryd.ntmps105
      go_wp2
      go_quiet ((go_at_call 107; exact quiet_eq (power_any p hp1 hp2 b g _ hgI hdI d1 _ (by exact hc0))))
      go_wp2
      go_ret
      exact ⟨ret_int (by rw [HR.out]), _, rfl⟩
    · have t1 : (((p : Int) - 1) % n != 0) = true := by rw [bne_iff_ne]; exact hd
      have hr := rootI_no (p := p) (n := n) (by rintro ⟨_, h⟩; exact hd h)
      have HR := Lib.hid hr
      clear hr hd eq_
      go_enter Tryd.func105, Tryd.ntmps105
      go_wp2
      go_ret
      exact ⟨ret_int (by rw [HR.out, fv_zero]), 0, rfl⟩
end Go.Proofs.YtkhkoeibigpdnaaDoor
