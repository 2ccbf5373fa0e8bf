/- Walks: bits.Len of powers of two, sums.variables. -/
import Derived.Test.YtkhkoeibigpdnaaDoorVals
import Derived.Test.YtkhkoeibigpdnaaDoorSx
set_option linter.unusedVariables false
namespace Go.Proofs.YtkhkoeibigpdnaaDoor
open Go.RowKit Zp

set_option maxRecDepth 1000000 in
set_option maxHeartbeats 1000000 in
theorem len64_0 (w : World) :
    Calls Tryd.prog 133 #[.int .u64 1] w fun e w' => e = .returned (vi 1) ∧ w = w' := by
  go_enter Tryd.func133, Tryd.ntmps133
  go_wp2
  go_ret
  exact ⟨ret_int (by kernel_rfl), rfl⟩
set_option maxRecDepth 1000000 in
set_option maxHeartbeats 1000000 in
theorem len64_1 (w : World) :
    Calls Tryd.prog 133 #[.int .u64 2] w fun e w' => e = .returned (vi 2) ∧ w = w' := by
  go_enter Tryd.func133, Tryd.ntmps133
  go_wp2
  go_ret
  exact ⟨ret_int (by kernel_rfl), rfl⟩
set_option maxRecDepth 1000000 in
set_option maxHeartbeats 1000000 in
theorem len64_2 (w : World) :
    Calls Tryd.prog 133 #[.int .u64 4] w fun e w' => e = .returned (vi 3) ∧ w = w' := by
  go_enter Tryd.func133, Tryd.ntmps133
  go_wp2
  go_ret
  exact ⟨ret_int (by kernel_rfl), rfl⟩
set_option maxRecDepth 1000000 in
set_option maxHeartbeats 1000000 in
theorem len64_3 (w : World) :
    Calls Tryd.prog 133 #[.int .u64 8] w fun e w' => e = .returned (vi 4) ∧ w = w' := by
  go_enter Tryd.func133, Tryd.ntmps133
  go_wp2
  go_ret
  exact ⟨ret_int (by kernel_rfl), rfl⟩
set_option maxRecDepth 1000000 in
set_option maxHeartbeats 1000000 in
theorem len64_4 (w : World) :
    Calls Tryd.prog 133 #[.int .u64 16] w fun e w' => e = .returned (vi 5) ∧ w = w' := by
  go_enter Tryd.func133, Tryd.ntmps133
  go_wp2
  go_ret
  exact ⟨ret_int (by kernel_rfl), rfl⟩
set_option maxRecDepth 1000000 in
set_option maxHeartbeats 1000000 in
theorem len64_5 (w : World) :
    Calls Tryd.prog 133 #[.int .u64 32] w fun e w' => e = .returned (vi 6) ∧ w = w' := by
  go_enter Tryd.func133, Tryd.ntmps133
  go_wp2
  go_ret
  exact ⟨ret_int (by kernel_rfl), rfl⟩
set_option maxRecDepth 1000000 in
set_option maxHeartbeats 1000000 in
theorem len64_6 (w : World) :
    Calls Tryd.prog 133 #[.int .u64 64] w fun e w' => e = .returned (vi 7) ∧ w = w' := by
  go_enter Tryd.func133, Tryd.ntmps133
  go_wp2
  go_ret
  exact ⟨ret_int (by kernel_rfl), rfl⟩
set_option maxRecDepth 1000000 in
set_option maxHeartbeats 1000000 in
theorem len64_7 (w : World) :
    Calls Tryd.prog 133 #[.int .u64 128] w fun e w' => e = .returned (vi 8) ∧ w = w' := by
  go_enter Tryd.func133, Tryd.ntmps133
  go_wp2
  go_ret
  exact ⟨ret_int (by kernel_rfl), rfl⟩
set_option maxRecDepth 1000000 in
set_option maxHeartbeats 1000000 in
theorem len64_8 (w : World) :
    Calls Tryd.prog 133 #[.int .u64 256] w fun e w' => e = .returned (vi 9) ∧ w = w' := by
  go_enter Tryd.func133, Tryd.ntmps133
  go_wp2
  go_ret
  exact ⟨ret_int (by kernel_rfl), rfl⟩
set_option maxRecDepth 1000000 in
set_option maxHeartbeats 1000000 in
theorem len64_9 (w : World) :
    Calls Tryd.prog 133 #[.int .u64 512] w fun e w' => e = .returned (vi 10) ∧ w = w' := by
  go_enter Tryd.func133, Tryd.ntmps133
  go_wp2
  go_ret
  exact ⟨ret_int (by kernel_rfl), rfl⟩
set_option maxRecDepth 1000000 in
set_option maxHeartbeats 1000000 in
theorem len64_10 (w : World) :
    Calls Tryd.prog 133 #[.int .u64 1024] w fun e w' => e = .returned (vi 11) ∧ w = w' := by
  go_enter Tryd.func133, Tryd.ntmps133
  go_wp2
  go_ret
  exact ⟨ret_int (by kernel_rfl), rfl⟩
set_option maxRecDepth 1000000 in
set_option maxHeartbeats 1000000 in
theorem len64_11 (w : World) :
    Calls Tryd.prog 133 #[.int .u64 2048] w fun e w' => e = .returned (vi 12) ∧ w = w' := by
  go_enter Tryd.func133, Tryd.ntmps133
  go_wp2
  go_ret
  exact ⟨ret_int (by kernel_rfl), rfl⟩
set_option maxRecDepth 1000000 in
set_option maxHeartbeats 1000000 in
theorem len64_12 (w : World) :
    Calls Tryd.prog 133 #[.int .u64 4096] w fun e w' => e = .returned (vi 13) ∧ w = w' := by
  go_enter Tryd.func133, Tryd.ntmps133
  go_wp2
  go_ret
  exact ⟨ret_int (by kernel_rfl), rfl⟩
theorem len_pow (n v : Nat) (h : Cube n v) (w : World) :
    Calls Tryd.prog 115 #[.int .u64 n] w fun e w' => e = .returned (vi ((v : Int) + 1)) ∧ w = w' := by
  obtain ⟨hv, rfl⟩ := h
  have H : ∀ W, Calls Tryd.prog 133 #[.int .u64 ((2 ^ v : Nat) : Int)] W fun e w' => e = .returned (vi ((v : Int) + 1)) ∧ W = w' := by
    intro W
    rcases v with _ | _ | _ | _ | _ | _ | _ | _ | _ | _ | _ | _ | _ | v
    · exact len64_0 W
    · exact len64_1 W
    · exact len64_2 W
    · exact len64_3 W
    · exact len64_4 W
    · exact len64_5 W
    · exact len64_6 W
    · exact len64_7 W
    · exact len64_8 W
    · exact len64_9 W
    · exact len64_10 W
    · exact len64_11 W
    · exact len64_12 W
    · omega
  obtain ⟨n, hn⟩ : ∃ n, n = 2 ^ v := ⟨_, rfl⟩
  rw [← hn] at H ⊢
  have h1 : 1 ≤ n := by rw [hn]; exact Nat.pow_pos (by omega)
  have h2 : n ≤ 4096 := by rw [hn]; exact Nat.pow_le_pow_right (n := 2) (by omega) hv
  have h3 := Lib.hid H
  clear H hn
  go_enter Tryd.func115, Tryd.ntmps115
  go_wp2_with fail
  refine (h3.out _).mono ?_
  rintro e w' ⟨rfl, rfl⟩
  go_wp2
  go_ret
  exact ⟨rfl, rfl⟩

theorem variables_yes (A : Option Addr) (n cap v : Nat) (h : Cube n v) (w : World) :
    Calls Tryd.prog 84 #[.slice A n cap] w fun e w' => e = .returned (vi (v : Int)) ∧ w = w' := by
  have h1 := h.pos
  have h2 := h.le
  have hv := h.1
  have t0 : ((n : Int) == 0) = false := by rw [beq_eq_false_iff_ne]; omega
  have t1 : (bits .and .i64 (n : Int) ((n : Int) - 1) != 0) = false := by rw [and_pred n h1 (by omega), h.and]; rfl
  have hl := Lib.hid (len_pow n v h)
  clear h
  go_enter Tryd.func84, Tryd.ntmps84
  go_wp2_with fail
  refine (hl.out _).mono ?_
  rintro e w' ⟨rfl, rfl⟩
  go_wp2
  go_ret
  exact ⟨ret_int (by omega), rfl⟩

theorem variables_no (A : Option Addr) (n cap : Nat) (hn : n < 9223372036854775808) (h : ¬ IsCube n) (w : World) :
    Calls Tryd.prog 84 #[.slice A n cap] w fun e w' => e = .returned (vi (-1)) ∧ w = w' := by
  rw [isCube_iff] at h
  by_cases h1 : n = 0
  · have t0 : ((n : Int) == 0) = true := by rw [h1]; rfl
    clear h h1
    go_enter Tryd.func84, Tryd.ntmps84
    go_wp2
    go_ret
    exact ⟨rfl, rfl⟩
  · have t0 : ((n : Int) == 0) = false := by rw [beq_eq_false_iff_ne]; omega
    by_cases h2 : n ≤ 4096
    · have ha := and_pred n (by omega) (by omega)
      have t1 : (bits .and .i64 (n : Int) ((n : Int) - 1) != 0) = true := by
        rw [ha, bne_iff_ne]
        intro e
        exact h ⟨by omega, by omega, h2⟩
      clear h h1 ha
      go_enter Tryd.func84, Tryd.ntmps84
      go_wp2
      go_ret
      exact ⟨rfl, rfl⟩
    · have h3 : 4096 < n := by omega
      have hw : IntKind.i64.wrap ((n : Int) - 1) = (n : Int) - 1 := IntWalk.i64_in _ (by constructor <;> omega)
      clear h h1 h2
      cases t1 : (bits .and .i64 (n : Int) ((n : Int) - 1) != 0)
      · go_enter Tryd.func84, Tryd.ntmps84
        go_wp2
        go_ret
        exact ⟨rfl, rfl⟩
      · go_enter Tryd.func84, Tryd.ntmps84
        go_wp2
        go_ret
        exact ⟨rfl, rfl⟩
end Go.Proofs.YtkhkoeibigpdnaaDoor
