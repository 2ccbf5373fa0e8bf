/- Walks: sums.checked. -/
import Derived.Test.YtehgeiaglddabaaSm4
import Derived.Test.YtehgeiaglddabaaEach
set_option linter.unusedVariables false
namespace Go.Proofs.Ytehgeiaglddabaa
open Go.RowKit Zp

theorem varsI_I64 (n : Nat) : I64 (varsI n) := by
  by_cases h : IsCube n
  · obtain ⟨v, hv⟩ := h
    rw [varsI_of hv]
    have := hv.1
    constructor <;> omega
  · rw [varsI_no h]; constructor <;> decide
theorem variables_any (A : Option Addr) (n cap : Nat) (hn : n < 9223372036854775808) (w : World) :
    Calls Try.prog 63 #[.slice A n cap] w fun e w' => e = .returned (vi (varsI n)) ∧ w = w' := by
  by_cases h : IsCube n
  · obtain ⟨v, hv⟩ := h
    rw [varsI_of hv]
    exact variables_yes A n cap v hv w
  · rw [varsI_no h]
    exact variables_no A n cap hn h w

set_option maxRecDepth 100000 in
theorem chk1_any (A : Option Addr) (n c : Nat) (hn : n < 9223372036854775808) (V : Nat) (v : Int) (hv : I64 v) (w : World) (hcV : w.cell? ⟨V, 0, none⟩ = some (vi v)) :
    Calls Try.prog 82 #[.slice A n c, .pointer (some ⟨V, 0, none⟩)] w fun e w' => e = .returned (.bool (varsI n != v)) ∧ ∃ k, w' = w.drewN k := by
  have hvar := Lib.hid (fun W => variables_any A n c hn W)
  obtain ⟨u, hu⟩ : ∃ u, u = varsI n := ⟨_, rfl⟩
  rw [← hu] at hvar ⊢
  clear hu
  go_enter Try.func82, Try.ntmps82
  go_wp2
  go_quiet ((go_at_call 63; exact quiet_eq (hvar.out _)))
  go_wp2
  go_ret
  exact ⟨rfl, _, rfl⟩

set_option maxRecDepth 100000 in
set_option maxHeartbeats 1000000 in
theorem indexf_any (A : Option Addr) (d c : Nat) (ts : List (List Int)) (hd : ts.length = d) (hd2 : d ≤ 4) (V : Nat) (v : Int) (hv : I64 v) (w : World) (hcV : w.cell? ⟨V, 0, none⟩ = some (vi v)) (hs : TB w A ts) :
    Calls Try.prog 93 #[.slice A d c, .func (.func 82) #[] #[.pointer (some ⟨V, 0, none⟩)]] w fun e w' => (∃ r, e = .returned (vi r) ∧ ((0 ≤ r ∧ ¬ ∀ t ∈ ts, varsI t.length = v) ∨ (r < 0 ∧ ∀ t ∈ ts, varsI t.length = v))) ∧ ∃ k, w' = w.drewN k := by
  have HD := Lib.hid hd
  have hK := callFunc_enters Try.func82 (by kernel_rfl) (by kernel_rfl)
  clear hd
  go_enter Try.func93, Try.ntmps93
  go_wp2
  go_loopw [8] (fun i wr => ∃ k m : Nat, k ≤ d ∧ i = vi k ∧ (∀ j (hj : j < ts.length), j < k → varsI ts[j].length = v) ∧ wr = w.drewN m) (fun i _ => d - (intOf i).toNat)
  case atStart => exact ⟨0, 0, Nat.zero_le _, rfl, fun j _ h => absurd h (by omega), rfl⟩
  case round =>
    obtain ⟨k, m, hk, rfl, hall, rfl⟩ := hrel
    have HALL := Lib.hid hall
    clear hall
    by_cases hkd : k < d
    · have hkt : k < ts.length := by rw [HD.out]; exact hkd
      obtain ⟨a0, A1, n1, c1, rfl, z1, hc1, hl1, hb1, z2, z3⟩ := hs k hkt
      have hc1' : (w.drewN m).cell? (a0.add k) = some (.slice A1 n1 c1) := hc1
      have hcall := chk1_any A1 n1 c1 hb1 V v hv (w.drewN m) hcV
      have HL := Lib.hid hl1
      cases hq : (varsI n1 != v)
      · rw [hq] at hcall
        have hq' : varsI n1 = v := by simpa using hq
        have HQ := Lib.hid hq'
        have HC := Lib.hid hcall
        clear hl1 hq hq' hcall z1 z2 z3
        go_wp2_with fail
        refine (HC.out).mono ?_
        rintro e w' ⟨rfl, m2, rfl⟩
        go_wp2
        go_roundw
        case rel =>
          refine ⟨k + 1, m + m2, by omega, by go_num, fun j hj hlt => ?_, rfl⟩
          by_cases e : j = k
          · subst e; rw [HL.out, HQ.out]
          · exact HALL.out j hj (by omega)
        case measure => simp [intOf]; omega
      · rw [hq] at hcall
        have hq' : ¬ varsI n1 = v := by simpa using hq
        have HQ := Lib.hid hq'
        have HC := Lib.hid hcall
        clear hl1 hq hq' hcall z1 z2 z3
        go_wp2_with fail
        refine (HC.out).mono ?_
        rintro e w' ⟨rfl, m2, rfl⟩
        go_wp2
        go_ret
        exact ⟨⟨k, rfl, .inl ⟨by omega, fun h => HQ.out (by rw [← HL.out]; exact h _ (List.getElem_mem hkt))⟩⟩, m + m2, rfl⟩
    · obtain rfl : k = d := by omega
      go_wp2
      go_ret
      refine ⟨⟨-1, rfl, .inr ⟨by omega, fun t ht => ?_⟩⟩, _, rfl⟩
      obtain ⟨j, hj, rfl⟩ := List.getElem_of_mem ht
      exact HALL.out j hj (by rw [← HD.out]; exact hj)
end Go.Proofs.Ytehgeiaglddabaa
