/- Walks: attestlaw4's plain and lives. -/
import Derived.Test.YtehgeiaglddabaaLv2
import Derived.Test.YtehgeiaglddabaaSm6
set_option linter.unusedVariables false
namespace Go.Proofs.Ytehgeiaglddabaa
open Go.RowKit Zp

theorem plain4_no (p : Int) (hF : ¬ HasField p) (w : World) :
    Calls Try.prog 30 #[vi p] w fun e w' => e = .returned (.pointer none) ∧ w = w' := by
  have HN := Lib.hid (new_none p w hF)
  clear hF
  go_enter Try.func30, Try.ntmps30
  go_wp2_with fail
  refine (HN.out).mono ?_
  rintro e w1 ⟨rfl, rfl⟩
  go_wp2
  go_ret
  exact ⟨rfl, rfl⟩

theorem plain4_yes (q : Nat) [NeZero q] (h3 : 3 ≤ q) (hm : q ≤ 2147483647) (hpr : IsPrime q) (w : World) :
    Calls Try.prog 30 #[vi q] w fun e w' => ∃ b : Nat, e = .returned (.pointer (some ⟨b, 0, none⟩)) ∧ Fld w' w'.heap.size b q ∧ Below w.heap.size w w' := by
  have HN := Lib.hid (new_prime q w (by omega) (by omega) hpr)
  clear hpr
  go_enter Try.func30, Try.ntmps30
  go_wp2_with fail
  refine (HN.out).mono ?_
  rintro e w1 ⟨b, rfl, F, hbel, _⟩
  go_wp2
  go_ret
  exact ⟨b, rfl, F, hbel⟩

/-- a literal of tables -/
theorem tb_lit (w : World) (t : TypeId) (us : List Value) (ts : List (List Int)) (h : ∀ k (hk : k < ts.length), ∃ A n c, us[k]? = some (.slice A n c) ∧ ts[k].length = n ∧ n < 9223372036854775808 ∧ SL w A ts[k] ∧ ∀ x ∈ ts[k], I64 x) :
    TB (w.alloc (.cells us.toArray t)) (some ⟨w.heap.size, 0, none⟩) ts := fun k hk => by
  obtain ⟨A, n, c, h1, h2, h3, h4, h5⟩ := h k hk
  have e : (⟨w.heap.size, 0, none⟩ : Addr).add k = ⟨w.heap.size, k, none⟩ := by simp [Addr.add]; intro h; exact h.symm
  refine ⟨_, A, n, c, rfl, by rw [e]; simp, ?_, h2, h3, h4.below ((Below.refl _ w).alloc (Nat.le_refl _) _), h5⟩
  rw [e, (Blk.new w t us.toArray).cell]
  simpa using h1

theorem tot17 : fv (totP (p := 17) 2 (2 ^ 2) (tabOf 17 [[1, 2, 3, 4], [1, 1, 0, 2]])) = 11 := by decide
set_option maxRecDepth 100000 in
set_option maxHeartbeats 1000000 in
theorem lives4_any (w : World) : Calls Try.prog 29 #[] w fun e w' => SaysW (.bool true) w e w' := by
  have hp17 : IsPrime 17 := prime17
  have HN := Lib.hid (plain4_yes 17 (by omega) (by omega) hp17 w)
  go_enter Try.func29, Try.ntmps29
  go_wp2_with fail
  refine (HN.out).mono ?_
  rintro e w1 ⟨b, rfl, F, hb⟩
  go_wp2_with fail
  have b1 : Below w1.heap.size w1 (w1.alloc (.cells #[vi 1, vi 2, vi 3, vi 4] 3)) := (Below.refl _ _).alloc (Nat.le_refl _) _
  have s1 : SL (w1.alloc (.cells #[vi 1, vi 2, vi 3, vi 4] 3)) (some ⟨w1.heap.size, 0, none⟩) [1, 2, 3, 4] := sl_lit w1 [1, 2, 3, 4]
  generalize hw2 : w1.alloc (.cells #[vi 1, vi 2, vi 3, vi 4] 3) = w2 at b1 s1 ⊢
  have z2 : w2.heap.size = w1.heap.size + 1 := by rw [← hw2]; simp
  have b2 : Below w2.heap.size w2 (w2.alloc (.cells #[vi 1, vi 1, vi 0, vi 2] 3)) := (Below.refl _ _).alloc (Nat.le_refl _) _
  have s2 : SL (w2.alloc (.cells #[vi 1, vi 1, vi 0, vi 2] 3)) (some ⟨w2.heap.size, 0, none⟩) [1, 1, 0, 2] := sl_lit w2 [1, 1, 0, 2]
  generalize hw3 : w2.alloc (.cells #[vi 1, vi 1, vi 0, vi 2] 3) = w3 at b2 s2 ⊢
  have z3 : w3.heap.size = w1.heap.size + 1 + 1 := by rw [← hw3]; simp [z2]
  have b3 : Below w3.heap.size w3 (w3.alloc (.cells #[.slice (some ⟨w1.heap.size, 0, none⟩) 4 4, .slice (some ⟨w2.heap.size, 0, none⟩) 4 4] 22)) := (Below.refl _ _).alloc (Nat.le_refl _) _
  have htb := tb_lit w3 22 [.slice (some ⟨w1.heap.size, 0, none⟩) 4 4, .slice (some ⟨w2.heap.size, 0, none⟩) 4 4] [[1, 2, 3, 4], [1, 1, 0, 2]] (by
    intro k hk
    match k, hk with
    | 0, _ => exact ⟨_, _, _, rfl, rfl, by omega, s1.below b2, by simp; decide⟩
    | 1, _ => exact ⟨_, _, _, rfl, rfl, by omega, s2, by simp; decide⟩)
  have hov : Over [[1, 2, 3, 4], [1, 1, 0, 2]] 2 := by
    intro t ht
    simp only [List.mem_cons, List.not_mem_nil, or_false] at ht
    rcases ht with rfl | rfl <;> exact ⟨by omega, rfl⟩
  have hbb := (b1.trans (b2.mono b1.size)).trans (b3.mono (b1.trans (b2.mono b1.size)).size)
  have htot := Total_any 17 b (by omega) (by omega) (some ⟨w3.heap.size, 0, none⟩) 2 2 _ rfl (by omega) (by omega) 2 hov _ ((hbb.cell (p := ⟨b, 0, none⟩) (block_lt_of_cell F.c0)).trans F.c0) htb
  rw [tot17, z3, z2] at htot
  rw [z2] at hbb
  refine htot.mono ?_
  rintro e w4 ⟨rfl, hb4⟩
  go_wp2
  go_ret
  exact ⟨rfl, hb.trans ((hbb.mono hb.size).trans (hb4.mono (Nat.le_trans hb.size hbb.size)))⟩
end Go.Proofs.Ytehgeiaglddabaa
