/- Walks: attestlaw5's plain and lives. -/
import Derived.Test.YtehgeiaglddabaaLv2
import Derived.Test.YtehgeiaglddabaaFold
set_option linter.unusedVariables false
namespace Go.Proofs.Ytehgeiaglddabaa
open Go.RowKit Zp

/-- is there a domain that can be halved? -/
def HasHalf (p size t : Int) : Prop := HasField p ∧ ∃ h : Nat, 0 < h ∧ size = ((2 * h : Nat) : Int) ∧ SizeOk p.toNat (2 * h) ∧ ¬ t % p = 0
theorem HasHalf.parts {p size t : Int} (h : HasHalf p size t) : ∃ q m : Nat, p = q ∧ 0 < m ∧ size = ((2 * m : Nat) : Int) ∧ 3 ≤ q ∧ q ≤ 2147483647 ∧ IsPrime q ∧ SizeOk q (2 * m) ∧ ¬ t % (q : Int) = 0 := by
  obtain ⟨⟨h3, hm, hpr⟩, m, hm0, rfl, hs, h0⟩ := h
  obtain ⟨q, rfl⟩ := Int.eq_ofNat_of_zero_le (a := p) (by omega)
  rw [Int.toNat_natCast] at hpr hs
  exact ⟨q, m, rfl, hm0, rfl, by omega, by omega, hpr, hs, h0⟩
theorem sizeOk_cases {p n : Nat} (h : SizeOk p n) : n = 1 ∨ ∃ m, 0 < m ∧ n = 2 * m := by
  obtain ⟨⟨k, _, e⟩, _⟩ := h
  cases k with
  | zero => exact .inl e
  | succ k => exact .inr ⟨2 ^ k, Nat.pow_pos (by omega), by rw [e, Nat.pow_succ, Nat.mul_comm]⟩

/-- no domain, or one of a point alone -/
theorem noHalf_cases {p size t : Int} (h : ¬ HasHalf p size t) : ¬ HasField p ∨ (HasField p ∧ ¬ ∃ n : Nat, size = n ∧ SizeOk p.toNat n ∧ ¬ t % p = 0) ∨ (HasField p ∧ size = 1 ∧ SizeOk p.toNat 1 ∧ ¬ t % p = 0) := by
  by_cases hF : HasField p
  · by_cases hD : ∃ n : Nat, size = n ∧ SizeOk p.toNat n ∧ ¬ t % p = 0
    · obtain ⟨n, rfl, hs, h0⟩ := hD
      rcases sizeOk_cases hs with h1 | ⟨m, hm, rfl⟩
      · exact .inr (.inr ⟨hF, by rw [h1]; rfl, by rw [← h1]; exact hs, h0⟩)
      · exact absurd ⟨hF, m, hm, rfl, hs, h0⟩ h
    · exact .inr (.inl ⟨hF, hD⟩)
  · exact .inl hF

abbrev Nil3 : Value := .tuple #[.pointer none, .pointer none, .pointer none]
set_option maxHeartbeats 2000000 in
theorem plain5_no (p size t : Int) (hs : I64 size) (ht : I64 t) (h : ¬ HasHalf p size t) (w : World) :
    Calls Try.prog 40 #[vi p, vi size, vi t] w fun e w' => SaysW Nil3 w e w' := by
  rcases noHalf_cases h with hF | ⟨hF, h'⟩ | ⟨hF, h1, hs1, h0⟩
  · have hn := fun w => new_none p w hF
    have HN := Lib.hid hn
    clear hn hF h
    go_enter Try.func40, Try.ntmps40
    go_wp2_with fail
    refine (HN.out _).mono ?_
    rintro e w1 ⟨rfl, rfl⟩
    go_wp2
    go_ret3
    exact ⟨rfl, Below.refl _ _⟩
  · obtain ⟨h3, hm, hpr⟩ := hF
    obtain ⟨q, rfl⟩ := Int.eq_ofNat_of_zero_le (a := p) (by omega)
    rw [Int.toNat_natCast] at hpr h'
    haveI := hpr.ne
    have hn := fun w => new_prime q w (by omega) (by omega) hpr
    have HN := Lib.hid hn
    have H' := Lib.hid h'
    clear hn hm h3 h h'
    go_enter Try.func40, Try.ntmps40
    go_wp2_with fail
    refine (HN.out _).mono ?_
    rintro e w1 ⟨b, rfl, F, hbel, _⟩
    go_wp2_with fail
    refine (dnew_none q _ b size t hs ht _ F H'.out).mono ?_
    rintro e w2 ⟨rfl | rfl, rfl⟩
    · go_wp2
      go_ret3
      exact ⟨rfl, hbel⟩
    · go_wp2
      go_ret3
      exact ⟨rfl, hbel⟩
  · obtain ⟨h3, hm, hpr⟩ := hF
    obtain ⟨q, rfl⟩ := Int.eq_ofNat_of_zero_le (a := p) (by omega)
    rw [Int.toNat_natCast] at hpr hs1
    haveI := hpr.ne
    have hn := fun w => new_prime q w (by omega) (by omega) hpr
    have hd := fun w S b F => dnew_ok q S b 1 t ht hs1 (fun h => h0 (el_eq_zero.1 h)) w F
    have HN := Lib.hid hn
    have HD := Lib.hid hd
    clear hn hm h3 h hd h0 hs1 hs
    rw [h1]
    clear h1
    go_enter Try.func40, Try.ntmps40
    go_wp2_with fail
    refine (HN.out _).mono ?_
    rintro e w1 ⟨b, rfl, F, hbel, _⟩
    go_wp2_with fail
    refine (HD.out _ _ b F).mono ?_
    rintro e w2 ⟨D, rfl, hDm, hb2, _⟩
    go_wp2_with fail
    refine (half_one q _ D b _ _ hDm).mono ?_
    rintro e w3 ⟨rfl, rfl⟩
    go_wp2
    go_ret3
    exact ⟨rfl, hbel.trans (hb2.mono hbel.size)⟩

def PlainHalf (q m : Nat) [NeZero q] (t : Int) (w : World) (e : Ending) (w' : World) : Prop :=
  ∃ b D H : Nat, e = .returned (.tuple #[.pointer (some ⟨b, 0, none⟩), .pointer (some ⟨D, 0, none⟩), .pointer (some ⟨H, 0, none⟩)]) ∧ Dom w' w'.heap.size D b q (2 * m) (el q t) ∧ Dom w' w'.heap.size H b q m (el q t * el q t) ∧ Below w.heap.size w w'
theorem Dom.moreS {w : World} {S S' D b p n : Nat} [NeZero p] {s : Fin p} (h : Dom w S D b p n s) (h1 : S ≤ S') (h2 : S' ≤ w.heap.size) : Dom w S' D b p n s := by
  obtain ⟨F, l, c0, c1, c2, c3, s0, sz⟩ := h
  obtain ⟨A, c, fs, f1, f2, f3, f4⟩ := F.c1
  exact ⟨⟨F.prime, F.three, F.max, Nat.lt_of_lt_of_le F.lt h1, h2, F.c0, ⟨A, c, fs, f1, f2, f3, f4.more h1⟩, F.c2⟩, Nat.lt_of_lt_of_le l h1, c0, c1, c2, c3, s0, sz⟩
set_option maxHeartbeats 1000000 in
theorem plain5_yes (q m : Nat) [NeZero q] (t : Int) (ht : I64 t) (hq : IsPrime q) (h3 : 3 ≤ q) (hm : q ≤ 2147483647) (hm0 : 0 < m) (hn : SizeOk q (2 * m)) (h0 : ¬ t % (q : Int) = 0) (w : World) :
    Calls Try.prog 40 #[vi q, vi ((2 * m : Nat) : Int), vi t] w fun e w' => PlainHalf q m t w e w' := by
  have hn1 := fun w => new_prime q w h3 hm hq
  have hd := fun w S b F => dnew_ok q S b (2 * m) t ht hn (fun h => h0 (el_eq_zero.1 h)) w F
  have hh := fun w S D b hD => half_any q S D b (2 * m) m rfl hm0 (el q t) w hD
  have HN := Lib.hid hn1
  have HD := Lib.hid hd
  have HH := Lib.hid hh
  clear hn1 hd h0 hn hh
  obtain ⟨n, hnn⟩ : ∃ n, n = 2 * m := ⟨_, rfl⟩
  rw [← hnn] at HD HH ⊢
  have HNN := Lib.hid hnn
  clear hnn
  go_enter Try.func40, Try.ntmps40
  go_wp2_with fail
  refine (HN.out _).mono ?_
  rintro e w1 ⟨b, rfl, F, hbel, _⟩
  go_wp2_with fail
  refine (HD.out _ _ b F).mono ?_
  rintro e w2 ⟨D, rfl, hDm, hb2, _⟩
  go_wp2_with fail
  refine (HH.out _ _ D b hDm).mono ?_
  rintro e w3 ⟨H, rfl, hHm, hb3, _⟩
  go_wp2
  go_ret3
  rw [el_fv] at hHm
  have hb12 := hbel.trans (hb2.mono hbel.size)
  refine ⟨b, D, H, rfl, ?_, hHm, hb12.trans (hb3.mono hb12.size)⟩
  rw [← HNN.out]
  exact (hDm.below hb3 (Nat.le_refl _)).moreS hb3.size (Nat.le_refl _)

theorem fold17 : fvs (foldL (el 17 3) (rootI 17 ((4 : Nat) : Int)) 2 (els 17 [4, 6, 15, 13]) (el 17 2)) = [3, 3] := by
  rw [root17]
  decide

set_option maxRecDepth 100000 in
set_option maxHeartbeats 2000000 in
theorem lives5_any (w : World) : Calls Try.prog 39 #[] w fun e w' => SaysW (.bool true) w e w' := by
  have hpl := plain5_yes 17 2 3 (by constructor <;> omega) prime17 (by omega) (by omega) (by omega) size4 (by decide) w
  have HP := Lib.hid hpl
  clear hpl
  go_enter Try.func39, Try.ntmps39
  go_wp2_with fail
  refine (HP.out).mono ?_
  rintro e w1 ⟨b, D, H, rfl, hD, hH, hb1⟩
  have hv := values_any 17 w1.heap.size D b 4 (el 17 3) (some ⟨w1.heap.size, 0, none⟩) 2 [1, 1] (by decide) (by decide) _ (hD.alloc _) (sl_lit w1 [1, 1])
  rw [vals17] at hv
  have HV := Lib.hid hv
  clear hv
  go_wp2_with fail
  refine (HV.out).mono ?_
  rintro e w2 ⟨A, c, rfl, _, _, hs, hb2⟩
  have hb3 : Below w.heap.size w w2 := (hb1.alloc hb1.size _).trans (hb2.mono (by simp; have := hb1.size; omega))
  have hD2 := (hD.alloc _).below hb2 (by simp)
  have hf := fold_any 17 w1.heap.size D b 4 2 rfl (by omega) (el 17 3) A c [4, 6, 15, 13] rfl (by decide) 2 (by constructor <;> omega) w2 hD2 hs
  rw [fold17] at hf
  have HF := Lib.hid hf
  clear hf
  go_wp2_with fail
  refine (HF.out).mono ?_
  rintro e w3 ⟨v, rfl, hown, hb4⟩
  obtain ⟨g, c4, rfl, _, _⟩ := hown.block (by simp)
  have hc0 := hown.at_ rfl 0 (by simp)
  have hc1 := hown.at_ rfl 1 (by simp)
  go_wp2
  go_ret
  exact ⟨rfl, hb3.trans (hb4.mono hb3.size)⟩
end Go.Proofs.Ytehgeiaglddabaa
