/- law3.differ: at how many places two states differ. -/
import Derived.Test.YtabhndfdioimcaaPl3
import Derived.Test.YtabhndfdioimcaaRa
set_option linter.unusedVariables false
namespace Go.Proofs.Ytabhndfdioimcaa
open Go.RowKit Zp

/-- the unlike places ahead of one -/
def cntT {p : Nat} [NeZero p] (v : Nat → Fin p) (k : Nat) : Nat := ((List.range k).filter fun j => decide (v j ≠ 0)).length
theorem cntT_all {p : Nat} [NeZero p] (v : Nat → Fin p) : cntT v 8 = nzN v := rfl
theorem cntT_yes {p : Nat} [NeZero p] {v : Nat → Fin p} {k : Nat} (h : v k ≠ 0) : cntT v (k + 1) = cntT v k + 1 := by
  unfold cntT
  rw [List.range_succ, List.filter_append, List.length_append]
  simp [h]
theorem cntT_no {p : Nat} [NeZero p] {v : Nat → Fin p} {k : Nat} (h : v k = 0) : cntT v (k + 1) = cntT v k := by
  unfold cntT
  rw [List.range_succ, List.filter_append, List.length_append]
  simp [h]
theorem cntT_le {p : Nat} [NeZero p] (v : Nat → Fin p) (k : Nat) : cntT v k ≤ k := by
  unfold cntT
  have := List.length_filter_le (fun j => decide (v j ≠ 0)) (List.range k)
  simpa using this
set_option maxHeartbeats 2000000 in
theorem differ_any (p : Nat) [NeZero p] (hp2 : p ≤ 2147483647) (ad bd : Addr) (ca cb : Nat) (x y : Nat → Int) (hx : ∀ i, I64 (x i)) (hy : ∀ i, I64 (y i)) (w : World) (ha : ∀ i, i < 8 → w.cell? (ad.add i) = some (vi (x i))) (hb : ∀ i, i < 8 → w.cell? (bd.add i) = some (vi (y i))) :
    Calls Try.prog 10 #[vi p, .slice (some ad) 8 ca, .slice (some bd) 8 cb] w fun e w' => e = .returned (vi (nzN fun i => el p (x i) - el p (y i))) ∧ w = w' := by
  obtain ⟨v, hv⟩ : ∃ v : Nat → Fin p, v = fun i => el p (x i) - el p (y i) := ⟨_, rfl⟩
  rw [← hv, ← cntT_all]
  have HV := Lib.hid hv
  have HA := Lib.hid ha
  have HB := Lib.hid hb
  clear hv ha hb
  go_enter Try.func10, Try.ntmps10
  go_wp2
  go_loop [7, 8] (fun n t => ∃ k : Nat, k ≤ 8 ∧ n = vi (cntT v k) ∧ t = vi k) (fun _ t => 8 - (intOf t).toNat)
  case atStart => exact ⟨0, by omega, rfl, rfl⟩
  case round =>
    obtain ⟨k, hk, rfl, rfl⟩ := hrel
    by_cases hk8 : k < 8
    · have cx := HA.out k hk8
      have cy := HB.out k hk8
      have k1 : (0 : Int) ≤ (k : Int) := by omega
      have k2 : (k : Int) < 8 := by omega
      have hle := cntT_le v k
      obtain ⟨N, hN⟩ : ∃ N, N = cntT v k := ⟨_, rfl⟩
      rw [← hN] at hle
      rw [← hN]
      have HN := Lib.hid hN
      have hO := fun n hn W => rof_any p hp2 n hn W
      have HO := Lib.hid hO
      have HX := Lib.hid hx
      have HY := Lib.hid hy
      clear hN hO hx hy
      by_cases hXY : el p (x k) = el p (y k)
      · have tx : (fv (el p (x k)) != fv (el p (y k))) = false := by rw [hXY]; simp
        have HXY := Lib.hid hXY
        clear hXY
        go_wp2_with (refine (HO.out _ (by first | exact HX.out k | exact HY.out k) _).mono ?_; rintro _ _ ⟨rfl, rfl⟩)
        go_round
        case rel => exact ⟨k + 1, by omega, by rw [HN.out, cntT_no (by rw [HV.out]; show el p (x k) - el p (y k) = 0; rw [HXY.out]; grind)], by go_num⟩
        case measure => simp [intOf]; omega
      · have tx : (fv (el p (x k)) != fv (el p (y k))) = true := by rw [bne_iff_ne]; exact fun e => hXY (fv_inj e)
        have HXY := Lib.hid hXY
        clear hXY
        go_wp2_with (refine (HO.out _ (by first | exact HX.out k | exact HY.out k) _).mono ?_; rintro _ _ ⟨rfl, rfl⟩)
        go_round
        case rel => exact ⟨k + 1, by omega, by rw [cntT_yes (by rw [HV.out]; show el p (x k) - el p (y k) ≠ 0; intro e; exact HXY.out (by grind)), ← HN.out]; go_num, by go_num⟩
        case measure => simp [intOf]; omega
    · have ek : k = 8 := by omega
      subst ek
      go_wp2
      go_ret
      exact ⟨rfl, rfl⟩
end Go.Proofs.Ytabhndfdioimcaa
