/- Walks of the reference's Add, Sub, Mul, Pow, Inv, Div. -/
import Derived.Test.YtiohededmcfhjaaDoorFw2
import Derived.Test.YtiohededmcfhjaaDoorRa
set_option linter.unusedVariables false
namespace Go.Proofs.YtiohededmcfhjaaDoor
open Go.RowKit Zp

set_option maxHeartbeats 400000 in
theorem radd_any (p : Nat) [NeZero p] (hp2 : p ≤ 2147483647) (m n : Int) (hm : I64 m) (hn : I64 n) (w : World) :
    Calls Tryd.prog 43 #[vi p, vi m, vi n] w fun e w' => e = .returned (vi (fv (el p m + el p n))) ∧ w = w' := by
  have h1 := fv_nonneg (el p m)
  have h2 := fv_lt (el p m)
  have h3 := fv_nonneg (el p n)
  have h4 := fv_lt (el p n)
  go_enter Tryd.func43, Tryd.ntmps43
  go_wp2_with (go_at_call 27; refine (rof_any p hp2 _ (by assumption) _).mono ?_; rintro e w' ⟨rfl, rfl⟩)
  go_ret
  exact ⟨ret_int (fv_add _ _).symm, rfl⟩
theorem fv_sub' {p : Nat} [NeZero p] (x y : Fin p) : fv (x - y) = (fv x + (p : Int) - fv y) % (p : Int) := by
  rw [fv_sub, show fv x + (p : Int) - fv y = fv x - fv y + p from by omega, Int.add_emod_right]
set_option maxHeartbeats 400000 in
theorem rsub_any (p : Nat) [NeZero p] (hp2 : p ≤ 2147483647) (m n : Int) (hm : I64 m) (hn : I64 n) (w : World) :
    Calls Tryd.prog 38 #[vi p, vi m, vi n] w fun e w' => e = .returned (vi (fv (el p m - el p n))) ∧ w = w' := by
  have h1 := fv_nonneg (el p m)
  have h2 := fv_lt (el p m)
  have h3 := fv_nonneg (el p n)
  have h4 := fv_lt (el p n)
  go_enter Tryd.func38, Tryd.ntmps38
  go_wp2_with (go_at_call 27; refine (rof_any p hp2 _ (by assumption) _).mono ?_; rintro e w' ⟨rfl, rfl⟩)
  go_ret
  exact ⟨ret_int (fv_sub' _ _).symm, rfl⟩
set_option maxHeartbeats 400000 in
theorem rmul_any (p : Nat) [NeZero p] (hp2 : p ≤ 2147483647) (m n : Int) (hm : I64 m) (hn : I64 n) (w : World) :
    Calls Tryd.prog 51 #[vi p, vi m, vi n] w fun e w' => e = .returned (vi (fv (el p m * el p n))) ∧ w = w' := by
  have h1 := fv_nonneg (el p m)
  have h2 := fv_lt (el p m)
  have h3 := fv_nonneg (el p n)
  have h4 := fv_lt (el p n)
  obtain ⟨h5, h6⟩ := mul_bd (el p m) (el p n) hp2
  go_enter Tryd.func51, Tryd.ntmps51
  go_wp2_with (go_at_call 27; refine (rof_any p hp2 _ (by assumption) _).mono ?_; rintro e w' ⟨rfl, rfl⟩)
  go_ret
  exact ⟨ret_int (fv_mul _ _).symm, rfl⟩

/-- what the loop of Pow knows -/
def RPow {p : Nat} [NeZero p] (T : Fin p) (n : Int) (a x k : Value) : Prop :=
  ∃ (j : Int) (A X : Fin p), j.natAbs ≤ n.natAbs ∧ I64 j ∧ a = vi (fv A) ∧ x = vi (fv X) ∧ k = vi j ∧ X * pw A j.natAbs = T
theorem RPow.step {p : Nat} [NeZero p] {T A X : Fin p} {n j r d : Int} (h0 : j ≠ 0) (h : X * pw A j.natAbs = T) (hj : j.natAbs ≤ n.natAbs) (hr : j.tmod 2 = r) (hd : j.tdiv 2 = d) :
    d.natAbs ≤ n.natAbs ∧ d.natAbs < j.natAbs ∧ (r = 0 → X * pw (A * A) d.natAbs = T) ∧ (r ≠ 0 → X * A * pw (A * A) d.natAbs = T) := by
  have e1 : d.natAbs = j.natAbs / 2 := by rw [← hd]; simp [Int.natAbs_tdiv]; rfl
  have e2 : r.natAbs = j.natAbs % 2 := by rw [← hr]; simp [Int.natAbs_tmod]
  have hs := pow_step A j.natAbs
  rw [← e1] at hs
  refine ⟨by omega, by omega, fun hr0 => ?_, fun hr0 => ?_⟩
  · rw [← h, hs, if_neg (by omega)]; grind
  · rw [← h, hs, if_pos (by omega)]; grind

set_option maxRecDepth 100000 in
set_option maxHeartbeats 1000000 in
theorem rpow_nn (p : Nat) [NeZero p] (hp1 : 2 ≤ p) (hp2 : p ≤ 2147483647) (m n : Int) (hm : I64 m) (hn : I64 n) (h0 : 0 ≤ n) (w : World) :
    Calls Tryd.prog 59 #[vi p, vi m, vi n] w fun e w' => e = .returned (vi (fv (pw (el p m) n.natAbs))) ∧ w = w' := by
  have h1 := fv_nonneg (el p m)
  have h2 := fv_lt (el p m)
  go_enter Tryd.func59, Tryd.ntmps59
  go_wp2_with (go_at_call 27; refine (rof_any p hp2 m hm _).mono ?_; rintro e w' ⟨rfl, rfl⟩)
  go_loop [1, 2, 7] (fun a n' x => RPow (pw (el p m) n.natAbs) n a x n') (fun _ n' _ => (intOf n').natAbs)
  case atStart => exact ⟨n, el p m, 1, Nat.le_refl _, hn, rfl, by rw [fv_one hp1], rfl, by grind⟩
  case round =>
    obtain ⟨j, A, X, hj, ij, rfl, rfl, rfl, hX⟩ := hrel
    obtain ⟨h5, h6⟩ := mul_bd X A hp2
    obtain ⟨h7, h8⟩ := mul_bd A A hp2
    have hX' := Lib.hid hX
    clear hX
    by_cases h0 : j = 0
    · subst h0
      go_wp2
      go_ret
      exact ⟨ret_int (by rw [← hX'.out]; simp only [Int.natAbs_zero, pw_zero]; congr 1; grind), rfl⟩
    · have t0 : (j != 0) = true := by rw [bne_iff_ne]; exact h0
      obtain ⟨r, hr⟩ : ∃ r, j.tmod 2 = r := ⟨_, rfl⟩
      obtain ⟨d, hd⟩ : ∃ d, j.tdiv 2 = d := ⟨_, rfl⟩
      obtain ⟨s1, s2, s3, s4⟩ := RPow.step h0 hX'.out hj hr hd
      have hnn : n.natAbs ≤ 9223372036854775808 := by obtain ⟨_, _⟩ := hn; omega
      obtain ⟨ij1, ij2⟩ := ij
      have id1 : -9223372036854775807 ≤ d := by omega
      have id2 : d ≤ 9223372036854775807 := by omega
      clear hnn
      by_cases hr0 : r = 0
      · have t1 : (r != 0) = false := by simpa using hr0
        have S := Lib.hid (s3 hr0)
        have S1 := Lib.hid s1
        have S2 := Lib.hid s2
        clear s1 s2 s3 s4 hr0 h0
        go_wp2
        go_round
        case rel => exact ⟨d, A * A, X, S1.out, ⟨by omega, id2⟩, by rw [fv_mul], rfl, rfl, S.out⟩
        case measure => exact S2.out
      · have t1 : (r != 0) = true := by rw [bne_iff_ne]; exact hr0
        have S := Lib.hid (s4 hr0)
        have S1 := Lib.hid s1
        have S2 := Lib.hid s2
        clear s1 s2 s3 s4 hr0 h0
        go_wp2
        go_round
        case rel => exact ⟨d, A * A, X * A, S1.out, ⟨by omega, id2⟩, by rw [fv_mul], by rw [fv_mul], rfl, S.out⟩
        case measure => exact S2.out

theorem rinv_any (p : Nat) [NeZero p] (hp1 : 2 ≤ p) (hp2 : p ≤ 2147483647) (m : Int) (hm : I64 m) (w : World) :
    Calls Tryd.prog 50 #[vi p, vi m] w fun e w' => e = .returned (vi (fv (Zp.inv (el p m)))) ∧ w = w' := by
  have h5 : I64 ((p : Int) - 2) := by constructor <;> omega
  have h6 : (0 : Int) ≤ (p : Int) - 2 := by omega
  have h7 : ((p : Int) - 2).natAbs = p - 2 := by omega
  have H := Lib.hid (rpow_nn p hp1 hp2 m _ hm h5 h6 w)
  rw [h7] at H
  clear h7
  go_enter Tryd.func50, Tryd.ntmps50
  go_wp2_with fail
  refine (H.out).mono ?_
  rintro e w' ⟨rfl, rfl⟩
  go_wp2
  go_ret
  exact ⟨rfl, rfl⟩

set_option maxRecDepth 100000 in
set_option maxHeartbeats 1000000 in
theorem rpow_neg (p : Nat) [NeZero p] (hp1 : 2 ≤ p) (hp2 : p ≤ 2147483647) (m n : Int) (hm : I64 m) (hn : I64 n) (hlt : n < 0) (w : World) :
    Calls Tryd.prog 59 #[vi p, vi m, vi n] w fun e w' => e = .returned (vi (fv (pw (Zp.inv (el p m)) n.natAbs))) ∧ w = w' := by
  have h1 := fv_nonneg (el p m)
  have h2 := fv_lt (el p m)
  have hi := fun w => rinv_any p hp1 hp2 (fv (el p m)) (i64_fv _ hp2) w
  simp only [el_fv] at hi
  have HI := Lib.hid hi
  clear hi
  go_enter Tryd.func59, Tryd.ntmps59
  go_wp2_with (first | (go_at_call 27; refine (rof_any p hp2 m hm _).mono ?_; rintro e w' ⟨rfl, rfl⟩) | (go_at_call 50; refine (HI.out _).mono ?_; rintro e w' ⟨rfl, rfl⟩))
  go_loop [1, 2, 7] (fun a n' x => RPow (pw (Zp.inv (el p m)) n.natAbs) n a x n') (fun _ n' _ => (intOf n').natAbs)
  case atStart => exact ⟨n, Zp.inv (el p m), 1, Nat.le_refl _, hn, rfl, by rw [fv_one hp1], rfl, by grind⟩
  case round =>
    obtain ⟨j, A, X, hj, ij, rfl, rfl, rfl, hX⟩ := hrel
    obtain ⟨h5, h6⟩ := mul_bd X A hp2
    obtain ⟨h7, h8⟩ := mul_bd A A hp2
    have hX' := Lib.hid hX
    clear hX
    by_cases h0 : j = 0
    · subst h0
      go_wp2
      go_ret
      exact ⟨ret_int (by rw [← hX'.out]; simp only [Int.natAbs_zero, pw_zero]; congr 1; grind), rfl⟩
    · have t0 : (j != 0) = true := by rw [bne_iff_ne]; exact h0
      obtain ⟨r, hr⟩ : ∃ r, j.tmod 2 = r := ⟨_, rfl⟩
      obtain ⟨d, hd⟩ : ∃ d, j.tdiv 2 = d := ⟨_, rfl⟩
      obtain ⟨s1, s2, s3, s4⟩ := RPow.step h0 hX'.out hj hr hd
      have hnn : n.natAbs ≤ 9223372036854775808 := by obtain ⟨_, _⟩ := hn; omega
      obtain ⟨ij1, ij2⟩ := ij
      have id1 : -9223372036854775807 ≤ d := by omega
      have id2 : d ≤ 9223372036854775807 := by omega
      clear hnn
      by_cases hr0 : r = 0
      · have t1 : (r != 0) = false := by simpa using hr0
        have S := Lib.hid (s3 hr0)
        have S1 := Lib.hid s1
        have S2 := Lib.hid s2
        clear s1 s2 s3 s4 hr0 h0
        go_wp2
        go_round
        case rel => exact ⟨d, A * A, X, S1.out, ⟨by omega, id2⟩, by rw [fv_mul], rfl, rfl, S.out⟩
        case measure => exact S2.out
      · have t1 : (r != 0) = true := by rw [bne_iff_ne]; exact hr0
        have S := Lib.hid (s4 hr0)
        have S1 := Lib.hid s1
        have S2 := Lib.hid s2
        clear s1 s2 s3 s4 hr0 h0
        go_wp2
        go_round
        case rel => exact ⟨d, A * A, X * A, S1.out, ⟨by omega, id2⟩, by rw [fv_mul], by rw [fv_mul], rfl, S.out⟩
        case measure => exact S2.out

theorem rpow_any (p : Nat) [NeZero p] (hp1 : 2 ≤ p) (hp2 : p ≤ 2147483647) (m n : Int) (hm : I64 m) (hn : I64 n) (w : World) :
    Calls Tryd.prog 59 #[vi p, vi m, vi n] w fun e w' => e = .returned (vi (fv (zpw (el p m) n))) ∧ w = w' := by
  by_cases h0 : 0 ≤ n
  · have h := rpow_nn p hp1 hp2 m n hm hn h0 w
    rw [zpw, if_pos h0, show n.toNat = n.natAbs by omega]
    exact h
  · have h := rpow_neg p hp1 hp2 m n hm hn (by omega) w
    rw [zpw, if_neg h0, show (-n).toNat = n.natAbs by omega]
    exact h
theorem rdiv_any (p : Nat) [NeZero p] (hp1 : 2 ≤ p) (hp2 : p ≤ 2147483647) (m n : Int) (hm : I64 m) (hn : I64 n) (w : World) :
    Calls Tryd.prog 29 #[vi p, vi m, vi n] w fun e w' => e = .returned (vi (fv (el p m * Zp.inv (el p n)))) ∧ w = w' := by
  have h := fun w => rmul_any p hp2 m (fv (Zp.inv (el p n))) hm (i64_fv _ hp2) w
  simp only [el_fv] at h
  have H := Lib.hid h
  clear h
  go_enter Tryd.func29, Tryd.ntmps29
  go_wp2_with (first | (go_at_call 50; refine (rinv_any p hp1 hp2 n hn _).mono ?_; rintro e w' ⟨rfl, rfl⟩) | (go_at_call 51; refine (H.out _).mono ?_; rintro e w' ⟨rfl, rfl⟩))
  go_ret
  exact ⟨rfl, rfl⟩
end Go.Proofs.YtiohededmcfhjaaDoor
