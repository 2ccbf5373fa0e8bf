/- Walks of the laws FieldMakes, FieldReckons, FieldRoots, FieldPowers. -/
import Derived.Test.YtbafkfnceednlaaDoorSame
import Derived.Test.YtbafkfnceednlaaDoorRo
import Derived.Test.YtbafkfnceednlaaDoorInts
import Derived.Test.YtbafkfnceednlaaDoorRp
set_option linter.unusedVariables false
namespace Go.Proofs.YtbafkfnceednlaaDoor
open Go.RowKit Zp

theorem fld_order (p S b : Nat) [NeZero p] (m : Int) (hm : I64 m) (w : World) (F : Fld w S b p) :
    Calls Tryd.prog 34 #[.pointer (some ⟨b, 0, none⟩), vi m] w fun e w' => e = .returned (vi ((ordN (el p m) : Nat) : Int)) ∧ w = w' := by
  obtain ⟨A, c, fs, h1, h2, h3, h4⟩ := F.c1
  refine order_any p F.prime F.max fs h3 b m hm w F.c0 A c h1 h2 ?_
  have h4' : Reads w S 1 A (fs.map (fun q : Nat => (q : Int))).length ((fs.map (fun q : Nat => (q : Int))).map vi) := by rw [List.length_map]; exact h4
  exact Reads.more h4' F.le

set_option maxHeartbeats 1000000 in
theorem makes_walk (w : World) (p : Int) (hp : I64 p) (n : Int) (hn : I64 n) (hT : Typed w) :
    Calls Tryd.prog 3 #[vi p, vi n] w fun e w' => SaysW (.bool true) w e w' := by
  by_cases hF : HasField p
  · obtain ⟨h3, hm, hpr⟩ := hF
    obtain ⟨q, rfl⟩ := Int.eq_ofNat_of_zero_le (a := p) (by omega)
    rw [Int.toNat_natCast] at hpr
    haveI := hpr.ne
    have hqm : q ≤ 2147483647 := by omega
    have HF := Lib.hid (sfield_yes q (by omega) hqm hpr w hT)
    have HG := Lib.hid (fun w => rgen_any q hpr (by omega) hqm w)
    clear hpr
    go_enter Tryd.func3, Tryd.ntmps3
    go_wp2_with fail
    refine (HF.out).mono ?_
    rintro e w1 ⟨b, rfl, F, hb1⟩
    have hc0 := F.c0
    have hc2 := F.c2
    generalize genN q = G at HG hc2
    go_wp2_with fail
    refine (p_any q b _ hc0).mono ?_
    rintro e w' ⟨rfl, rfl⟩
    go_wp2_with fail
    refine (generator_any G b _ hc2).mono ?_
    rintro e w' ⟨rfl, rfl⟩
    go_wp2_with fail
    refine (HG.out _).mono ?_
    rintro e w' ⟨rfl, rfl⟩
    go_wp2_with fail
    refine (of_el q hqm b n hn _ hc0).mono ?_
    rintro e w' ⟨rfl, rfl⟩
    go_wp2_with fail
    refine (rof_any q hqm n hn _).mono ?_
    rintro e w' ⟨rfl, rfl⟩
    go_wp2
    go_ret
    exact ⟨rfl, hb1⟩
  · have HN := Lib.hid (sfield_no p hp hF w hT)
    clear hF
    go_enter Tryd.func3, Tryd.ntmps3
    go_wp2_with fail
    refine (HN.out).mono ?_
    rintro e w1 ⟨rfl, hb1⟩
    go_wp2
    go_ret
    exact ⟨rfl, hb1⟩

set_option maxHeartbeats 1000000 in
theorem roots1_walk (w : World) (p : Int) (hp : I64 p) (n : Int) (hn : I64 n) (hT : Typed w) :
    Calls Tryd.prog 5 #[vi p, vi n] w fun e w' => SaysW (.bool true) w e w' := by
  by_cases hF : HasField p
  · obtain ⟨h3, hm, hpr⟩ := hF
    obtain ⟨q, rfl⟩ := Int.eq_ofNat_of_zero_le (a := p) (by omega)
    rw [Int.toNat_natCast] at hpr
    haveI := hpr.ne
    have hqm : q ≤ 2147483647 := by omega
    have HF := Lib.hid (sfield_yes q (by omega) hqm hpr w hT)
    have HR := Lib.hid (fun w => rroot_any q hpr (by omega) hqm n hn w)
    have hord : rootI q n ≠ 0 → ((ordN (rootI q n) : Nat) : Int) = n := fun h => by
      have hc : 0 < n ∧ ((q : Int) - 1) % n = 0 := by
        rcases Classical.em (0 < n ∧ ((q : Int) - 1) % n = 0) with hc | hc
        · exact hc
        · exact absurd (rootI_no hc) h
      obtain ⟨N, rfl⟩ := Int.eq_ofNat_of_zero_le (a := n) (by omega)
      have hd : N ∣ q - 1 := by
        rw [Nat.dvd_iff_mod_eq_zero]
        have e : ((q : Int) - 1) = ((q - 1 : Nat) : Int) := by omega
        have h2 := hc.2
        rw [e, ← Int.natCast_emod] at h2
        omega
      rw [ordN_of_ord hpr h (rootI_ord hpr (by omega) hd)]
    obtain ⟨X, hX⟩ : ∃ X, X = rootI q n := ⟨_, rfl⟩
    rw [← hX] at hord
    have HX := Lib.hid hX
    clear hX hpr
    go_enter Tryd.func5, Tryd.ntmps5
    go_wp2_with fail
    refine (HF.out).mono ?_
    rintro e w1 ⟨b, rfl, F, hb1⟩
    have hroot := Lib.hid (root_any q _ b n hn _ F)
    rw [← HX.out] at hroot HR
    by_cases h0 : X = 0
    · have t1 : (fv X == 0) = true := by rw [h0]; rfl
      clear h0 hord
      go_wp2_with fail
      refine (hroot.out).mono ?_
      rintro e w' ⟨rfl, k1, rfl⟩
      go_wp2_with fail
      refine (HR.out _).mono ?_
      rintro e w' ⟨rfl, rfl⟩
      go_wp2
      go_ret
      exact ⟨rfl, below_drewN hb1 _⟩
    · have t1 : (fv X == 0) = false := by rw [beq_eq_false_iff_ne]; exact fun h => h0 (fv_eq_zero.1 h)
      have ho := hord h0
      have hor := fun W FW => fld_order q w1.heap.size b (fv X) (i64_fv _ hqm) W FW
      rw [el_fv, ho] at hor
      have HO := Lib.hid hor
      clear h0 hord ho hor
      go_wp2_with fail
      refine (hroot.out).mono ?_
      rintro e w' ⟨rfl, k1, rfl⟩
      go_wp2_with fail
      refine (HR.out _).mono ?_
      rintro e w' ⟨rfl, rfl⟩
      go_wp2_with fail
      refine (HO.out _ (F.drewN _)).mono ?_
      rintro e w' ⟨rfl, rfl⟩
      go_wp2
      go_ret
      exact ⟨rfl, below_drewN hb1 _⟩
  · have HN := Lib.hid (sfield_no p hp hF w hT)
    clear hF
    go_enter Tryd.func5, Tryd.ntmps5
    go_wp2_with fail
    refine (HN.out).mono ?_
    rintro e w1 ⟨rfl, hb1⟩
    go_wp2
    go_ret
    exact ⟨rfl, hb1⟩

set_option maxHeartbeats 1000000 in
theorem powers_walk (w : World) (p : Int) (hp : I64 p) (m : Int) (hm' : I64 m) (n : Int) (hn : I64 n) (hT : Typed w) :
    Calls Tryd.prog 6 #[vi p, vi m, vi n] w fun e w' => SaysW (.bool true) w e w' := by
  by_cases hF : HasField p
  · obtain ⟨h3, hm, hpr⟩ := hF
    obtain ⟨q, rfl⟩ := Int.eq_ofNat_of_zero_le (a := p) (by omega)
    rw [Int.toNat_natCast] at hpr
    haveI := hpr.ne
    have hqm : q ≤ 2147483647 := by omega
    have hq2 : 2 ≤ q := by omega
    have HF := Lib.hid (sfield_yes q (by omega) hqm hpr w hT)
    have HR := Lib.hid (fun w => rorder_any q hpr hq2 hqm m hm' w)
    clear hpr
    go_enter Tryd.func6, Tryd.ntmps6
    go_wp2_with fail
    refine (HF.out).mono ?_
    rintro e w1 ⟨b, rfl, F, hb1⟩
    have hc0 := F.c0
    have HO := Lib.hid (fun W FW => fld_order q w1.heap.size b m hm' W FW)
    generalize ordN (el q m) = O at HO HR
    go_wp2_with fail
    refine (pow_any q hq2 hqm b m n hm' hn _ hc0).mono ?_
    rintro e w' ⟨rfl, k1, rfl⟩
    go_wp2_with fail
    refine (rpow_any q hq2 hqm m n hm' hn _).mono ?_
    rintro e w' ⟨rfl, rfl⟩
    generalize fv (zpw (el q m) n) = Y
    go_wp2_with fail
    refine (HO.out _ (F.drewN _)).mono ?_
    rintro e w' ⟨rfl, rfl⟩
    go_wp2_with fail
    refine (HR.out _).mono ?_
    rintro e w' ⟨rfl, rfl⟩
    go_wp2
    go_ret
    exact ⟨rfl, below_drewN hb1 _⟩
  · have HN := Lib.hid (sfield_no p hp hF w hT)
    clear hF
    go_enter Tryd.func6, Tryd.ntmps6
    go_wp2_with fail
    refine (HN.out).mono ?_
    rintro e w1 ⟨rfl, hb1⟩
    go_wp2
    go_ret
    exact ⟨rfl, hb1⟩
end Go.Proofs.YtbafkfnceednlaaDoor
