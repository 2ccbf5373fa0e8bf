/- Walks: Order, New. -/
import Derived.Test.YtiohededmcfhjaaDoorFw2
set_option linter.unusedVariables false
namespace Go.Proofs.YtiohededmcfhjaaDoor
open Go.RowKit Zp

set_option maxHeartbeats 1000000 in
theorem order_any (p : Nat) [NeZero p] (hp : IsPrime p) (hp2 : p ≤ 2147483647) (fs : List Nat) (hf : Facs p fs) (b : Nat) (m : Int) (hm : I64 m) (w : World) (hc : w.cell? ⟨b, 0, none⟩ = some (vi p))
    (A : Option Addr) (c : Nat) (hc1 : w.cell? ⟨b, 1, none⟩ = some (.slice A fs.length c)) (hl : fs.length ≤ 2147483648) (hs : SL w A (fs.map (fun q : Nat => (q : Int)))) :
    Calls Tryd.prog 46 #[.pointer (some ⟨b, 0, none⟩), vi m] w fun e w' => e = .returned (vi (ordN (el p m))) ∧ w = w' := by
  have hp1 := hp.1
  by_cases hx : el p m = 0
  · have h0 : (fv (el p m) == 0) = true := by rw [hx]; rfl
    have HX := Lib.hid hx
    clear hx
    go_enter Tryd.func46, Tryd.ntmps46
    go_wp2_with (go_at_call 32; refine (of_el p hp2 b _ hm _ hc).mono ?_; rintro e w' ⟨rfl, rfl⟩)
    go_ret
    exact ⟨ret_int (by rw [HX.out, ordN_zero hp]; rfl), rfl⟩
  · have h0 : (fv (el p m) == 0) = false := by rw [beq_eq_false_iff_ne]; exact fun h => hx (fv_eq_zero.1 h)
    have HX := Lib.hid hx
    clear hx
    go_enter Tryd.func46, Tryd.ntmps46
    go_wp2_with (go_at_call 32; refine (of_el p hp2 b _ hm _ hc).mono ?_; rintro e w' ⟨rfl, rfl⟩)
    have e1 : ((p : Int) - 1) = ((p - 1 : Nat) : Int) := by omega
    have E1 := Lib.hid e1
    clear e1
    go_loop [5, 7, 22] (fun n _ i => ∃ (n' k : Nat), n = vi n' ∧ i = vi k ∧ k ≤ fs.length ∧ Struck (el p m) fs k n' ∧ n' ≤ p - 1) (fun _ _ i => fs.length - (intOf i).toNat)
    case atStart => exact ⟨p - 1, 0, by rw [E1.out], rfl, by omega, Struck.start hp HX.out fs, Nat.le_refl _⟩
    case round =>
      obtain ⟨n, k, rfl, rfl, hk, hst, hn⟩ := hrel
      by_cases hlt : k < fs.length
      · obtain ⟨ad, rfl, hab, hcell⟩ := hs.at_ (k := k) (by simpa using hlt)
        have hcell' : w'.cell? (ad.add k) = some (vi fs[k]) := by rw [hcell]; simp
        clear hcell
        go_wp2
        have hq2 : 2 ≤ fs[k] := hf.two _ (List.getElem_mem _)
        obtain ⟨q, hq⟩ : ∃ q, q = fs[k] := ⟨_, rfl⟩
        rw [← hq] at hq2
        have HQ := Lib.hid hq
        simp only [← hq]
        clear hq hcell'
        go_loop [5] (fun n => ∃ (n' : Nat), n = vi n' ∧ Struck (el p m) fs k n' ∧ n' ≤ p - 1) (fun n => (intOf n).toNat)
        case atStart => exact ⟨n, rfl, hst, hn⟩
        case round =>
          clear hst hn
          obtain ⟨n', rfl, hst, hn⟩ := hrel
          have hn0 : 0 < n' := Nat.pos_of_ne_zero hst.ne
          have hnb : n' ≤ 2147483647 := by omega
          have em : (n' : Int) % q = ((n' % q : Nat) : Int) := by rw [Int.natCast_emod]
          have ed : (n' : Int) / q = ((n' / q : Nat) : Int) := by rw [Int.natCast_ediv]
          have hdl : n' / q < n' := Nat.div_lt_self hn0 (by omega)
          have hq0 : 0 ≤ (n' : Int) / q := by rw [ed]; exact Int.natCast_nonneg _
          have hq1 : (n' : Int) / q ≤ 2147483647 := by rw [ed]; exact Int.ofNat_le.2 (Nat.le_trans (Nat.le_of_lt hdl) hnb)
          have hI : I64 ((n' : Int) / q) := ⟨by omega, by omega⟩
          have et : ((n' : Int) / q).toNat = n' / q := by rw [ed]; rfl
          have ET := Lib.hid et
          by_cases hd : n' % q = 0
          · have hdv : q ∣ n' := Nat.dvd_of_mod_eq_zero hd
            have t3 : ((n' : Int) % q == 0) = true := by rw [em, hd]; rfl
            by_cases h1 : pw (el p m) (n' / q) = 1
            · have t4 : (fv (pw (el p m) ((n' : Int) / q).toNat) == 1) = true := by rw [beq_iff_eq, et, h1, fv_one hp1]
              have hs2 := hst.strike hf.two hq2 hdv h1
              have hnl : n' / q ≤ p - 1 := Nat.le_trans (Nat.le_of_lt hdl) hn
              have ED := Lib.hid ed
              have HDV := Lib.hid hdv
              clear em ed hd et h1 hdv
              go_wp2_with (go_at_call 48; refine (power_any p hp1 hp2 b m _ hm hI hq0 _ hc).mono ?_; rintro e w' ⟨rfl, rfl⟩)
              go_round
              case rel => exact ⟨n' / q, by rw [ED.out], hs2, hnl⟩
              case measure => rw [ED.out]; simp only [intOf, Int.toNat_natCast]; exact hdl
            · have t4 : (fv (pw (el p m) ((n' : Int) / q).toNat) == 1) = false := by rw [beq_eq_false_iff_ne, et]; exact fun h => h1 ((fv_eq_one hp1).1 h)
              have hs2 := hst.next hlt (by rw [← HQ.out]; exact fun h => h1 h.2)
              clear em ed hd et h1 hdv
              go_wp2_with (go_at_call 48; refine (power_any p hp1 hp2 b m _ hm hI hq0 _ hc).mono ?_; rintro e w' ⟨rfl, rfl⟩)
              go_round
              case rel => exact ⟨n', k + 1, rfl, by go_num, by omega, hs2, hn⟩
              case measure => simp [intOf]; omega
          · have t3 : ((n' : Int) % q == 0) = false := by rw [em, beq_eq_false_iff_ne]; omega
            have hs2 := hst.next hlt (by rw [← HQ.out]; exact fun h => hd (Nat.mod_eq_zero_of_dvd h.1))
            clear em ed hd et
            go_wp2
            go_round
            case rel => exact ⟨n', k + 1, rfl, by go_num, by omega, hs2, hn⟩
            case measure => simp [intOf]; omega
      · obtain rfl : k = fs.length := by omega
        have ho := hst.ord hp hf
        go_wp2
        go_ret
        exact ⟨ret_int (by rw [ordN_of_ord hp HX.out ho]), rfl⟩
end Go.Proofs.YtiohededmcfhjaaDoor
