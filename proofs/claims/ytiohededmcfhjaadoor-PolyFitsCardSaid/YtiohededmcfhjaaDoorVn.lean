/- The walk of poly.Vanish. -/
import Derived.Test.YtiohededmcfhjaaDoorDv
import Derived.Test.YtiohededmcfhjaaDoorFp
set_option linter.unusedVariables false
namespace Go.Proofs.YtiohededmcfhjaaDoor
open Go.RowKit Zp

set_option maxRecDepth 100000 in
set_option maxHeartbeats 4000000 in
theorem pvan_any (p : Nat) [NeZero p] (hp : IsPrime p) (hp1 : 2 ≤ p) (hp2 : p ≤ 2147483647) (b : Nat) (A : Option Addr) (na ca : Nat) (xs : List Int) (hna : xs.length = na) (hxs : ∀ n ∈ xs, I64 n) (hr : na * 8 ≤ 140737488351232) (w : World) (hc : w.cell? ⟨b, 0, none⟩ = some (vi p)) (hsx : SL w A xs) :
    Calls Tryd.prog 15 #[.pointer (some ⟨b, 0, none⟩), .slice A na ca] w fun e w' => Made (fvs (vanL (els p xs))) w e w' := by
  have hbl : b < w.heap.size := block_lt_of_cell hc
  obtain ⟨l, hl⟩ : ∃ l, l = els p xs := ⟨_, rfl⟩
  rw [← hl]
  have hll : l.length = na := by rw [hl]; simp [hna]
  have hco : ∀ k (hk : k < xs.length) (hk' : k < l.length), l[k] = el p xs[k] := fun k hk hk' => by simp [hl]
  have ho1 : OwnC (w.alloc (.cells #[vi 1] 3)) w.heap.size w.heap.size (0 + 1) (0 + 1) (vanL (l.take 0)) := by
    refine ⟨rfl, ?_⟩
    have h := own_lit w w.heap.size [1] (Nat.le_refl _) (by simp [maxLen])
    have e : fvs (vanL (l.take 0)) = [1] := by rw [List.take_zero, vanL]; simp [fv_one hp1]
    rw [e]; exact h
  have HO1 := Lib.hid ho1
  have HLL := Lib.hid hll
  have HCO := Lib.hid hco
  have HNA := Lib.hid hna
  have HP := Lib.hid hp
  clear hl hll hna hco ho1 hp
  go_enter Tryd.func15, Tryd.ntmps15
  go_wp2
  go_loopw [5, 14] (fun v i wr => ∃ k g : Nat, k ≤ na ∧ i = vi k ∧ v = .slice (some ⟨g, 0, none⟩) (k + 1) (k + 1) ∧ OwnC wr w.heap.size g (k + 1) (k + 1) (vanL (l.take k)) ∧ Below w.heap.size w wr) (fun _ i _ => na - (intOf i).toNat)
  case atStart => exact ⟨0, w.heap.size, Nat.zero_le _, rfl, rfl, HO1.out, (Below.refl _ _).alloc (Nat.le_refl _) _⟩
  case round =>
    obtain ⟨k, g, hk, rfl, rfl, hown, hb⟩ := hrel
    obtain ⟨W0, hW0⟩ : ∃ W0 : World, W0 = wr := ⟨_, rfl⟩
    subst hW0
    by_cases hkn : k < na
    · have hkl : k < l.length := by rw [HLL.out]; exact hkn
      have hkx : k < xs.length := by rw [HNA.out]; exact hkn
      obtain ⟨ad, rfl, hab, hcell⟩ := (hsx.below hb).at_ hkx
      have hI := hxs _ (List.getElem_mem hkx)
      have hcr : W0.cell? ⟨b, 0, none⟩ = some (vi p) := (hb.cell (p := ⟨b, 0, none⟩) hbl).trans hc
      have hblr : b < W0.heap.size := block_lt_of_cell hcr
      have hst : vanL (l.take (k + 1)) = vanS (vanL (l.take k)) (el p xs[k]) := by
        rw [List.take_succ_eq_append_getElem hkl, vanL_snoc, HCO.out k hkx hkl]
      have hmo : Monic (vanL (l.take k)) k := by
        have h := monic_van HP.out (l.take k)
        rwa [List.length_take, Nat.min_eq_left (by omega)] at h
      generalize xs[k] = x at hcell hI hst
      generalize vanL (l.take k) = O at hown hmo hst
      obtain ⟨nx, hnx⟩ : ∃ nx, nx = k + 2 := ⟨_, rfl⟩
      have hOE := OwnC.made (p := p) W0 w.heap.size nx hb.size (by omega)
      have hmk := make_ints nx nx (Nat.le_refl _) (by omega)
      have en : (nx : Int) = (k : Int) + 1 + 1 := by omega
      rw [en] at hmk
      have HNX := Lib.hid hnx
      have HST := Lib.hid hst
      have HMO := Lib.hid hmo
      have hvs := VanIn.start O (el p x) nx (by rw [hmo.len, hnx])
      have HVS := Lib.hid hvs
      have hg := hown.lt
      have hba : Below W0.heap.size W0 (W0.alloc (.cells (zeros nx) 3)) := (Below.refl _ _).alloc (Nat.le_refl _) _
      obtain ⟨G, hG⟩ : ∃ G, G = W0.heap.size := ⟨_, rfl⟩
      have ewk : IntKind.i64.wrap ((k : Int) + 1 + 1) = (k : Int) + 1 + 1 := IntWalk.i64_in _ (by omega)
      have ewk1 : IntKind.i64.wrap ((k : Int) + 1) = (k : Int) + 1 := IntWalk.i64_in _ (by omega)
      clear hst hmo hvs en hnx
      go_wp2
      go_loopw [24] (fun t wr => ∃ (j : Nat) (N : List (Fin p)), j ≤ k + 1 ∧ t = vi j ∧ OwnC wr w.heap.size W0.heap.size nx nx N ∧ VanIn O (el p x) j N ∧ Below W0.heap.size W0 wr) (fun t _ => k + 1 - (intOf t).toNat)
      case atStart => exact ⟨0, _, Nat.zero_le _, rfl, hOE, HVS.out, hba⟩
      case round =>
        obtain ⟨j, N, hj, rfl, hoN, hvi, hb'⟩ := hrel
        by_cases hjk : j ≤ k
        · have hcr' : W0.cell? ⟨b, 0, none⟩ = some (vi p) := hcr
          have hcq : wr.cell? ⟨b, 0, none⟩ = some (vi p) := (hb'.cell (p := ⟨b, 0, none⟩) hblr).trans hcr
          have hcO := (hown.below hb').at_ j (by omega)
          have hj1 : j + 1 < nx := by rw [HNX.out]; omega
          have hcA := hoN.at_ (j + 1) hj1
          have hfA := hoN.frozen (j + 1)
          have hcB := hoN.at_ j (by omega)
          have hfB := hoN.frozen j
          obtain ⟨y, hy⟩ : ∃ y, y = co O j := ⟨_, rfl⟩
          rw [← hy] at hcO
          obtain ⟨a0, ha0⟩ : ∃ a0, a0 = co N (j + 1) := ⟨_, rfl⟩
          rw [← ha0] at hcA
          obtain ⟨c0, hc0⟩ : ∃ c0, c0 = co N j := ⟨_, rfl⟩
          rw [← hc0] at hcB
          obtain ⟨a1, ha1⟩ : ∃ a1, a1 = a0 + y := ⟨_, rfl⟩
          obtain ⟨T, hT⟩ : ∃ T, T = el p x * y := ⟨_, rfl⟩
          obtain ⟨c1, hc1⟩ : ∃ c1, c1 = c0 - T := ⟨_, rfl⟩
          have hvst := hvi.step (by rw [HMO.out.len]; omega) (a := a1) (c := c1) (by rw [ha1, ha0, hy]) (by rw [hc1, hc0, hT, hy])
          have hadd := fun W hcW => add_any p hp2 b (fv a0) (fv y) (i64_fv _ hp2) (i64_fv _ hp2) W hcW
          rw [el_fv, el_fv, ← ha1] at hadd
          have hmul := fun W hcW => mul_any p hp2 b x (fv y) hI (i64_fv _ hp2) W hcW
          rw [el_fv, ← hT] at hmul
          have hsub := fun W hcW => sub_any p hp2 b (fv c0) (fv T) (i64_fv _ hp2) (i64_fv _ hp2) W hcW
          rw [el_fv, el_fv, ← hc1] at hsub
          have HADD := Lib.hid hadd
          have HMUL := Lib.hid hmul
          have HSUB := Lib.hid hsub
          have HVST := Lib.hid hvst
          clear hadd hmul hsub hvst hy ha0 hc0 ha1 hT hc1 hvi
          have i3 : (0 : Int) ≤ (j : Int) := by omega
          have i4 : (j : Int) < (k : Int) + 1 := by omega
          have i5 : (0 : Int) ≤ (j : Int) + 1 := by omega
          have i6 : (j : Int) + 1 < nx := by omega
          have i6b : (j : Int) < nx := by omega
          have i7 : ((j : Int) + 1).toNat = j + 1 := by omega
          have i8 : IntKind.i64.wrap ((j : Int) + 1) = (j : Int) + 1 := IntWalk.i64_in _ (by omega)
          have hmx : Tryd.prog.follows .mixedOrders = true := by kernel_rfl
          go_wp2_with fail
          refine (HADD.out _ (by exact hcq)).mono ?_
          rintro e w' ⟨rfl, k1, rfl⟩
          have hne : ¬ b = W0.heap.size := by omega
          have hcq2 : ((wr.drewN k1).setCell ⟨W0.heap.size, j + 1, none⟩ (vi (fv a1))).cell? ⟨b, 0, none⟩ = some (vi p) := setCell_keep (by exact hcq) hne
          have hoN1 := (hoN.drewN k1).store (j + 1) a1
          have hb1 := (below_drewN hb' k1).setCell (p := ⟨W0.heap.size, j + 1, none⟩) (Nat.le_refl _) (vi (fv a1))
          have hcB2 := hoN1.at_ j (by omega)
          have hfB2 := hoN1.frozen j
          have hcB3 : ((wr.drewN k1).setCell ⟨W0.heap.size, j + 1, none⟩ (vi (fv a1))).cell? ⟨W0.heap.size, j, none⟩ = some (vi (fv c0)) := by
            rw [World.cell?_setCell_other _ _ _ _ (fun e => by injection e with _ e _; omega)]
            exact hcB
          clear hcB2 i5 i6 i7 i8
          go_wp2
          refine wp_region_quiet_tail 13 hmx (by kernel_rfl) ?_
          simp only [List.take_succ_cons, List.take_zero, List.drop_succ_cons, List.drop_zero]
          repeat (quiet_step (first | (go_at_call 25; exact Calls.quiet_of (HMUL.out _ (by exact hcq2))) | (go_at_call 26; exact quiet_eq (HSUB.out _ (by exact hcq2)))))
          refine wpQuiet_nil ?_
          intro _ hw'
          obtain ⟨nq1, hw''⟩ := hw'
          subst hw''
          have hoN2 := (hoN1.drewN nq1).store j c1
          have hb2 := (below_drewN hb1 nq1).setCell (p := ⟨W0.heap.size, j, none⟩) (Nat.le_refl _) (vi (fv c1))
          go_wp2
          go_roundw
          case rel => exact ⟨j + 1, _, by omega, by go_num, hoN2, HVST.out, hb2⟩
          case measure => simp [intOf]; omega
        · obtain rfl : j = k + 1 := by omega
          have hdn := VanIn.done HP.out HMO.out (by rw [HMO.out.len]; exact hvi)
          rw [← HST.out] at hdn
          subst hdn
          have hoN2 : OwnC wr w.heap.size W0.heap.size (k + 1 + 1) (k + 1 + 1) (vanL (l.take (k + 1))) := by
            have := hoN
            rwa [HNX.out] at this
          have hbb := hb.trans (hb'.mono hb.size)
          have en : (nx : Int) = (k : Int) + 1 + 1 := by have := HNX.out; omega
          clear hvi hoN
          go_wp2
          go_roundw
          case rel => exact ⟨k + 1, W0.heap.size, by omega, by go_num, by rw [HNX.out], hoN2, hbb⟩
          case measure => simp [intOf]; omega
    · obtain rfl : k = na := by omega
      have he : l.take k = l := List.take_of_length_le (by rw [HLL.out]; exact Nat.le_refl _)
      rw [he] at hown
      clear he
      go_wp2
      go_ret
      exact ⟨_, rfl, by have := hown.2; rw [Own]; exact this, hb⟩
end Go.Proofs.YtiohededmcfhjaaDoor
