/- The walk of the law SumsCatches. -/
import Derived.Test.YtehgeiaglddabaaCt
import Derived.Test.YtehgeiaglddabaaAt4
import Derived.Test.YtehgeiaglddabaaRowm
import Derived.Test.YtehgeiaglddabaaLv4
set_option linter.unusedVariables false
namespace Go.Proofs.Ytehgeiaglddabaa
open Go.RowKit Zp

theorem unlike_n (p : Nat) [NeZero p] (hp2 : p ≤ 2147483647) (A : Option Addr) (n cap : Nat) (xs : List Int) (hml : xs.length = n) (hxs : ∀ n ∈ xs, I64 n) (hreach : n * 8 ≤ 140737488351232) (w : World) (hs : SL w A xs) :
    Calls Try.prog 21 #[vi p, .slice A n cap] w fun e w' => SaysW (.bool (ndB (els p xs))) w e w' := by
  subst hml
  exact unlike_any p hp2 A cap xs hxs hreach w hs

/-- no sum: it is told so -/
theorem Total_err (b : Nat) (A : Option Addr) (d c : Nat) (ts : List (List Int)) (hd : ts.length = d) (hd63 : d < 9223372036854775808) (h : ¬ (1 ≤ d ∧ d ≤ 4 ∧ ∃ v, Over ts v)) (w : World) (hs : TB w A ts) :
    Calls Try.prog 31 #[.pointer (some ⟨b, 0, none⟩), .slice A d c] w fun e w' => e = NoInt 2 ∧ Below w.heap.size w w' := by
  by_cases h1 : d = 0 ∨ 4 < d
  · exact (Total_d b A d c hd63 h1 w).mono fun e w' ⟨h2, h3⟩ => ⟨h2, h3 ▸ Below.refl _ _⟩
  · exact Total_no b A d c ts hd (by omega) (by omega) (fun hv => h ⟨by omega, by omega, hv⟩) w hs

/-- the tables with their first variable let be r, as lists -/
def fixI (q h : Nat) [NeZero q] (ts : List (List Int)) (d : Nat) (r : Fin q) : List (List Int) := (List.range d).map fun j => fvs (fixL h (tabOf q ts j) r)
theorem fixI_length (q h : Nat) [NeZero q] (ts : List (List Int)) (d : Nat) (r : Fin q) : (fixI q h ts d r).length = d := by simp [fixI]
theorem fixI_take (q h : Nat) [NeZero q] (ts : List (List Int)) (d : Nat) (r : Fin q) (k : Nat) (hk : k < d) : (fixI q h ts d r).take k ++ [fvs (fixL h (tabOf q ts k) r)] = (fixI q h ts d r).take (k + 1) := by
  rw [List.take_succ_eq_append_getElem (by rw [fixI_length]; exact hk)]; simp [fixI]
theorem fixI_over (q u : Nat) [NeZero q] (ts : List (List Int)) (d : Nat) (r : Fin q) (hu : u ≤ 12) : Over (fixI q (2 ^ u) ts d r) u := fun l hl => by
  obtain ⟨j, _, rfl⟩ := List.mem_map.1 hl
  exact ⟨hu, by rw [List.length_map, fixL_length]⟩
theorem fixI_i64 (q h : Nat) [NeZero q] (hq : q ≤ 2147483647) (ts : List (List Int)) (d : Nat) (r : Fin q) : ∀ l ∈ fixI q h ts d r, ∀ x ∈ l, I64 x := fun l hl => by
  obtain ⟨j, _, rfl⟩ := List.mem_map.1 hl
  exact i64_fvsR _ hq
theorem fixI_tot (q h : Nat) [NeZero q] (ts : List (List Int)) (d : Nat) (r : Fin q) : totP d h (tabOf q (fixI q h ts d r)) = totP d h (fixT h (tabOf q ts) r) := by
  refine sumT_congr fun i _ => prodT_congr fun j hj => ?_
  have e : tabOf q (fixI q h ts d r) j = fixL h (tabOf q ts j) r := by
    unfold tabOf fixI
    rw [List.getD_eq_getElem?_getD, List.getElem?_map, List.getElem?_range hj]
    simp only [Option.map_some, Option.getD_some]
    rw [els_fvs]
    rfl
  rw [e]; rfl

theorem OwnR.below {w w' : World} {base : Nat} {v : Value} {us : List Value} (h : OwnR w base v us) (hb : Below w.heap.size w w') : OwnR w' base v us := by
  rcases h.2 with h0 | ⟨g, cap, cur, e, h1, hg, h2⟩
  · exact ⟨h.1, .inl h0⟩
  · have hlt : g < w.heap.size := (World.ownsRow.lt h g (by rw [e]; rfl)).2
    exact ⟨h.1, .inr ⟨g, cap, cur, e, h1, (hb.block g hlt).trans hg, h2⟩⟩
theorem Fld.drewR {w : World} {S b p : Nat} [NeZero p] (h : Fld w S b p) : Fld w.drew S b p := ⟨h.prime, h.three, h.max, h.lt, h.le, h.c0, h.c1, h.c2⟩
/-- the elements that were drawn so far are met -/
def CatRel (q : Nat) [NeZero q] (M : Fin q → Fin q) (E : List (Fin q)) (zs : List Int) (n : Nat) (w4 : World) (i : Value) (wr : World) : Prop :=
  ∃ k : Nat, k ≤ n ∧ i = vi k ∧ (∀ j (hj : j < zs.length), j < k → M (el q zs[j]) = ev E (el q zs[j])) ∧ Below w4.heap.size w4 wr
/-- the tables that are fixed so far -/
def CatIn (q h : Nat) [NeZero q] (ts : List (List Int)) (d : Nat) (r : Fin q) (w4 : World) (v i : Value) (wr : World) : Prop :=
  ∃ (k : Nat) (us : List Value), k ≤ d ∧ i = vi k ∧ OwnR wr w4.heap.size v us ∧ RowsOwn wr w4.heap.size us ((fixI q h ts d r).take k) ∧ Below w4.heap.size w4 wr
set_option maxRecDepth 100000 in
set_option maxHeartbeats 4000000 in
theorem catches_walk (w : World) (p : Int) (hp : I64 p) (A : Option Addr) (na ca : Nat) (ts : List (List Int)) (ha : ArgM w A na ca ts) (claim : Int) (hcl : I64 claim) (B : Option Addr) (nb cb : Nat) (ys : List Int) (hb : ArgS w B nb cb ys) (C : Option Addr) (nc cc : Nat) (zs : List Int) (hc : ArgS w C nc cc zs) :
    Calls Try.prog 7 #[vi p, .slice A na ca, vi claim, .slice B nb cb, .slice C nc cc] w fun e w' => SaysW (.bool true) w e w' := by
  have hrb := hb.r8
  have hrc := hc.r8
  rw [hb.len] at hrb
  rw [hc.len] at hrc
  have hna := ha.cap
  have hca := ha.max
  have HLA := Lib.hid ha.len
  have HLB := Lib.hid hb.len
  have HLC := Lib.hid hc.len
  by_cases hF : HasField p
  · obtain ⟨h3, hm, hpr⟩ := hF
    obtain ⟨q, rfl⟩ := Int.eq_ofNat_of_zero_le (a := p) (by omega)
    rw [Int.toNat_natCast] at hpr
    haveI := hpr.ne
    have hqm : q ≤ 2147483647 := by omega
    have hq2 : 2 ≤ q := by omega
    have HPL := Lib.hid (fun w => plain4_yes q (by omega) (by omega) hpr w)
    have HUN := Lib.hid (fun w hs => unlike_n q hqm C nc cc zs HLC.out hc.i64 hrc w hs)
    have HOF := Lib.hid (fun w => rof_any q hqm claim hcl w)
    by_cases hT : 1 ≤ na ∧ na ≤ 4 ∧ ∃ v, Over ts v
    · obtain ⟨h1, h4, v, hov⟩ := hT
      have HTOT := Lib.hid (fun b w hcb hs => Total_any q b hq2 hqm A na ca ts HLA.out h1 h4 v hov w hcb hs)
      obtain ⟨T, hTT⟩ : ∃ T, T = totP na (2 ^ v) (tabOf q ts) := ⟨_, rfl⟩
      rw [← hTT] at HTOT
      obtain ⟨c, hcc⟩ : ∃ c, c = el q claim := ⟨_, rfl⟩
      rw [← hcc] at HOF
      obtain ⟨nd, hnd⟩ : ∃ nd, nd = ndB (els q zs) := ⟨_, rfl⟩
      rw [← hnd] at HUN
      have HOV := Lib.hid hov
      have HTT := Lib.hid hTT
      have HND := Lib.hid hnd
      have HPR := Lib.hid hpr
      clear hov hTT hnd hcc hpr
      go_enter Try.func7, Try.ntmps7
      go_wp2_with fail
      refine (lives4_any _).mono ?_
      rintro e w1 ⟨rfl, hb1⟩
      go_wp2_with fail
      refine (HPL.out _).mono ?_
      rintro e w2 ⟨b, rfl, F, hb2⟩
      have hbel2 := hb1.trans (hb2.mono hb1.size)
      go_wp2_with fail
      refine (HTOT.out b _ F.c0 (ha.tb.below hbel2)).mono ?_
      rintro e w3 ⟨rfl, hb3⟩
      have hbel3 := hbel2.trans (hb3.mono hbel2.size)
      have F3 := F.below hb3 (Nat.le_refl _)
      go_wp2_with fail
      refine (HUN.out _ (hc.sl.below hbel3)).mono ?_
      rintro e w4 ⟨rfl, hb4⟩
      have hbel4 := hbel3.trans (hb4.mono hbel3.size)
      have F4 := F3.below hb4 F3.le
      clear hb1 hb2 hb3 hb4 hbel2 hbel3 F F3
      go_wp2_with fail
      refine (HOF.out _).mono ?_
      rintro e w' ⟨rfl, rfl⟩
      by_cases g1 : T = c
      · have t1 : (fv T == fv c) = true := by rw [g1]; simp
        clear g1
        go_wp2
        go_ret
        exact ⟨rfl, hbel4⟩
      · have t1 : (fv T == fv c) = false := by rw [beq_eq_false_iff_ne]; exact fun h => g1 (fv_inj h)
        have G1 := Lib.hid g1
        clear g1
        by_cases g2 : nb = na + 1
        · by_cases g3 : q ≤ na
          · go_wp2
            go_ret
            exact ⟨rfl, hbel4⟩
          · by_cases g4 : nc = na + 1
            · cases nd with
              | false =>
                go_wp2
                go_ret
                exact ⟨rfl, hbel4⟩
              | true =>
                have hsb := hb.sl.below hbel4
                have hy0 : 0 < ys.length := by rw [HLB.out]; omega
                have hy1 : 1 < ys.length := by rw [HLB.out]; omega
                obtain ⟨ad, hB, _, hc0⟩ := hsb.at_ hy0
                obtain ⟨ad', hB', _, hc1⟩ := hsb.at_ hy1
                rw [hB] at hB'
                injection hB' with hB'
                subst hB'
                have e0 : ad.add 0 = ad := by cases ad; simp [Addr.add]
                rw [e0] at hc0
                have i0 := hb.i64 _ (List.getElem_mem hy0)
                have i1 := hb.i64 _ (List.getElem_mem hy1)
                have hev0 : co (els q ys) 0 = el q ys[0] := by rw [co_of_lt (by simpa using hy0)]; simp
                have hev1 : co (els q ys) 1 = el q ys[1] := by rw [co_of_lt (by simpa using hy1)]; simp
                generalize ys[0] = y0 at hc0 i0 hev0
                generalize ys[1] = y1 at hc1 i1 hev1
                have n1 : 1 < nb := by omega
                have n0 : 0 < nb := by omega
                have j1 : (1 : Int) < (nb : Int) := by omega
                have j0 : (0 : Int) < (nb : Int) := by omega
                have hc1' : w4.cell? ⟨ad.block, ad.off + 1, none⟩ = some (vi y1) := by simpa [Addr.add] using hc1
                have t2 : ((nb : Int) != (na : Int) + 1) = false := by rw [bne_eq_false_iff_eq]; omega
                have t4 : ((nc : Int) != (na : Int) + 1) = false := by rw [bne_eq_false_iff_eq]; omega
                have HE0 := Lib.hid hev0
                have HE1 := Lib.hid hev1
                have G2 := Lib.hid g2
                have G4 := Lib.hid g4
                clear e0 hev0 hev1 g2 g4
                by_cases g5 : el q y0 + el q y1 = c
                · have t5 : (fv (el q y0 + el q y1) != fv c) = false := by rw [g5]; simp
                  have G5 := Lib.hid g5
                  clear g5
                  subst hB
                  go_wp2
                  refine wp_region_quiet_lit (by kernel_rfl) (by kernel_rfl) ?_
                  repeat (first | quiet_step ((go_at_call 33; exact quiet_eq (radd_any q hqm _ _ i0 i1 _))) | (refine wpQuiet_step (fun K hK => ?_); go_simp; refine hK _ ?_; clear hK K))
                  refine wpQuiet_nil ?_
                  intro wq hw'
                  obtain ⟨nq, hw''⟩ := hw'
                  subst hw''
                  have hbW : Below w4.heap.size w4 (w4.drewN nq) := below_drewN (Below.refl _ _) _
                  obtain ⟨E, hE⟩ : ∃ E, E = fitL (els q (idsI nb)) (els q ys) := ⟨_, rfl⟩
                  have hat := fun r hr W hs => at4_any q HPR.out hq2 hqm (some ad) nb cb ys HLB.out hb.i64 (by have := G2.out; omega) (by have := G2.out; omega) r hr W hs
                  rw [← hE] at hat
                  have HAT := Lib.hid hat
                  have HE := Lib.hid hE
                  clear hat hE hc0 hc1 hc1' i0 i1 n1 n0 j1 j0
                  go_wp2
                  rcases v with _ | u
                  · go_loopw [19, 20, 21, 22, 23, 24, 25, 26] (fun i _ _ _ _ _ _ _ wr => i = vi (0 : Nat) ∧ Below w4.heap.size w4 wr) (fun i _ _ _ _ _ _ _ _ => nc - (intOf i).toNat)
                    case atStart => exact ⟨rfl, hbW⟩
                    case round =>
                      obtain ⟨rfl, hbr⟩ := hrel
                      obtain ⟨wo, hwo⟩ : ∃ wo : World, wo = wr := ⟨_, rfl⟩
                      subst hwo
                      have hn0 : (0 : Nat) < nc := by have := G4.out; omega
                      go_wp2
                      go_loopw [20, 21, 22, 23] (fun _ k _ _ wr => k = vi (0 : Nat) ∧ Below w4.heap.size w4 wr) (fun _ k _ _ _ => na - (intOf k).toNat)
                      case atStart => exact ⟨rfl, hbr⟩
                      case round =>
                        obtain ⟨rfl, hbi⟩ := hrel
                        have hk0 : 0 < ts.length := by rw [HLA.out]; omega
                        have hz0 : 0 < zs.length := by rw [HLC.out]; omega
                        obtain ⟨ad3, A1, n1, c1, rfl, _, hc3, hl3, h63, _, _⟩ := (ha.tb.below (hbel4.trans (hbi.mono hbel4.size))) 0 hk0
                        obtain ⟨ad4, hC4, _, hc4⟩ := (hc.sl.below (hbel4.trans (hbi.mono hbel4.size))).at_ hz0
                        have iz := hc.i64 _ (List.getElem_mem hz0)
                        generalize zs[0] = z0 at hc4 iz
                        have e3 : ad3.add 0 = ad3 := by cases ad3; simp [Addr.add]
                        have e4 : ad4.add 0 = ad4 := by cases ad4; simp [Addr.add]
                        rw [e3] at hc3
                        rw [e4] at hc4
                        have hcu : Cube n1 0 := by rw [← hl3]; exact HOV.out _ (List.getElem_mem hk0)
                        have hfn := fun W => fix_no b A1 n1 c1 h63 (fun v' hv' => by have := hcu.inj hv'; omega) z0 W
                        have HFN := Lib.hid hfn
                        have hna0 : (0 : Int) < (na : Int) := by omega
                        have hnc0 : (0 : Int) < (nc : Int) := by omega
                        subst hC4
                        clear e3 e4 hcu hfn hl3
                        go_wp2
                        go_quiet ((go_at_call 34; exact quiet_eq (HFN.out _)))
                        go_wp2
                        go_ret
                        exact ⟨rfl, below_drewN (hbel4.trans (hbi.mono hbel4.size)) _⟩
                  · obtain ⟨h, hh⟩ : ∃ h, h = 2 ^ u := ⟨_, rfl⟩
                    have hu12 : u + 1 ≤ 12 := by
                      have hk0 : 0 < ts.length := by rw [HLA.out]; omega
                      exact (HOV.out _ (List.getElem_mem hk0)).1
                    have HH := Lib.hid hh
                    clear hh
                    go_loopw [19, 20, 21, 22, 23, 24, 25, 26] (fun i _ _ _ _ _ _ _ wr => CatRel q (fun r => totP na h (fixT h (tabOf q ts) r)) E zs nc w4 i wr) (fun i _ _ _ _ _ _ _ _ => nc - (intOf i).toNat)
                    case atStart => exact ⟨0, Nat.zero_le _, rfl, fun j hj hk => absurd hk (by omega), hbW⟩
                    case round =>
                      obtain ⟨i, hi, rfl, hmet, hbr⟩ := hrel
                      have HMET := Lib.hid hmet
                      clear hmet
                      obtain ⟨wo, hwo⟩ : ∃ wo : World, wo = wr := ⟨_, rfl⟩
                      subst hwo
                      by_cases hin : i < nc
                      · have hiz : i < zs.length := by rw [HLC.out]; exact hin
                        have iz := hc.i64 _ (List.getElem_mem hiz)
                        have hcz : ∀ W, Below w.heap.size w W → ∃ ad4, C = some ad4 ∧ (ad4.add i).block < W.heap.size ∧ W.cell? (ad4.add i) = some (vi zs[i]) := fun W hW => by
                          obtain ⟨ad4, e1, _, e2⟩ := (hc.sl.below hW).at_ hiz
                          exact ⟨ad4, e1, block_lt_of_cell e2, e2⟩
                        have hmet2 : ∀ (hm : totP na h (fixT h (tabOf q ts) (el q zs[i])) = ev E (el q zs[i])), ∀ j (hj : j < zs.length), j < i + 1 → totP na h (fixT h (tabOf q ts) (el q zs[j])) = ev E (el q zs[j]) := fun hm j hj hk => by
                          by_cases hji : j = i
                          · subst hji; exact hm
                          · exact HMET.out j hj (by omega)
                        obtain ⟨z0, hz0⟩ : ∃ z0, z0 = zs[i] := ⟨_, rfl⟩
                        rw [← hz0] at iz hmet2
                        simp only [← hz0] at hcz
                        have HMET2 := Lib.hid hmet2
                        have HCZ := Lib.hid hcz
                        clear hz0 hmet2 hcz
                        go_wp2
                        go_loopw [20, 21, 22, 23] (fun v k _ _ wr => CatIn q h ts na (el q z0) w4 v k wr) (fun _ k _ _ _ => na - (intOf k).toNat)
                        case atStart => exact ⟨0, [], Nat.zero_le _, rfl, World.ownsRow_nil _ _ _ _, RowsOwn.nil _ _, hbr⟩
                        case round =>
                          obtain ⟨k, us, hk, rfl, hown, hrows, hbi⟩ := hrel
                          have hbwi := hbel4.trans (hbi.mono hbel4.size)
                          by_cases hkn : k < na
                          · have hkt : k < ts.length := by rw [HLA.out]; exact hkn
                            obtain ⟨ad3, A1, n1, c1, hA3, hl3b, hc3, hl3, h63, hs3, hi3⟩ := (ha.tb.below hbwi) k hkt
                            obtain ⟨ad4, hC4, hl4b, hc4⟩ := HCZ.out _ hbwi
                            have hcu : Cube n1 (u + 1) := by rw [← hl3]; exact HOV.out _ (List.getElem_mem hkt)
                            have hn1 : n1 = 2 * h := by rw [hcu.2, HH.out, Nat.pow_succ]; omega
                            have FI := F4.below hbi F4.le
                            have hfx := fun (W : World) (FW : Fld W w2.heap.size b q) (hsW : SL W A1 ts[k]) => fix_any q w2.heap.size b n1 u h hcu hn1 A1 c1 ts[k] hl3 hi3 z0 iz W FW hsW
                            have htk : els q ts[k] = tabOf q ts k := by unfold tabOf; rw [List.getD_eq_getElem?_getD, List.getElem?_eq_getElem hkt]; rfl
                            rw [htk] at hfx
                            have hst := fixI_take q h ts na (el q z0) k hkn
                            have hlen := hrows.1
                            rw [List.length_take, fixI_length] at hlen
                            have hus : us.length = k := by omega
                            have HFX := Lib.hid hfx
                            have HST := Lib.hid hst
                            have HUS := Lib.hid hus
                            have i1 : (0 : Int) ≤ (k : Int) := by omega
                            have i2 : (k : Int) < na := by omega
                            have i3 : (0 : Int) ≤ (i : Int) := by omega
                            have i4 : (i : Int) < nc := by omega
                            subst hA3 hC4
                            clear hfx hst hlen hus htk hcu hn1 hl3
                            go_wp2
                            go_region_held3 (fun w' => w'.cell? (ad3.add k) = some (.slice A1 n1 c1) ∧ w'.cell? (ad4.add i) = some (vi z0)) (first | exact ⟨hc3, hc4⟩ | go_keep | exact ⟨(hb5.cell hl3b).trans hc3, (hb5.cell hl4b).trans hc4⟩) ((go_at_call 34; refine (HFX.out _ FI.drewR hs3.drew).mono ?_; rintro e w5 ⟨v5, rfl, hown5, hb5⟩))
                            obtain ⟨A5, n5, c5, rfl, hl5, hc5, _, _⟩ := hown5.shapeN
                            have hb5w : Below wr.heap.size wr w5 := ⟨hb5.os, hb5.tape, hb5.output, hb5.size, hb5.block⟩
                            have hb45 := hbi.trans (hb5w.mono hbi.size)
                            have hownR5 := OwnR.below hown hb5w
                            have hrows5 := (hrows.below hb5w).snoc (Own.more hown5 hbi.size)
                            rw [HST.out] at hrows5
                            have hsz := hb45.size
                            clear hown hrows hown5 hl5 hc5
                            go_wp2_with (at_builtin; refine wpList_appR w5 A5 n5 c5 rfl _ _ rfl w4.heap.size _ us rfl rfl hownR5 (by rw [HUS.out]; omega) hsz ?_; intro v' w6 hg)
                            go_roundw
                            case rel => exact ⟨k + 1, us ++ [.slice A5 n5 c5], by omega, by go_num, hg.own, hg.rows hownR5 hrows5, hg.below hb45 hownR5 (Nat.le_refl _) hsz⟩
                            case measure => simp [intOf]; omega
                          · obtain rfl : k = na := by omega
                            rw [List.take_of_length_le (by rw [fixI_length]; exact Nat.le_refl _)] at hrows
                            obtain ⟨A6, n6, c6, rfl, hl6, _⟩ := ownR_shape hown
                            have hl6' := hrows.1
                            rw [fixI_length, hl6] at hl6'
                            subst hl6'
                            have htb := tb_own hown hrows (fixI_i64 q h hqm ts n6 (el q z0))
                            have hov2 : Over (fixI q h ts n6 (el q z0)) u := by rw [HH.out]; exact fixI_over q u ts n6 _ (by omega)
                            have hcbi := (F4.below hbi F4.le).c0
                            have htot := Total_any q b hq2 hqm A6 n6 c6 (fixI q h ts n6 (el q z0)) (fixI_length ..) h1 h4 u hov2 wr hcbi htb
                            rw [← HH.out, fixI_tot] at htot
                            have HTOT2 := Lib.hid htot
                            clear htot hov2 htb hown hrows hl6 hcbi
                            go_wp2_with fail
                            refine (HTOT2.out).mono ?_
                            rintro e w7 ⟨rfl, hb7⟩
                            have hb47 := hbi.trans (hb7.mono hbi.size)
                            have hbw7 := hbel4.trans (hb47.mono hbel4.size)
                            obtain ⟨ad4, hC4, hl4b, hc4⟩ := HCZ.out _ hbw7
                            have i3 : (0 : Int) ≤ (i : Int) := by omega
                            have i4 : (i : Int) < nc := by omega
                            have hsb7 := hsb.below hb47
                            subst hC4
                            go_wp2_with fail
                            refine (HAT.out z0 iz _ hsb7).mono ?_
                            rintro e w8 ⟨rfl, hb8⟩
                            have hb48 := hb47.trans (hb8.mono hb47.size)
                            by_cases hm : totP n6 h (fixT h (tabOf q ts) (el q z0)) = ev E (el q z0)
                            · have t8 : (fv (totP n6 h (fixT h (tabOf q ts) (el q z0))) != fv (ev E (el q z0))) = false := by rw [hm]; simp
                              have HM := Lib.hid (HMET2.out hm)
                              clear hm
                              go_wp2
                              go_roundw
                              case rel => exact ⟨i + 1, by omega, by go_num, HM.out, hb48⟩
                              case measure => simp [intOf]; omega
                            · have t8 : (fv (totP n6 h (fixT h (tabOf q ts) (el q z0))) != fv (ev E (el q z0))) = true := by rw [bne_iff_ne]; exact fun e => hm (fv_inj e)
                              clear hm
                              go_wp2
                              go_ret
                              exact ⟨rfl, hbel4.trans (hb48.mono hbel4.size)⟩
                      · exfalso
                        have hnb : nb = na + 1 := G2.out
                        have hnodup : (els q zs).Nodup := by
                          rcases Classical.em (els q zs).Nodup with h0 | h0
                          · exact h0
                          · have := HND.out; rw [ndB_false h0] at this; cases this
                        have hfit := fitL_fitted HPR.out (els q ys) (ids_nodup (p := q) (n := nb) (by omega))
                        rw [← HE.out] at hfit
                        have hidl : (els q (idsI nb)).length = nb := by rw [List.length_map, idsI_length]
                        have he0 := hfit.at_ 0 (by omega)
                        have he1 := hfit.at_ 1 (by omega)
                        rw [if_pos (by omega), co_ids (by omega), HE0.out] at he0
                        rw [if_pos (by omega), co_ids (by omega), HE1.out] at he1
                        have hel := hfit.len
                        have z0 : el q ((0 : Nat) : Int) = 0 := el_zero
                        have z1 : el q ((1 : Nat) : Int) = 1 := el_one
                        rw [z0] at he0
                        rw [z1] at he1
                        have hcat := catch_law HPR.out (d := na) (h := h) (tabOf q ts) (g := E) (by omega) hnodup (by rw [List.length_map, HLC.out]; exact G4.out) (fun r hr => by
                          obtain ⟨x, hx, rfl⟩ := List.mem_map.1 hr
                          obtain ⟨j, hj, rfl⟩ := List.getElem_of_mem hx
                          exact HMET.out j hj (by have := HLC.out; omega))
                        rw [he0, he1, G5.out] at hcat
                        refine G1.out ?_
                        rw [HTT.out, ← hcat, HH.out, Nat.pow_succ, Nat.mul_comm]
                · have t5 : (fv (el q y0 + el q y1) != fv c) = true := by rw [bne_iff_ne]; exact fun h => g5 (fv_inj h)
                  clear g5
                  subst hB
                  go_wp2
                  refine wp_region_quiet_lit (by kernel_rfl) (by kernel_rfl) ?_
                  repeat (first | quiet_step ((go_at_call 33; exact quiet_eq (radd_any q hqm _ _ i0 i1 _))) | (refine wpQuiet_step (fun K hK => ?_); go_simp; refine hK _ ?_; clear hK K))
                  refine wpQuiet_nil ?_
                  intro wq hw'
                  obtain ⟨nq, hw''⟩ := hw'
                  subst hw''
                  go_wp2
                  go_ret
                  exact ⟨rfl, below_drewN hbel4 _⟩
            · go_wp2
              go_ret
              exact ⟨rfl, hbel4⟩
        · go_wp2
          go_ret
          exact ⟨rfl, hbel4⟩
    · have HTOT := Lib.hid (fun b w hs => Total_err b A na ca ts HLA.out (by omega) hT w hs)
      clear hT hpr
      go_enter Try.func7, Try.ntmps7
      go_wp2_with fail
      refine (lives4_any _).mono ?_
      rintro e w1 ⟨rfl, hb1⟩
      go_wp2_with fail
      refine (HPL.out _).mono ?_
      rintro e w2 ⟨b, rfl, F, hb2⟩
      have hbel2 := hb1.trans (hb2.mono hb1.size)
      go_wp2_with fail
      refine (HTOT.out b _ (ha.tb.below hbel2)).mono ?_
      rintro e w3 ⟨rfl, hb3⟩
      have hbel3 := hbel2.trans (hb3.mono hbel2.size)
      go_wp2_with fail
      refine (HUN.out _ (hc.sl.below hbel3)).mono ?_
      rintro e w4 ⟨rfl, hb4⟩
      have hbel4 := hbel3.trans (hb4.mono hbel3.size)
      go_wp2_with fail
      refine (HOF.out _).mono ?_
      rintro e w' ⟨rfl, rfl⟩
      go_wp2
      go_ret
      exact ⟨rfl, hbel4⟩
  · have HN := Lib.hid (fun w => plain4_no p hF w)
    clear hF
    go_enter Try.func7, Try.ntmps7
    go_wp2_with fail
    refine (lives4_any _).mono ?_
    rintro e w1 ⟨rfl, hb1⟩
    go_wp2_with fail
    refine (HN.out _).mono ?_
    rintro e w' ⟨rfl, rfl⟩
    go_wp2
    go_ret
    exact ⟨rfl, hb1⟩
end Go.Proofs.Ytehgeiaglddabaa
