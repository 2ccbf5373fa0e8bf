/- A bundle of texts: Gw17, Gw18, Ta1, Pc1. -/
import Derived.Test.YteceghbjjnknbaaGreatQ11
import Derived.Test.YteceghbjjnknbaaGreatQ12
import Derived.Test.YteceghbjjnknbaaGreatQ08
import Derived.Test.YteceghbjjnknbaaGreatQ05
import Derived.Test.YteceghbjjnknbaaGreatQ04
import Derived.Test.YteceghbjjnknbaaGreatQ09
set_option linter.unusedVariables false
set_option linter.unusedSimpArgs false
namespace Go.Proofs.YteceghbjjnknbaaGreat
open Go.RowKit Zp
theorem kdown1_any (A1 : Option Addr) (n1 c1 : Nat) (x : List Int) (hx : x.length = n1) (hn : n1 ≤ 9223372036854775807) (w : World) :
    Calls Tryz.prog 72 #[.slice A1 n1 c1] w fun e w' => e = .returned (.bool (decide (x.length ≠ 3))) ∧ w = w' := by
  have HX := Lib.hid hx
  by_cases h4 : n1 = 3
  · have HR := Lib.hid (show decide (x.length ≠ 3) = false by rw [hx, h4]; rfl)
    clear hx
    subst h4
    go_enter Tryz.func72, Tryz.ntmps72
    go_wp2
    go_ret
    exact ⟨ret_bool HR.out.symm, rfl⟩
  · have HR := Lib.hid (show decide (x.length ≠ 3) = true by rw [hx]; simpa using h4)
    have t1 : ((n1 : Int) != 3) = true := by rw [bne_iff_ne]; omega
    clear hx h4
    go_enter Tryz.func72, Tryz.ntmps72
    go_wp2
    go_ret
    exact ⟨ret_bool HR.out.symm, rfl⟩
theorem DigNew.below {w w' : World} {c B : Nat} (h : DigNew w c B) (hb : Below w.heap.size w w') : DigNew w' c B := by
  obtain ⟨g, cap, h1, h2⟩ := h
  exact ⟨g, cap, (hb.cell (block_lt_of_cell h1)).trans h1, h2⟩
theorem lineG_at {p : Nat} [NeZero p] (kk : Nat) (f : Nat → Fin p) (n : Nat) (L : List GateI) (z : List (Fin p)) (D : List Int) (t : Nat) (ht : t < n + 1) : (lineG p kk f n L z D)[t]? = some (fv (extF f (betw ((xsG p kk f n L z D (2 * n)).take n) ((xsG p kk f n L z D (2 * n)).drop n) (el p ((t : Nat) : Int))))) := by
  unfold lineG
  rw [List.getElem?_map, List.getElem?_range ht]; rfl
def KdownIs {p : Nat} [NeZero p] (kk c s : Nat) (f : Nat → Fin p) (n : Nat) (L : List GateI) (z : List (Fin p)) (D : List Int) (w : World) (e : Ending) (w' : World) : Prop :=
  ∃ (AN : Option Addr) (cN : Nat), e = .returned (.tuple #[.slice AN n cN, vi (fv (extF f (zN p kk f n L z D))), .bool true]) ∧ SL w' AN (fvs (zN p kk f n L z D)) ∧ (∀ ad, AN = some ad → c < ad.block) ∧ Chn w' c s (dgN p kk f n L z D) ∧ w.grownBy w' (some c) ∧ n ≤ cN ∧ cN ≤ maxLen
set_option maxRecDepth 100000 in
set_option maxHeartbeats 8000000 in
theorem kdown_any (p S b s kk zz kc v c : Nat) [NeZero p] (h23 : 23 ≤ p) (oo : Nat → Nat → Fin p) (AL : Option Addr) (nL cL : Nat) (Ls : List (List GateR)) (hLn : Ls.length = nL) (hyes : CirR (v : Int) Ls) (li : Nat) (hli : li < Ls.length) (n : Nat) (hn : n = nvR Ls v li) (f : Nat → Fin p)
    (A : Option Addr) (nz cz : Nat) (zs : List Int) (hzs : zs.length = nz) (hnz : nz ≤ 64) (hzI : ∀ x ∈ zs, I64 x) (D : List Int) (AT : Option Addr) (cT : Nat) (A5 : Option Addr) (c5 : Nat) (w0 w : World) (hpr : IsPrime p) (hp2 : p ≤ 2147483647) (hSc : S ≤ c) (hsc : s < c)
    (HK : ∀ W, w.grownBy W (some c) → Fld W S b p ∧ Spg W s b kk zz oo ∧ Blk W kc 92 #[.pointer (some ⟨b, 0, none⟩), vi (v : Int), .slice AL nL cL, .pointer (some ⟨c, 0, none⟩)] ∧ LT W AL Ls ∧ SL W A zs ∧ TB W AT (toldG p kk f n (Ls[li].map gI) (els p zs) D (2 * n)) ∧ SL W A5 (lineG p kk f n (Ls[li].map gI) (els p zs) D) ∧ Below w0.heap.size w0 W) (hT0 : TB w0 AT (toldG p kk f n (Ls[li].map gI) (els p zs) D (2 * n))) (hC : Chn w c s D) :
    Calls Tryz.prog 29 #[.pointer (some ⟨kc, 0, none⟩), vi li, .slice A nz cz, vi (fv (partE f n (Ls[li].map gI) (els p zs) [])), .slice AT (2 * n) cT, .slice A5 (n + 1) c5] w (KdownIs kk c s f n (Ls[li].map gI) (els p zs) D w) := by
  have hc := hC.lt
  have hp1 : 2 ≤ p := by omega
  have h6 : n ≤ 6 := by rw [hn]; exact hyes.small li
  have hVA := Lib.hid (fun W hLT => vars_lvl v AL nL cL Ls hLn hyes li (by omega) ((li : Int) - 1) rfl W hLT)
  rw [← hn] at hVA
  have hli8 : li ≤ 8 := by have := hyes.n8; omega
  have iw : IntKind.i64.wrap ((li : Int) - 1) = (li : Int) - 1 := IntWalk.i64_in _ (by constructor <;> omega)
  have hgn : GNn Ls[li] := fun g hg => by
    obtain ⟨g1, g2, g3, g4, g5⟩ := hyes.gate li hli g hg
    exact ⟨by omega, g2, g4⟩
  have hWR := Lib.hid (fun (k2 : Nat) (hk2 : k2 ≤ 1) (B C : Option Addr) (cB cC : Nat) (xs ys : List Int) hlx hly hIx hIy (W : World) F hLT hsz hsx hsy => wire_any p S b (v : Int) AL nL cL Ls li hli hLn hgn (hyes.lay64 _ (List.getElem_mem hli)) k2 hk2 A B C nz cz n cB n cC zs xs ys hzs hlx hly hnz (by omega) (by omega) hzI hIx hIy W F hLT hsz hsx hsy)
  have hki : ∀ g ∈ Ls[li].map gI, g.k = 0 ∨ g.k = 1 := fun g hg => by
    obtain ⟨g', hg', rfl⟩ := List.mem_map.1 hg
    obtain ⟨g1, _⟩ := hyes.gate li hli g' hg'
    show g'.k.toNat = 0 ∨ g'.k.toNat = 1
    omega
  obtain ⟨LI, hLI⟩ : ∃ LI, LI = Ls[li].map gI := ⟨_, rfl⟩
  obtain ⟨z, hz⟩ : ∃ z, z = els p zs := ⟨_, rfl⟩
  rw [← hLI] at hWR hki
  rw [← hLI, ← hz] at HK hT0 ⊢
  have HT0 := Lib.hid hT0
  rw [← hz] at hWR
  have HKI := Lib.hid hki
  have HKK := Lib.hid HK
  have HC := Lib.hid hC
  have KW := HK w ⟨rfl, rfl, rfl, Nat.le_refl _, fun _ _ _ => rfl⟩
  have e1 := (KW.2.2.1.cell 1).trans (show _ = some (vi (v : Int)) from rfl)
  have e2 := (KW.2.2.1.cell 2).trans (show _ = some (.slice AL nL cL) from rfl)
  have HKW := Lib.hid KW
  have t2n : IntKind.i64.wrap (2 * (n : Int)) = 2 * (n : Int) := IntWalk.i64_in _ (by constructor <;> omega)
  have t1n : IntKind.i64.wrap ((n : Int) + 1) = (n : Int) + 1 := IntWalk.i64_in _ (by constructor <;> omega)
  have k1 : (2 * (n : Int) != 2 * (n : Int)) = false := by simp
  have k2 : ((n : Int) + 1 != (n : Int) + 1) = false := by simp
  have hTl := toldG_len p kk f n LI z D (2 * n)
  have HCF := Lib.hid (fun (W : World) (hT : TB W AT (toldG p kk f n LI z D (2 * n))) => containsR_any 72 (fun _ _ => rfl) (fun l => decide (l.length ≠ 3)) AT (2 * n) cT _ hTl (by omega) W (fun A1 n1 c1 x hx hn _ => kdown1_any A1 n1 c1 x hx hn _) hT)
  have hany : (toldG p kk f n LI z D (2 * n)).any (fun l => decide (l.length ≠ 3)) = false := by
    rw [List.any_eq_false]
    intro l hl
    obtain ⟨i, _, rfl⟩ := List.mem_map.1 hl
    simp [told3]
  rw [hany] at HCF
  clear HK hC KW hT0 hLI hz hn hli hyes hLn hzs hzI hgn hki hany hTl
  go_enter Tryz.func29, Tryz.ntmps29
  go_wp2_with fail
  refine (hVA.out _ HKW.out.2.2.2.1).mono ?_
  rintro _ w2 ⟨rfl, hb2⟩
  have HG2 := Lib.hid (grown_of_below hb2 (some c))
  have HC2 := Lib.hid (HC.out.below hb2)
  clear hb2
  go_wp2_with fail
  refine (HCF.out _ (HKK.out _ HG2.out).2.2.2.2.2.1).mono ?_
  rintro _ _ ⟨rfl, rfl⟩
  go_wp2
  go_loopw [3, 16, 52] (fun cv xv i wr => ∃ (r : Nat), r ≤ 2 * n ∧ i = vi r ∧ cv = vi (fv (partE f n LI z (xsG p kk f n LI z D r))) ∧ Own wr w.heap.size xv (fvs (xsG p kk f n LI z D r)) ∧ Chn wr c s (dgG p kk f n LI z D r) ∧ w.grownBy wr (some c)) (fun _ _ i _ => 2 * n - (intOf i).toNat)
  case atStart => exact ⟨0, Nat.zero_le _, rfl, rfl, World.ownsRow_nil _ _ _ _, HC2.out, HG2.out⟩
  case round =>
    rename World => w3
    obtain ⟨r, hr, rfl, rfl, hX, hC3, hg3⟩ := hrel
    obtain ⟨AX, nX, cX, rfl, hlX, hcX, hmX, hsX⟩ := hX.shapeN
    have hxl : (xsG p kk f n LI z D r).length = r := xsG_length p kk f n LI z D r
    have hnX : nX = r := by rw [← hlX]; simpa [fvs] using hxl
    subst hnX
    by_cases hrn : nX < 2 * n
    · have k0 : (nX : Int) < 2 * (n : Int) := by omega
      obtain ⟨X, hXe⟩ : ∃ X, X = xsG p kk f n LI z D nX := ⟨_, rfl⟩
      obtain ⟨Dr, hDr⟩ : ∃ Dr, Dr = dgG p kk f n LI z D nX := ⟨_, rfl⟩
      have hxs := xsG_succ p kk f n LI z D nX
      have hds := dgG_succ p kk f n LI z D nX
      obtain ⟨TO, hTO⟩ : ∃ TO, TO = told3 p f n LI z X := ⟨_, rfl⟩
      rw [← hXe] at hX hlX hsX hxl hxs hds
      rw [← hDr] at hC3 hxs hds
      rw [← hTO] at hxs hds
      rw [← hXe]
      obtain ⟨P, hP⟩ : ∃ P, P = partE f n LI z X := ⟨_, rfl⟩
      rw [← hP]
      have hXlt : X.length < 2 * n := by rw [hxl]; exact hrn
      have hsum : partE f n LI z (X ++ [0]) + partE f n LI z (X ++ [1]) = P := by rw [hP]; exact round_ok hXlt
      obtain ⟨P0, hP0⟩ : ∃ P0, P0 = partE f n LI z (X ++ [0]) := ⟨_, rfl⟩
      obtain ⟨P1, hP1⟩ : ∃ P1, P1 = partE f n LI z (X ++ [1]) := ⟨_, rfl⟩
      rw [← hP0, ← hP1] at hsum
      have hKw := HKK.out w3 hg3
      have htl : nX < (toldG p kk f n LI z D (2 * n)).length := by rw [toldG_len]; exact hrn
      obtain ⟨at0, A1, n1, c1, hAT, ha1, hca0, hl1, hn1, hs0, -⟩ := HT0.out nX htl
      have hbw0 := hKw.2.2.2.2.2.2.2
      have hca1 := (hbw0.cell ha1).trans hca0
      have hs1 := hs0.below hbw0
      have htg : (toldG p kk f n LI z D (2 * n))[nX] = TO := by simp [toldG, hTO, hXe]
      rw [htg] at hl1 hs1 hs0
      have hn13 : n1 = 3 := by rw [← hl1, hTO]; rfl
      subst hn13
      obtain ⟨a1, rfl, _, cc0⟩ := hs1.at_ (k := 0) (by rw [hl1]; decide)
      obtain ⟨a1', ea1, _, cc1⟩ := hs1.at_ (k := 1) (by rw [hl1]; decide)
      injection ea1 with ea1
      subst ea1
      have ct0 : TO[0]'(by rw [hl1]; decide) = fv P0 := by simp [hTO, told3, hP0]
      have ct1 : TO[1]'(by rw [hl1]; decide) = fv P1 := by simp [hTO, told3, hP1]
      rw [ct0] at cc0
      rw [ct1] at cc1
      have ea0 : a1.add 0 = a1 := by cases a1; simp [Addr.add]
      have cc0' := cc0
      rw [ea0] at cc0'
      have ea1 : a1.add 1 = ⟨a1.block, a1.off + 1, none⟩ := by simp [Addr.add]
      rw [ea1] at cc1
      have tP : (fv P != fv P) = false := by simp
      have HSUM := Lib.hid hsum
      have HTI : Hid (∀ x ∈ TO, I64 x) := Lib.hid (by rw [hTO]; exact told3_i64 p f n LI z hp2 X)
      have HTO := Lib.hid hTO
      have HXS := Lib.hid hxs
      have HDS := Lib.hid hds
      have HX := Lib.hid hX
      have HC3 := Lib.hid hC3
      have HG3 := Lib.hid hg3
      have HKW3 := Lib.hid hKw
      have HXE := Lib.hid (And.intro hXe hXlt)
      have HL1 := Lib.hid hl1
      have HS1 := Lib.hid hs1
      have HS0 := Lib.hid hs0
      have HLF := Lib.hid (show (fvs X).length < 17592186044416 by rw [hlX]; omega)
      have q0 := (hKw.2.2.1.cell 0).trans (show _ = some (.pointer (some ⟨b, 0, none⟩)) from rfl)
      have hr12 : nX ≤ 12 := by omega
      subst hAT
      clear hsum hxs hds hTO hXe hDr hP hP0 hP1 hX hC3 hg3 hKw hlX hsX hxl htl htg ha1 hca0 hs0 hbw0 ct0 ct1 hl1 hs1 hXlt
      go_upto_region 8 with (fail)
      refine wp_region_held_drew (S := fun W => W.cell? ⟨kc, 0, none⟩ = some (.pointer (some ⟨b, 0, none⟩)) ∧ W.cell? a1 = some (vi (fv P0)) ∧ W.cell? ⟨a1.block, a1.off + 1, none⟩ = some (vi (fv P1)) ∧ W.cell? (a1.add 0) = some (vi (fv P0))) (by kernel_rfl) ⟨q0, cc0', cc1, cc0⟩ (fun hHeld => ?_)
      refine tkH 0 ?_
      refine tkH 1 ?_
      refine tkH 2 ?_
      refine tkH 3 ?_
      refine tkH 4 ?_
      refine tkH 5 ?_
      refine tkH 6 ?_
      refine tkH 7 ?_
      refine tkH 8 ?_
      refine tkH 9 ?_
      refine tkH 11 ?_
      refine stH 10 (fun K hK => ?_)
      go_simp
      refine (add_any p hp2 b _ _ (i64_fv _ hp2) (i64_fv _ hp2) w3.drew (HKW3.out.1.c0)).mono ?_
      simp only [el_fv]
      rw [HSUM.out]
      rintro _ w4 ⟨rfl, k4, h4⟩
      have hb4 : Below w3.heap.size w3 w4 := by rw [h4]; exact below_drewN (below_drewN (Below.refl _ _) 1) _
      have hS4 : w4.cell? ⟨kc, 0, none⟩ = some (.pointer (some ⟨b, 0, none⟩)) ∧ w4.cell? a1 = some (vi (fv P0)) ∧ w4.cell? ⟨a1.block, a1.off + 1, none⟩ = some (vi (fv P1)) ∧ w4.cell? (a1.add 0) = some (vi (fv P0)) := by rw [h4]; exact ⟨q0, cc0', cc1, cc0⟩
      clear h4
      refine hK.out _ _ hS4 (fun hHeld => ?_)
      clear hK K
      (try simp only [Act.put, List.setIfInBounds_toArray, List.set_cons_zero, List.set_cons_succ])
      refine tkH 12 ?_
      refine wpAnyH_done (by kernel_rfl) ?_ _
      have hgw4 : w.grownBy w4 (some c) := grownBy_trans HG3.out (grown_of_below hb4 _)
      have hC4 := HC3.out.below hb4
      have HX4 := Lib.hid (HX.out.below hb4)
      have hKw4 := HKK.out w4 hgw4
      have y2 := (hKw4.2.2.1.cell 3).trans (show _ = some (.pointer (some ⟨c, 0, none⟩)) from rfl)
      have HTK := Lib.hid (chtake_any p S b s kk zz c oo Dr (some a1) 3 c1 TO HL1.out HTI.out (by decide) w4 hKw4.1 hKw4.2.1 hSc hsc hC4 (HS1.out.below hb4))
      have HSAFE := Lib.hid (fun (W : World) (hg : w4.grownBy W (some c)) => (show Safe w4 W by obtain ⟨cv, hcv⟩ := hC4.obj; exact Safe.one hg hcv ⟨by decide, by decide, by decide⟩))
      have HGW4 := Lib.hid hgw4
      have HS14 := Lib.hid (HS1.out.below hb4)
      clear hHeld q0 cc0 cc0' cc1 hS4 hb4 hgw4 hC4 hKw4 ea0 ea1
      go_wp2_with fail
      refine HTK.out.mono ?_
      rintro _ w6 ⟨⟨r6, rfl⟩, hC6, hg6, hd6⟩
      have hgw6 := grownBy_trans HGW4.out hg6
      obtain ⟨dv, hdv⟩ : ∃ dv, dv = (drawnL p kk (digL p kk (3 :: (Dr ++ TO)))).getD 0 0 := ⟨_, rfl⟩
      have hdI : I64 dv := by
        obtain ⟨x, hx⟩ := digL_bounds (p := p) (k := kk) (4 :: digL p kk (3 :: (Dr ++ TO))) (j := 0) (by omega)
        have hx' : (drawnL p kk (digL p kk (3 :: (Dr ++ TO)))).getD 0 0 = fv x := hx
        rw [hdv, hx']
        exact i64_fv x hp2
      have HXS2 := HXS
      rw [← hdv] at HXS2
      have hdr := chdraw_any p S b s kk zz c oo (digL p kk (3 :: (Dr ++ TO))) w6 (HKK.out w6 hgw6).1 (HKK.out w6 hgw6).2.1 hSc hsc hC6
      unfold DrawIs at hdr
      rw [← hdv] at hdr
      have HDR := Lib.hid hdr
      have y6 := ((HKK.out w6 hgw6).2.2.1.cell 3).trans (show _ = some (.pointer (some ⟨c, 0, none⟩)) from rfl)
      have HDV := Lib.hid hdv
      have HGW6 := Lib.hid hgw6
      have HS6 := Lib.hid (HSAFE.out w6 hg6)
      have HSAFE6 := Lib.hid (fun (W : World) (hg : w6.grownBy W (some c)) => (show Safe w6 W by obtain ⟨cv, hcv⟩ := hC6.obj; exact Safe.one hg hcv ⟨by decide, by decide, by decide⟩))
      clear hdr hdv hC6 hg6 hd6 hgw6 y2
      go_wp2_with fail
      refine HDR.out.mono ?_
      rintro _ w7 ⟨rfl, hC7, hg7, hd7⟩
      have hgw7 := grownBy_trans HGW6.out hg7
      have hX7 := (HX4.out.safe HS6.out).safe (HSAFE6.out w7 hg7)
      have hKw7 := HKK.out w7 hgw7
      have y7 := (hKw7.2.2.1.cell 0).trans (show _ = some (.pointer (some ⟨b, 0, none⟩)) from rfl)
      have hs7 := HS0.out.below hKw7.2.2.2.2.2.2.2
      have HTH := Lib.hid (through_any p S b h23 3 (by decide) (some a1) c1 TO HL1.out HTI.out dv hdI w7 hKw7.1 hs7)
      have HX7 := Lib.hid (And.intro hX7 (And.intro hC7 hd7))
      have HGW7 := Lib.hid hgw7
      have HXB := Lib.hid (show ∀ q, (Value.slice AX nX cX).ownBlock = some q → q < w6.heap.size from fun q hq => ((HX4.out.safe HS6.out).lt q hq).2)
      clear hgw7 hX7 hKw7 hs7 hC7 hg7 hd7 y6
      go_wp2_with fail
      refine HTH.out.mono ?_
      rintro _ w8 ⟨Q, hQ, rfl, hb8⟩
      have hQP : ev Q (el p dv) = partE f n LI z (X ++ [el p dv]) := by
        have e3 : (els p TO).length = 3 := by simp [els, HL1.out]
        rw [e3] at hQ
        rw [HTO.out] at hQ
        exact round_fit hpr h23 HXE.out.2 hQ (el p dv)
      have hXn : xsG p kk f n LI z D (nX + 1) = X ++ [el p dv] := by
        have h := congrArg (els p) HXS2.out
        rw [els_fvs, els, List.map_append, ← els, els_fvs] at h
        exact h
      have HCL : Hid (fv (ev Q (el p dv)) = fv (partE f n LI z (xsG p kk f n LI z D (nX + 1)))) := Lib.hid (by rw [hXn, hQP])
      have HX8 := Lib.hid (And.intro (HX7.out.1.below hb8) (And.intro (HX7.out.2.1.below hb8) (HX7.out.2.2.below hb8)))
      have HGW8 := Lib.hid (grownBy_trans HGW7.out (grown_of_below hb8 _))
      clear hQ hb8 hQP hXn
      go_upto_region 14 with (at_builtin; refine wpList_app1 w8 dv rfl _ _ rfl w.heap.size (.slice AX nX cX) (fvs X) rfl rfl HX8.out.1 HLF.out HGW8.out.size ?_; intro v9 w9 hg9; obtain ⟨A9, n9, c9, rfl, hl9, _, _, _⟩ := hg9.own.shapeN)
      have hC9 := HX8.out.2.1.app HX8.out.1 hg9.grown hc HX8.out.2.2 HXB.out
      rw [← HDS.out] at hC9
      have ho9 := hg9.own
      rw [← HXS2.out] at ho9
      have hgw9 : w.grownBy w9 (some c) := grownBy_new HGW8.out hg9.grown fun q hq => (HX8.out.1.lt q hq).1
      have H9 := Lib.hid (And.intro ho9 (And.intro hC9 hgw9))
      clear hC9 ho9 hgw9 hg9 hl9
      go_wp2
      go_roundw
      case rel => exact ⟨nX + 1, by omega, by go_num, by rw [HCL.out], H9.out.1, H9.out.2.1, H9.out.2.2⟩
      case measure => simp only [intOf, Int.toNat_natCast]; omega
    · have en : nX = 2 * n := by omega
      subst en
      have k0 : ¬ ((2 * n : Nat) : Int) < 2 * (n : Int) := by omega
      have k0' : ¬ 2 * (n : Int) < 2 * (n : Int) := by omega
      have kcx : n ≤ cX := by omega
      have kn : n ≤ 2 * n := by omega
      have k2 : (n : Int) ≤ 2 * (n : Int) := by omega
      have e2n : 2 * n - n = n := by omega
      obtain ⟨X, hXe⟩ : ∃ X, X = xsG p kk f n LI z D (2 * n) := ⟨_, rfl⟩
      rw [← hXe] at hX hlX hsX hxl
      rw [← hXe]
      obtain ⟨P, hP⟩ : ∃ P, P = partE f n LI z X := ⟨_, rfl⟩
      rw [← hP]
      obtain ⟨AY, hAY⟩ : ∃ AY, AY = (if cX = n then AX else Option.map (fun x => x.add n) AX) := ⟨_, rfl⟩
      have HAY := Lib.hid hAY
      have HOX := Lib.hid hX
      have HXL := Lib.hid hxl
      have HL1 := Lib.hid (show (X.take n).length = n by rw [List.length_take, hxl]; omega)
      have HL2 := Lib.hid (show (X.drop n).length = n by rw [List.length_drop, hxl]; omega)
      have HC3 := Lib.hid hC3
      have HG3 := Lib.hid hg3
      have HXE := Lib.hid hXe
      have HCX := Lib.hid hcX
      have hPf : P = wireE LI 0 z (X.take n) (X.drop n) * (extF f (X.take n) + extF f (X.drop n)) + wireE LI 1 z (X.take n) (X.drop n) * (extF f (X.take n) * extF f (X.drop n)) := by
        rw [hP]
        have h := part_full f n LI z (X.take n) (X.drop n) HL1.out HL2.out HKI.out
        rw [List.take_append_drop] at h
        exact h
      have HPF := Lib.hid hPf
      go_upto_region 15 with (fail)
      refine wp_region_held_drew (S := fun W' => True) (by kernel_rfl) trivial (fun hHeld => ?_)
      refine tkH 0 ?_
      refine tkH 1 ?_
      refine tkH 2 ?_
      refine tkH 3 ?_
      refine tkH 4 ?_
      refine tkH 5 ?_
      refine tkH 6 ?_
      refine tkH 7 ?_
      refine wpAnyH_done (by kernel_rfl) ?_ _
      rw [← hAY]
      clear hHeld hX hlX hsX hxl hC3 hg3 hXe hAY hP hPf
      have hC3d := HC3.out.drewN 1
      have hg3d : w.grownBy w3.drew (some c) := grownBy_trans HG3.out (grown_of_below (below_drewN (Below.refl _ _) 1) _)
      have hK3 := HKK.out w3.drew hg3d
      have hll : (lineG p kk f n LI z D).length = n + 1 := by simp [lineG]
      have hli2 : ∀ x ∈ lineG p kk f n LI z D, I64 x := fun x hx => by
        unfold lineG at hx
        obtain ⟨t, _, rfl⟩ := List.mem_map.1 hx
        exact i64_fv _ hp2
      have HTK := Lib.hid (chtake_any p S b s kk zz c oo (dgG p kk f n LI z D (2 * n)) A5 (n + 1) c5 (lineG p kk f n LI z D) hll hli2 (by omega) w3.drew hK3.1 hK3.2.1 hSc hsc hC3d hK3.2.2.2.2.2.2.1)
      have HSAFE := Lib.hid (fun (W : World) (hg : w3.drew.grownBy W (some c)) => (show Safe w3.drew W by obtain ⟨cv, hcv⟩ := hC3d.obj; exact Safe.one hg hcv ⟨by decide, by decide, by decide⟩))
      have y3 := (hK3.2.2.1.cell 3).trans (show _ = some (.pointer (some ⟨c, 0, none⟩)) from rfl)
      have HG3D := Lib.hid hg3d
      have HLL := Lib.hid (And.intro hll hli2)
      have HOXD := Lib.hid (show Own w3.drew w.heap.size (.slice AX (2 * n) cX) (fvs X) from HOX.out)
      clear hC3d hg3d hK3 hll hli2
      go_wp2_with fail
      refine HTK.out.mono ?_
      rintro _ w6 ⟨⟨r6, rfl⟩, hC6, hg6, hd6⟩
      obtain ⟨D6, hD6⟩ : ∃ D6, D6 = digL p kk (3 :: (dgG p kk f n LI z D (2 * n) ++ lineG p kk f n LI z D)) := ⟨_, rfl⟩
      rw [← hD6] at hC6
      obtain ⟨dv, hdv⟩ : ∃ dv, dv = (drawnL p kk D6).getD 0 0 := ⟨_, rfl⟩
      have hdI : I64 dv := by
        obtain ⟨x, hx⟩ := digL_bounds (p := p) (k := kk) (4 :: D6) (j := 0) (by omega)
        have hx' : (drawnL p kk D6).getD 0 0 = fv x := hx
        rw [hdv, hx']
        exact i64_fv x hp2
      have hgw6 := grownBy_trans HG3D.out hg6
      have hdr := chdraw_any p S b s kk zz c oo D6 w6 (HKK.out w6 hgw6).1 (HKK.out w6 hgw6).2.1 hSc hsc hC6
      unfold DrawIs at hdr
      rw [← hdv] at hdr
      have HDR := Lib.hid hdr
      have y6 := ((HKK.out w6 hgw6).2.2.1.cell 3).trans (show _ = some (.pointer (some ⟨c, 0, none⟩)) from rfl)
      have HDD := Lib.hid (And.intro hdv hD6)
      have HGW6 := Lib.hid hgw6
      have HOX6 := Lib.hid (HOXD.out.safe (HSAFE.out w6 hg6))
      have HSAFE6 := Lib.hid (fun (W : World) (hg : w6.grownBy W (some c)) => (show Safe w6 W by obtain ⟨cv, hcv⟩ := hC6.obj; exact Safe.one hg hcv ⟨by decide, by decide, by decide⟩))
      clear hdr hdv hD6 hC6 hg6 hd6 hgw6 y3
      go_wp2_with fail
      refine HDR.out.mono ?_
      rintro _ w7 ⟨rfl, hC7, hg7, hd7⟩
      have hgw7 := grownBy_trans HGW6.out hg7
      have HC7 := Lib.hid hC7
      have HGW7 := Lib.hid hgw7
      have HOX7 := Lib.hid (HOX6.out.safe (HSAFE6.out w7 hg7))
      clear hC7 hg7 hd7 hgw7 y6
      obtain ⟨EA, hEA⟩ : ∃ EA, EA = extF f (X.take n) := ⟨_, rfl⟩
      obtain ⟨EB, hEB⟩ : ∃ EB, EB = extF f (X.drop n) := ⟨_, rfl⟩
      obtain ⟨m1, hm1⟩ : ∃ m1, m1 = min 1 n := ⟨_, rfl⟩
      have hmi : min (1 : Int) (n : Int) = (m1 : Int) := by rw [hm1]; omega
      have hlA : (lineG p kk f n LI z D)[0]? = some (fv EA) := by
        rw [lineG_at kk f n LI z D 0 (by omega), ← HXE.out, show el p ((0 : Nat) : Int) = 0 by simpa using el_zero (p := p), betw_zero _ _ (by rw [HL1.out, HL2.out]), hEA]
      have hlB : (lineG p kk f n LI z D)[m1]? = some (fv EB) := by
        rw [lineG_at kk f n LI z D m1 (by omega), ← HXE.out]
        by_cases hn0 : n = 0
        · have e0 : m1 = 0 := by omega
          have hx0 : X.take n = [] := List.length_eq_zero_iff.1 (by rw [HL1.out]; exact hn0)
          have hy0 : X.drop n = [] := List.length_eq_zero_iff.1 (by rw [HL2.out]; exact hn0)
          rw [hEB, hx0, hy0]
          rfl
        · have e1 : m1 = 1 := by omega
          rw [e1, show el p ((1 : Nat) : Int) = 1 by simpa using el_one (p := p), betw_one _ _ (by rw [HL1.out, HL2.out]), hEB]
      have hs57 := (HKK.out w7 HGW7.out).2.2.2.2.2.2.1
      obtain ⟨a5, rfl, _, cA⟩ := hs57.at_ (k := 0) (by rw [HLL.out.1]; omega)
      obtain ⟨a5', ea5, _, cB⟩ := hs57.at_ (k := m1) (by rw [HLL.out.1]; omega)
      injection ea5 with ea5
      subst ea5
      have cA2 : w7.cell? a5 = some (vi (fv EA)) := by
        have e : a5.add 0 = a5 := by cases a5; simp [Addr.add]
        rw [List.getElem?_eq_getElem (by rw [HLL.out.1]; omega)] at hlA
        injection hlA with hlA
        rw [e, hlA] at cA
        exact cA
      have cB2 : w7.cell? (a5.add m1) = some (vi (fv EB)) := by
        rw [List.getElem?_eq_getElem (by rw [HLL.out.1]; omega)] at hlB
        injection hlB with hlB
        rw [hlB] at cB
        exact cB
      have j1 : (0 : Int) ≤ (m1 : Int) := by omega
      have j2 : (m1 : Int) < (n : Int) + 1 := by omega
      have j3 : (0 : Int) < (n : Int) + 1 := by omega
      have HEE := Lib.hid (And.intro hEA hEB)
      have KX : Hid (∀ W, Below w7.heap.size w7 W → w.grownBy W (some c) ∧ (W.cell? ⟨kc, 0, none⟩ = some (.pointer (some ⟨b, 0, none⟩)) ∧ W.cell? ⟨kc, 1, none⟩ = some (vi (v : Int)) ∧ W.cell? ⟨kc, 2, none⟩ = some (.slice AL nL cL)) ∧ SL W AX (fvs (X.take n)) ∧ SL W AY (fvs (X.drop n))) := Lib.hid fun W hb => by
        have hg : w.grownBy W (some c) := grownBy_trans HGW7.out (grown_of_below hb _)
        have hk := HKK.out W hg
        obtain ⟨A', n', c', e', _, _, _, hsx⟩ := (HOX7.out.below hb).shapeN
        injection e' with q1 q2 q3
        subst q1 q3
        have hp := parts_sl hsx HXL.out HCX.out
        rw [← HAY.out] at hp
        exact ⟨hg, ⟨(hk.2.2.1.cell 0).trans rfl, (hk.2.2.1.cell 1).trans rfl, (hk.2.2.1.cell 2).trans rfl⟩, hp.1, hp.2⟩
      have HLx := Lib.hid (show (fvs (X.take n)).length = n by simpa [fvs] using HL1.out)
      have HLy := Lib.hid (show (fvs (X.drop n)).length = n by simpa [fvs] using HL2.out)
      obtain ⟨W0, hW0⟩ : ∃ W0, W0 = wireE LI 0 z (X.take n) (X.drop n) := ⟨_, rfl⟩
      obtain ⟨W1, hW1⟩ : ∃ W1, W1 = wireE LI 1 z (X.take n) (X.drop n) := ⟨_, rfl⟩
      have HP2 : Hid (W0 * (EA + EB) + W1 * (EA * EB) = P) := Lib.hid (by rw [HPF.out, hW0, hW1, hEA, hEB])
      have HWW := Lib.hid (And.intro hW0 hW1)
      have tP : (fv P != fv P) = false := by simp
      clear hlA hlB hs57 cA cB hEA hEB hm1 hW0 hW1
      go_upto_region 18 with (fail)
      refine wp_region_held_drew (S := fun W => W.cell? a5 = some (vi (fv EA)) ∧ W.cell? (a5.add m1) = some (vi (fv EB))) (by kernel_rfl) ⟨cA2, cB2⟩ (fun hHeld => ?_)
      refine tkH 0 ?_
      refine tkH 1 ?_
      refine tkH 2 ?_
      refine tkH 3 ?_
      refine tkH 4 ?_
      refine tkH 5 ?_
      refine tkH 6 ?_
      refine tkH 7 ?_
      refine tkH 8 ?_
      refine tkH 9 ?_
      refine wpAnyH_done (by kernel_rfl) ?_ _
      clear hHeld cA2 cB2 hmi
      go_upto_region 19 with (fail)
      have h0 : Below w7.heap.size w7 w7.drew.drew := below_drewN (Below.refl _ _) 2
      refine wp_region_held_drew (S := fun W => W.cell? ⟨kc, 0, none⟩ = some (.pointer (some ⟨b, 0, none⟩)) ∧ W.cell? ⟨kc, 1, none⟩ = some (vi (v : Int)) ∧ W.cell? ⟨kc, 2, none⟩ = some (.slice AL nL cL)) (by kernel_rfl) (KX.out _ h0).2.1 (fun hHeld => ?_)
      refine tkH 0 ?_
      refine tkH 1 ?_
      refine tkH 2 ?_
      refine tkH 3 ?_
      refine tkH 4 ?_
      refine tkH 5 ?_
      refine tkH 6 ?_
      refine tkH 7 ?_
      refine tkH 8 ?_
      refine tkH 9 ?_
      refine tkH 10 ?_
      refine tkH 11 ?_
      refine tkH 12 ?_
      refine tkH 13 ?_
      refine tkH 14 ?_
      refine tkH 15 ?_
      refine tkH 17 ?_
      refine tkH 18 ?_
      refine tkH 19 ?_
      refine tkH 20 ?_
      refine tkH 21 ?_
      refine tkH 22 ?_
      refine stH 16 (fun K hK => ?_)
      go_simp
      have hk0 := HKK.out _ (KX.out _ h0).1
      refine (hWR.out 0 (by decide) AX AY cX (cX - n) (fvs (X.take n)) (fvs (X.drop n)) HLx.out HLy.out (i64_fvs _ hp2) (i64_fvs _ hp2) w7.drew.drew hk0.1 hk0.2.2.2.1 hk0.2.2.2.2.1 (KX.out _ h0).2.2.1 (KX.out _ h0).2.2.2).mono ?_
      rw [els_fvs, els_fvs, ← HWW.out.1]
      rintro _ w8 ⟨rfl, hb8⟩
      have h8 := h0.trans (hb8.mono h0.size)
      refine hK.out _ _ (KX.out _ h8).2.1 (fun hHeld => ?_)
      clear hK K
      (try simp only [Act.put, List.setIfInBounds_toArray, List.set_cons_zero, List.set_cons_succ])
      clear hk0 hb8
      refine stH 23 (fun K hK => ?_)
      go_simp
      refine (add_any p hp2 b _ _ (i64_fv _ hp2) (i64_fv _ hp2) w8 ((HKK.out _ (KX.out _ h8).1).1.c0)).mono ?_
      simp only [el_fv]
      rintro _ w9 ⟨rfl, k9, e9⟩
      have h9 : Below w7.heap.size w7 w9 := by rw [e9]; exact below_drewN h8 _
      clear e9
      refine hK.out _ _ (KX.out _ h9).2.1 (fun hHeld => ?_)
      clear hK K
      (try simp only [Act.put, List.setIfInBounds_toArray, List.set_cons_zero, List.set_cons_succ])
      refine stH 24 (fun K hK => ?_)
      go_simp
      refine (mul_any p hp2 b _ _ (i64_fv _ hp2) (i64_fv _ hp2) w9 ((HKK.out _ (KX.out _ h9).1).1.c0)).mono ?_
      simp only [el_fv]
      rintro _ w10 ⟨rfl, k10, e10⟩
      have h10 : Below w7.heap.size w7 w10 := by rw [e10]; exact below_drewN h9 _
      clear e10
      refine hK.out _ _ (KX.out _ h10).2.1 (fun hHeld => ?_)
      clear hK K
      (try simp only [Act.put, List.setIfInBounds_toArray, List.set_cons_zero, List.set_cons_succ])
      refine tkH 25 ?_
      refine wpAnyH_done (by kernel_rfl) ?_ _
      clear hHeld h0 h8 h9
      go_upto_region 20 with (fail)
      have g0 : Below w7.heap.size w7 w10.drew := below_drewN h10 1
      clear h10
      refine wp_region_held_drew (S := fun W => W.cell? ⟨kc, 0, none⟩ = some (.pointer (some ⟨b, 0, none⟩)) ∧ W.cell? ⟨kc, 1, none⟩ = some (vi (v : Int)) ∧ W.cell? ⟨kc, 2, none⟩ = some (.slice AL nL cL)) (by kernel_rfl) (KX.out _ g0).2.1 (fun hHeld => ?_)
      refine tkH 0 ?_
      refine tkH 1 ?_
      refine tkH 2 ?_
      refine tkH 3 ?_
      refine tkH 4 ?_
      refine tkH 5 ?_
      refine tkH 6 ?_
      refine tkH 7 ?_
      refine tkH 8 ?_
      refine tkH 9 ?_
      refine tkH 10 ?_
      refine tkH 11 ?_
      refine tkH 12 ?_
      refine tkH 13 ?_
      refine tkH 14 ?_
      refine tkH 15 ?_
      refine tkH 17 ?_
      refine tkH 18 ?_
      refine tkH 19 ?_
      refine tkH 20 ?_
      refine tkH 21 ?_
      refine tkH 22 ?_
      refine stH 16 (fun K hK => ?_)
      go_simp
      have hk0 := HKK.out _ (KX.out _ g0).1
      refine (hWR.out 1 (by decide) AX AY cX (cX - n) (fvs (X.take n)) (fvs (X.drop n)) HLx.out HLy.out (i64_fvs _ hp2) (i64_fvs _ hp2) w10.drew hk0.1 hk0.2.2.2.1 hk0.2.2.2.2.1 (KX.out _ g0).2.2.1 (KX.out _ g0).2.2.2).mono ?_
      rw [els_fvs, els_fvs, ← HWW.out.2]
      rintro _ w11 ⟨rfl, hb11⟩
      have g1 := g0.trans (hb11.mono g0.size)
      refine hK.out _ _ (KX.out _ g1).2.1 (fun hHeld => ?_)
      clear hK K
      (try simp only [Act.put, List.setIfInBounds_toArray, List.set_cons_zero, List.set_cons_succ])
      clear hk0 hb11
      refine stH 23 (fun K hK => ?_)
      go_simp
      refine (mul_any p hp2 b _ _ (i64_fv _ hp2) (i64_fv _ hp2) w11 ((HKK.out _ (KX.out _ g1).1).1.c0)).mono ?_
      simp only [el_fv]
      rintro _ w12 ⟨rfl, k12, e12⟩
      have g2 : Below w7.heap.size w7 w12 := by rw [e12]; exact below_drewN g1 _
      clear e12
      refine hK.out _ _ (KX.out _ g2).2.1 (fun hHeld => ?_)
      clear hK K
      (try simp only [Act.put, List.setIfInBounds_toArray, List.set_cons_zero, List.set_cons_succ])
      refine stH 24 (fun K hK => ?_)
      go_simp
      refine (mul_any p hp2 b _ _ (i64_fv _ hp2) (i64_fv _ hp2) w12 ((HKK.out _ (KX.out _ g2).1).1.c0)).mono ?_
      simp only [el_fv]
      rintro _ w13 ⟨rfl, k13, e13⟩
      have g3 : Below w7.heap.size w7 w13 := by rw [e13]; exact below_drewN g2 _
      clear e13
      refine hK.out _ _ (KX.out _ g3).2.1 (fun hHeld => ?_)
      clear hK K
      (try simp only [Act.put, List.setIfInBounds_toArray, List.set_cons_zero, List.set_cons_succ])
      refine tkH 25 ?_
      refine wpAnyH_done (by kernel_rfl) ?_ _
      clear hHeld g0 g1 g2
      have z0 := (KX.out _ g3).2.1.1
      have HADD := Lib.hid (fun W hc => add_any p hp2 b (fv (W0 * (EA + EB))) (fv (W1 * (EA * EB))) (i64_fv _ hp2) (i64_fv _ hp2) W hc)
      simp only [el_fv] at HADD
      rw [HP2.out] at HADD
      have HG3 := Lib.hid g3
      go_wp2_with fail
      refine (HADD.out _ ((HKK.out _ (KX.out _ HG3.out).1).1.c0)).mono ?_
      rintro _ w14 ⟨rfl, k14, e14⟩
      have g4 : Below w7.heap.size w7 w14 := by rw [e14]; exact below_drewN HG3.out _
      clear e14 z0 g3
      go_upto_region 23 with (fail)
      have d0 : Below w7.heap.size w7 w14.drew := below_drewN g4 1
      clear g4
      refine wp_region_held_drew (S := fun W => W.cell? ⟨kc, 0, none⟩ = some (.pointer (some ⟨b, 0, none⟩)) ∧ W.cell? ⟨kc, 1, none⟩ = some (vi (v : Int)) ∧ W.cell? ⟨kc, 2, none⟩ = some (.slice AL nL cL)) (by kernel_rfl) (KX.out _ d0).2.1 (fun hHeld => ?_)
      refine tkH 0 ?_
      refine tkH 1 ?_
      refine tkH 2 ?_
      refine tkH 3 ?_
      refine tkH 4 ?_
      refine tkH 5 ?_
      refine tkH 6 ?_
      refine tkH 8 ?_
      refine tkH 9 ?_
      refine tkH 10 ?_
      refine tkH 11 ?_
      refine tkH 12 ?_
      refine tkH 13 ?_
      refine stH 7 (fun K hK => ?_)
      go_simp
      refine (between_any p S b n (by omega) AX AY cX (cX - n) (fvs (X.take n)) (fvs (X.drop n)) HLx.out HLy.out (i64_fvs _ hp2) (i64_fvs _ hp2) dv hdI w14.drew (HKK.out _ (KX.out _ d0).1).1 (KX.out _ d0).2.2.1 (KX.out _ d0).2.2.2).mono ?_
      rw [els_fvs, els_fvs]
      rintro _ w15 ⟨v15, rfl, ho15, hb15⟩
      obtain ⟨A15, n15, c15, rfl, hl15, hc15, hm15, hs15⟩ := ho15.shapeN
      have d1 := d0.trans (hb15.mono d0.size)
      refine hK.out _ _ (KX.out _ d1).2.1 (fun hHeld => ?_)
      clear hK K
      (try simp only [Act.put, List.setIfInBounds_toArray, List.set_cons_zero, List.set_cons_succ])
      have hz : zN p kk f n LI z D = betw (X.take n) (X.drop n) (el p dv) := by
        rw [HDD.out.1, HDD.out.2, HXE.out]; rfl
      rw [← hz] at ho15 hl15 hs15
      have hn15 : n15 = n := by rw [← hl15]; simp only [fvs, List.length_map]; exact zN_length p kk f n LI z D
      refine stH 14 (fun K hK => ?_)
      go_simp
      refine (through_any p S b h23 (n + 1) (by omega) (some a5) c5 (lineG p kk f n LI z D) HLL.out.1 HLL.out.2 dv hdI w15 (HKK.out _ (KX.out _ d1).1).1 (HKK.out _ (KX.out _ d1).1).2.2.2.2.2.2.1).mono ?_
      rintro _ w16 ⟨Q, hQ, rfl, hb16⟩
      have d2 := d1.trans (hb16.mono d1.size)
      refine hK.out _ _ (KX.out _ d2).2.1 (fun hHeld => ?_)
      clear hK K
      (try simp only [Act.put, List.setIfInBounds_toArray, List.set_cons_zero, List.set_cons_succ])
      refine tkH 15 ?_
      refine tkH 16 ?_
      refine tkH 17 ?_
      refine wpAnyH_done (by kernel_rfl) ?_ _
      have hev : ev Q (el p dv) = extF f (zN p kk f n LI z D) := by
        have e3 : (els p (lineG p kk f n LI z D)).length = n + 1 := by simp [els, HLL.out.1]
        rw [e3] at hQ
        have hline : lineG p kk f n LI z D = (List.range (n + 1)).map fun t => fv (extF f (betw (X.take n) (X.drop n) (el p ((t : Nat) : Int)))) := by
          unfold lineG
          rw [HXE.out]
        rw [hline] at hQ
        rw [hz]
        exact line_fit hpr h23 h6 HL1.out HL2.out hQ (el p dv)
      have hd : drawnL p kk D6 = dgN p kk f n LI z D := by rw [HDD.out.2]; rfl
      have HFIN := Lib.hid (show KdownIs kk c s f n LI z D w (.returned (.tuple #[.slice A15 n c15, vi (fv (ev Q (el p dv))), .bool true])) w16 from
        ⟨A15, c15, by rw [hev], hs15.below hb16, fun ad had => own_above ho15 had (Nat.lt_of_lt_of_le hc (KX.out _ d0).1.size), by rw [← hd]; exact HC7.out.below d2, (KX.out _ d2).1, by omega, hm15⟩)
      clear hHeld d0 d1 d2 hb15 hb16 ho15 hl15 hs15 hn15 hz hQ hev hd hc15 hm15
      go_wp2
      go_ret3
      exact HFIN.out
end Go.Proofs.YteceghbjjnknbaaGreat

namespace Go.Proofs.YteceghbjjnknbaaGreat
open Go.RowKit Zp
theorem claim_lv {p : Nat} [NeZero p] {v : Nat} {inp : List Int} {Ls : List (List GateR)} (h : CirR (v : Int) Ls) (li : Nat) (hl : li < Ls.length) (z : List (Fin p)) (hz : z.length = nvR Ls v (li + 1)) : partE (co (lvE p inp Ls li)) (nvR Ls v li) (Ls[li].map gI) z [] = extF (co (lvE p inp Ls (li + 1))) z := by
  have hgl : Ls.getD li [] = Ls[li] := by rw [List.getD_eq_getElem?_getD, List.getElem?_eq_getElem hl]; rfl
  have hlen := h.len li hl
  rw [hgl] at hlen
  have hin : ∀ g ∈ Ls[li].map gI, g.a < 2 ^ nvR Ls v li ∧ g.b < 2 ^ nvR Ls v li := fun g hg => by
    obtain ⟨g', hg', rfl⟩ := List.mem_map.1 hg
    obtain ⟨_, g2, g3, g4, g5⟩ := h.gate li hl g' hg'
    rw [h.ben li (by omega)] at g3 g5
    show g'.a.toNat < _ ∧ g'.b.toNat < _
    omega
  rw [part_nil _ _ _ _ hin (by rw [List.length_map, hlen, hz])]
  refine extF_congr fun i hi => ?_
  rw [hz, ← hlen] at hi
  have e : (Ls[li].map gI).getD i ⟨0, 0, 0⟩ = gI Ls[li][i] := by rw [List.getD_eq_getElem?_getD, List.getElem?_map, List.getElem?_eq_getElem hi]; rfl
  rw [e]
  have h1 := lvE_at p inp Ls li hl i hi
  have h2 : co (lvE p inp Ls (li + 1)) i = apE Ls[li][i].k.toNat (co (lvE p inp Ls li) Ls[li][i].a.toNat) (co (lvE p inp Ls li) Ls[li][i].b.toNat) := by rw [co, h1]; rfl
  rw [h2]
  rfl
def CheckIs (p kk v : Nat) [NeZero p] (inp : List Int) (Ls : List (List GateR)) (w : World) (e : Ending) (w' : World) : Prop :=
  ∃ (A : Option Addr) (c : Nat) (zs : List Int), e = .returned (.tuple #[.slice A v c, vi (fv (extF (co (els p inp)) (els p zs))), .bool true]) ∧ SL w' A zs ∧ zs.length = v ∧ (∀ x ∈ zs, I64 x) ∧ Below w.heap.size w w' ∧ v ≤ c ∧ c ≤ maxLen
set_option maxRecDepth 100000 in
set_option maxHeartbeats 8000000 in
theorem check_any (p S b s kk zz v : Nat) [NeZero p] (h23 : 23 ≤ p) (oo : Nat → Nat → Fin p) (AL : Option Addr) (nL cL : Nat) (Ls : List (List GateR)) (hLn : Ls.length = nL) (hyes : CirR (v : Int) Ls) (inp : List Int) (hin : inp.length = 2 ^ v) (A : Option Addr) (nA cA : Nat) (hnA : (fvs (lvE p inp Ls nL)).length = nA) (AR AQ : Option Addr) (w : World) (F : Fld w S b p) (G : Spg w s b kk zz oo) (hLT : LT w AL Ls) (hs : SL w A (fvs (lvE p inp Ls nL)))
    (hLA : LayAt w AR AQ Ls.length (ntT v Ls) (rdH p kk v inp Ls (zB p kk v inp Ls) (dB2 p kk v inp Ls)) (lnH p kk v inp Ls (zB p kk v inp Ls) (dB2 p kk v inp Ls))) :
    Calls Tryz.prog 10 #[.pointer (some ⟨s, 0, none⟩), .agg #[vi (v : Int), .slice AL nL cL], .slice A nA cA, .agg #[.slice AR nL nL, .slice AQ nL nL]] w (CheckIs p kk v inp Ls w) := by
  have hp2 := F.max
  have h8 := hyes.n8
  have h1 := hyes.n1
  have hL8 : nL ≤ 8 := by omega
  have hL1 : 1 ≤ nL := by omega
  obtain ⟨l1, hl1⟩ : ∃ l1, nL = l1 + 1 := ⟨nL - 1, by omega⟩
  have hl18 : l1 ≤ 7 := by omega
  have el1 : (nL : Int) - 1 = (l1 : Int) := by omega
  have iw : IntKind.i64.wrap ((nL : Int) - 1) = (l1 : Int) := by rw [IntWalk.i64_in _ (by constructor <;> omega)]; exact el1
  have iwa : IntKind.i64.wrap (l1 : Int) = (l1 : Int) := IntWalk.i64_in _ (by constructor <;> omega)
  have k1 : (0 : Int) ≤ (l1 : Int) := by omega
  have k2 : (l1 : Int) < (nL : Int) := by omega
  have hsz := hyes.size (p := p) (inp := inp) hin nL (by omega)
  have hgl : Ls.getD l1 [] = Ls[l1]'(by omega) := by rw [List.getD_eq_getElem?_getD, List.getElem?_eq_getElem (by omega)]; rfl
  obtain ⟨W0, hW0⟩ : ∃ W0, W0 = (w.alloc (.cells #[vi (v : Int), .slice AL nL cL] 24)).alloc (.cells #[.slice AR nL nL, .slice AQ nL nL] 41) := ⟨_, rfl⟩
  have hb0 : Below w.heap.size w W0 := by rw [hW0]; exact ((Below.refl _ _).alloc (Nat.le_refl _) _).alloc (by simp) _
  have hQ : Blk W0 w.heap.size 24 #[vi (v : Int), .slice AL nL cL] := by rw [hW0]; exact (Blk.new _ _ _).alloc _
  have hR : Blk W0 (w.heap.size + 1) 41 #[.slice AR nL nL, .slice AQ nL nL] := by
    rw [hW0]
    have h := Blk.new (w.alloc (.cells #[vi (v : Int), .slice AL nL cL] 24)) 41 #[.slice AR nL nL, .slice AQ nL nL]
    rw [World.size_alloc] at h
    exact h
  have HCK := Lib.hid (checked_any (v : Int) (by have := hyes.w6; constructor <;> omega) AL nL cL Ls hLn (by omega) W0 (hLT.below hb0))
  have hlen1 := hyes.len l1 (by omega)
  rw [hgl] at hlen1
  have hnAe : nA = 2 ^ nvR Ls v nL := by rw [← hnA]; simp only [fvs, List.length_map]; exact hsz
  have hn64 : nA ≤ 64 := by
    rw [hnAe]
    have := Nat.pow_le_pow_right (n := 2) (by omega) (hyes.small nL)
    omega
  obtain ⟨al, AG, nG, cG, rfl, hal, hcl, hlG, hG2, hGT⟩ := hLT l1 (by omega)
  have hnG : nG = nA := by rw [← hlG, hlen1, hnAe, hl1]
  subst hnG
  have tG : ((nG : Int) != (nG : Int)) = false := by simp
  have tL : ((nL : Int) != (nL : Int)) = false := by simp
  have HBG := Lib.hid (fun (W : World) F G hLT hos => begin_any p S b s kk zz v oo (some al) nL cL Ls hLn hyes A nG cA (fvs (lvE p inp Ls nL)) hnA (i64_fvs _ hp2) hn64 W F G hLT hos)
  have HFD := Lib.hid (fun W hG => sfield_s s b kk zz oo W hG)
  have HYES := Lib.hid hyes
  have HLN := Lib.hid hLn
  have HF := Lib.hid F
  have HG := Lib.hid G
  have HLT := Lib.hid hLT
  have HSO := Lib.hid hs
  have HLA := Lib.hid hLA
  have HB0 := Lib.hid hb0
  have HQ := Lib.hid hQ
  have HR := Lib.hid hR
  have HW0 := Lib.hid hW0
  have HSZ := Lib.hid (And.intro hsz (And.intro hnA (And.intro hnAe hl1)))
  have HCL := Lib.hid (And.intro hal hcl)
  clear F G hLT hs hLA hb0 hQ hR hW0 hyes hLn hsz hnA hnAe hl1 hgl hlen1 hlG hGT hal hcl hin
  go_enter Tryz.func10, Tryz.ntmps10
  go_upto_region 1 with (fail)
  rw [← HW0.out]
  have q0 := (HQ.out.cell 0).trans (show _ = some (vi (v : Int)) from rfl)
  have q1 := (HQ.out.cell 1).trans (show _ = some (.slice (some al) nL cL) from rfl)
  go_wp2_with fail
  refine HCK.out.mono ?_
  rintro _ w2 ⟨h2, hb2⟩
  rcases h2 with ⟨-, rfl⟩ | ⟨h, -⟩
  case inr => exact absurd HYES.out h
  have hQ2 := HQ.out.below hb2 HQ.out.lt
  have hR2 := HR.out.below hb2 HR.out.lt
  have u0 := (hQ2.cell 0).trans (show _ = some (vi (v : Int)) from rfl)
  have u1 := (hQ2.cell 1).trans (show _ = some (.slice (some al) nL cL) from rfl)
  have s0 := (hR2.cell 0).trans (show _ = some (.slice AR nL nL) from rfl)
  have s1 := (hR2.cell 1).trans (show _ = some (.slice AQ nL nL) from rfl)
  have hb02 := HB0.out.trans (hb2.mono HB0.out.size)
  have hcl2 := (hb02.cell (block_lt_of_cell HCL.out.2)).trans HCL.out.2
  have HQ2 := Lib.hid (And.intro hQ2 hR2)
  have HB2 := Lib.hid hb02
  clear q0 q1 hb2 hQ2 hR2 hb02 HQ HR HCK HB0
  go_wp2_with fail
  refine (HBG.out w2 (HF.out.below HB2.out HF.out.le) (HG.out.below HB2.out (block_lt_of_cell HG.out.c0)) (HLT.out.below HB2.out) (HSO.out.below HB2.out)).mono ?_
  rintro _ w4 ⟨ch, AZ, cz, rfl, hcw, hC4, hsz4, haz4, hb4⟩
  have hdb : digL p kk (2 :: (labG p (v : Int) Ls ++ fvs (lvE p inp Ls nL))) = dB p kk v inp Ls := by rw [dB, HLN.out]
  rw [hdb] at hC4 hsz4
  obtain ⟨zs0, hzs0⟩ : ∃ zs0, zs0 = drawsL p kk (dB p kk v inp Ls) (nvR Ls v Ls.length) := ⟨_, rfl⟩
  rw [← hzs0] at hsz4
  have hzl : zs0.length = nvR Ls v Ls.length := by rw [hzs0]; simp [drawsL]
  have hzi : ∀ x ∈ zs0, I64 x := fun x hx => by
    rw [hzs0] at hx
    obtain ⟨i, _, rfl⟩ := List.mem_map.1 hx
    obtain ⟨y, hy⟩ := digL_bounds (p := p) (k := kk) (4 :: iterD p kk (dB p kk v inp Ls) i) (j := 0) (by omega)
    have hy' : (iterD p kk (dB p kk v inp Ls) (i + 1)).getD 0 0 = fv y := hy
    rw [hy']
    exact i64_fv y hp2
  have hze : els p zs0 = zB p kk v inp Ls := by rw [hzs0, zB]
  have hb04 := HB2.out.trans (hb4.mono HB2.out.size)
  have hex := extend_any p S b nG (nvR Ls v Ls.length) ⟨Nat.le_trans (HYES.out.small _) (by decide), by rw [HSZ.out.2.2.1, HLN.out]⟩ A cA (fvs (lvE p inp Ls nL)) HSZ.out.2.1 (i64_fvs _ hp2) AZ cz zs0 hzl hzi w4 (HF.out.below hb04 HF.out.le) (HSO.out.below hb04) hsz4
  rw [els_fvs, co_extL (by simp only [els, List.length_map]; rw [HSZ.out.1, hzl, HLN.out]), hze] at hex
  have HEX := Lib.hid hex
  have HFD4 := Lib.hid (HFD.out w4 (HG.out.below hb04 (block_lt_of_cell HG.out.c0)))
  have HZ4 := Lib.hid (And.intro hzl (And.intro hzi (And.intro hze hsz4)))
  have HAZ := Lib.hid haz4
  have HC4 := Lib.hid hC4
  have HCW : Hid (w2.heap.size ≤ ch) := Lib.hid hcw
  have HB4 := Lib.hid hb4
  clear hex hdb hC4 hsz4 hzs0 hzl hzi hze hb04 hb4 hcw haz4 u0 s0 s1 hcl2
  go_wp2_with fail
  refine HFD4.out.mono ?_
  rintro _ _ ⟨rfl, rfl⟩
  go_wp2_with fail
  refine HEX.out.mono ?_
  rintro _ w5 ⟨rfl, hb5⟩
  have hb25 := HB4.out.trans (hb5.mono HB4.out.size)
  have hQ5 := HQ2.out.1.below hb25 HQ2.out.1.lt
  have v0 := (hQ5.cell 0).trans (show _ = some (vi (v : Int)) from rfl)
  have v1 := (hQ5.cell 1).trans (show _ = some (.slice (some al) nL cL) from rfl)
  have HC5 := Lib.hid (HC4.out.below hb5)
  have HZ5 := Lib.hid (HZ4.out.2.2.2.below hb5)
  have HB25 := Lib.hid hb25
  have HFD5 := Lib.hid (HFD.out w5.drew (HG.out.below (below_drewN (HB2.out.trans (hb25.mono HB2.out.size)) 1) (block_lt_of_cell HG.out.c0)))
  clear hb5 hb25 hQ5 u1
  go_upto_region 8 with (fail)
  refine wp_region_held_drew (S := fun W' => W'.cell? ⟨w.heap.size, 0, none⟩ = some (vi (v : Int)) ∧ W'.cell? ⟨w.heap.size, 1, none⟩ = some (.slice (some al) nL cL)) (by kernel_rfl) ⟨v0, v1⟩ (fun hHeld => ?_)
  refine tkH 0 ?_
  refine tkH 2 ?_
  refine tkH 3 ?_
  refine stH 1 (fun K hK => ?_)
  go_simp
  refine HFD5.out.mono ?_
  rintro _ _ ⟨rfl, rfl⟩
  refine hK.out _ _ ⟨v0, v1⟩ (fun hHeld => ?_)
  clear hK K
  (try simp only [Act.put, List.setIfInBounds_toArray, List.set_cons_zero, List.set_cons_succ])
  refine tkH 4 ?_
  refine stH 5 (fun K hK => ?_)
  go_simp
  have S6 : (w5.drew.alloc (.cells #[.pointer (some ⟨b, 0, none⟩), vi (v : Int), .slice (some al) nL cL, .pointer (some ⟨ch, 0, none⟩)] 92)).cell? ⟨w.heap.size, 0, none⟩ = some (vi (v : Int)) ∧ (w5.drew.alloc (.cells #[.pointer (some ⟨b, 0, none⟩), vi (v : Int), .slice (some al) nL cL, .pointer (some ⟨ch, 0, none⟩)] 92)).cell? ⟨w.heap.size, 1, none⟩ = some (.slice (some al) nL cL) := by
    have hb : Below w5.heap.size w5 (w5.drew.alloc (.cells #[.pointer (some ⟨b, 0, none⟩), vi (v : Int), .slice (some al) nL cL, .pointer (some ⟨ch, 0, none⟩)] 92)) := bz1 w5 _
    exact ⟨(hb.cell (block_lt_of_cell v0)).trans v0, (hb.cell (block_lt_of_cell v1)).trans v1⟩
  refine hK.out _ _ S6 (fun hHeld => ?_)
  clear hK K
  (try simp only [Act.put, List.setIfInBounds_toArray, List.set_cons_zero, List.set_cons_succ])
  refine tkH 6 ?_
  refine wpAnyH_done (by kernel_rfl) ?_ _
  obtain ⟨kb, hkb⟩ : ∃ kb, kb = w5.heap.size := ⟨_, rfl⟩
  obtain ⟨w6, hw6⟩ : ∃ w6, w6 = (w5.alloc (.cells #[.pointer (some ⟨b, 0, none⟩), vi (v : Int), .slice (some al) nL cL, .pointer (some ⟨ch, 0, none⟩)] 92)).drew := ⟨_, rfl⟩
  have hb56 : Below w5.heap.size w5 w6 := by rw [hw6]; exact below_drewN ((Below.refl _ _).alloc (Nat.le_refl _) _) 1
  have hK6 : Blk w6 kb 92 #[.pointer (some ⟨b, 0, none⟩), vi (v : Int), .slice (some al) nL cL, .pointer (some ⟨ch, 0, none⟩)] := by rw [hw6, hkb]; exact (Blk.new _ _ _).drew
  have hck : ch < kb := by rw [hkb]; exact HC5.out.lt
  have HW6 := Lib.hid hw6
  have HKB := Lib.hid hkb
  have HC6 := Lib.hid (HC5.out.below hb56)
  have HZ6 := Lib.hid (HZ5.out.below hb56)
  have HB26 := Lib.hid (HB25.out.trans (hb56.mono HB25.out.size))
  have HK6 := Lib.hid hK6
  clear hHeld S6 hb56 hK6 hkb hw6 v0 v1 HC5 HZ5
  go_upto_region 9 with (fail)
  rw [← HW6.out, ← HKB.out]
  obtain ⟨z0, hz0⟩ : ∃ z0, z0 = zB p kk v inp Ls := ⟨_, rfl⟩
  obtain ⟨D0, hD0⟩ : ∃ D0, D0 = dB2 p kk v inp Ls := ⟨_, rfl⟩
  have hC6 : Chn w6 ch s D0 := by rw [hD0]; exact HC6.out
  have hLA := HLA.out
  rw [← hz0, ← hD0] at hLA
  rw [← hz0]
  have HLA0 := Lib.hid hLA
  have HI0 := Lib.hid (And.intro hC6 (show els p zs0 = z0 by rw [hz0]; exact HZ4.out.2.2.1))
  have HNT := Lib.hid (fun t (ht : t < Ls.length) => (show ntT v Ls t = nvR Ls v (Ls.length - (t + 1)) by rw [ntT, lvT, show Ls.length - 1 - t = Ls.length - (t + 1) by omega]))
  have HZL := Lib.hid (fun t (ht : t ≤ Ls.length) => lyH_length p kk v inp Ls z0 D0 (by rw [← HI0.out.2]; simp only [els, List.length_map]; exact HZ4.out.1) t ht)
  clear hC6 hLA hz0 hD0
  go_wp2
  go_loopw [9, 13, 73] (fun cv zv i wr => ∃ (t : Nat) (BZ : Option Addr) (nz dz : Nat) (zs : List Int), t ≤ nL ∧ i = vi t ∧ zv = .slice BZ nz dz ∧ zs.length = nz ∧ nz = nvR Ls v (nL - t) ∧ els p zs = (lyH p kk v inp Ls z0 D0 t).1 ∧ (∀ x ∈ zs, I64 x) ∧ SL wr BZ zs ∧ (∀ ad, BZ = some ad → ch < ad.block) ∧
      cv = vi (fv (extF (co (lvE p inp Ls (nL - t))) (lyH p kk v inp Ls z0 D0 t).1)) ∧ Chn wr ch s (lyH p kk v inp Ls z0 D0 t).2 ∧ Blk wr kb 92 #[.pointer (some ⟨b, 0, none⟩), vi (v : Int), .slice (some al) nL cL, .pointer (some ⟨ch, 0, none⟩)] ∧ Below w2.heap.size w2 wr ∧ (0 < t → nz ≤ dz ∧ dz ≤ maxLen)) (fun _ _ i _ => nL - (intOf i).toNat)
  case atStart => exact ⟨0, AZ, _, cz, zs0, Nat.zero_le _, rfl, rfl, HZ4.out.1, by rw [HLN.out]; rfl, HI0.out.2, HZ4.out.2.1, HZ6.out, HAZ.out, rfl, HI0.out.1, HK6.out, HB26.out, fun h => absurd h (Nat.lt_irrefl _)⟩
  case round =>
    obtain ⟨t, BZ, nz, dz, zs, ht, rfl, rfl, hzl, hnz, hze, hzi, hzs, hza, rfl, hC, hKb, hb, hcap⟩ := hrel
    rename World => w7
    by_cases htn : t < nL
    · obtain ⟨li, hli⟩ : ∃ li, li = lvT Ls t := ⟨_, rfl⟩
      have hlt : lvT Ls t = nL - 1 - t := by rw [lvT, HLN.out]
      have hliL : li < Ls.length := by rw [HLN.out, hli, hlt]; omega
      have eli : (l1 : Int) - (t : Int) = (li : Int) := by rw [hli, hlt]; omega
      have li8 : li ≤ 8 := by have := HLN.out; omega
      have iwl : IntKind.i64.wrap ((l1 : Int) - (t : Int)) = (li : Int) := by rw [IntWalk.i64_in _ (by constructor <;> omega)]; exact eli
      have iwb : IntKind.i64.wrap (li : Int) = (li : Int) := IntWalk.i64_in _ (by constructor <;> omega)
      have hLI : LIt Ls t = Ls[li].map gI := by rw [LIt, ← hli, List.getD_eq_getElem?_getD, List.getElem?_eq_getElem hliL]; rfl
      have hnz6 : nz ≤ 64 := by rw [hnz]; have := HYES.out.small (nL - t); omega
      have hsub : nL - t = li + 1 := by rw [hli, hlt]; omega
      have hcl : extF (co (lvE p inp Ls (nL - t))) (lyH p kk v inp Ls z0 D0 t).1 = partE (co (lvE p inp Ls li)) (nvR Ls v li) (Ls[li].map gI) (els p zs) [] := by
        rw [hsub, hze]
        exact (claim_lv HYES.out li hliL _ (by rw [HZL.out t (by rw [HLN.out]; exact ht), HLN.out, hsub])).symm
      have hbch : ∀ W, w7.grownBy W (some ch) → Below w2.heap.size w2 W := fun W hg => hb.grown hg hb.size (fun j hj => by injection hj with hj; subst hj; exact HCW.out)
      obtain ⟨ar, aq, AT, A5, rfl, rfl, hc1, hc2, hTB, hSL⟩ := HLA0.out t (by rw [HLN.out]; exact htn)
      have hmt : ntT v Ls t = nvR Ls v li := by rw [hli]; rfl
      rw [hmt] at hc1 hc2
      have hrd : rdH p kk v inp Ls z0 D0 t = toldG p kk (co (lvE p inp Ls li)) (nvR Ls v li) (Ls[li].map gI) (els p zs) (lyH p kk v inp Ls z0 D0 t).2 (2 * nvR Ls v li) := by rw [rdH, hLI, ← hli, hze]
      have hln : lnH p kk v inp Ls z0 D0 t = lineG p kk (co (lvE p inp Ls li)) (nvR Ls v li) (Ls[li].map gI) (els p zs) (lyH p kk v inp Ls z0 D0 t).2 := by rw [lnH, hLI, ← hli, hze]
      rw [hrd] at hTB
      rw [hln] at hSL
      have hkd := kdown_any p S b s kk zz kb v ch h23 oo (some al) nL cL Ls HLN.out HYES.out li hliL (nvR Ls v li) rfl (co (lvE p inp Ls li)) BZ nz dz zs hzl hnz6 hzi (lyH p kk v inp Ls z0 D0 t).2 AT (2 * nvR Ls v li) A5 (nvR Ls v li + 1) w w7.drew HF.out.prime hp2 (Nat.le_trans HF.out.le (Nat.le_trans HB2.out.size HCW.out)) (Nat.lt_of_lt_of_le (block_lt_of_cell HG.out.c0) (Nat.le_trans HB2.out.size HCW.out))
        (fun W hg' => by
          have hg : w7.grownBy W (some ch) := grownBy_trans (grown_of_below (below_drewN (Below.refl _ _) 1 : Below _ w7 w7.drew) _) hg'
          have hw := HB2.out.trans ((hbch W hg).mono HB2.out.size)
          exact ⟨HF.out.below hw HF.out.le, HG.out.below hw (block_lt_of_cell HG.out.c0), hKb.grown hg (by intro e; injection e with e; omega), HLT.out.below hw, hzs.farO hg (fun ad had _ e => by have := hza ad had; omega), hTB.below hw, hSL.below hw, hw⟩) hTB (hC.drewN 1)
      rw [← hcl] at hkd
      rw [← hLI] at hkd
      have hzn : (zN p kk (co (lvE p inp Ls li)) (nvR Ls v li) (LIt Ls t) (els p zs) (lyH p kk v inp Ls z0 D0 t).2) = (lyH p kk v inp Ls z0 D0 (t + 1)).1 := by
        rw [hze, hli]; rfl
      have hdn : dgN p kk (co (lvE p inp Ls li)) (nvR Ls v li) (LIt Ls t) (els p zs) (lyH p kk v inp Ls z0 D0 t).2 = (lyH p kk v inp Ls z0 D0 (t + 1)).2 := by
        rw [hze, hli]; rfl
      unfold KdownIs at hkd
      rw [hzn, hdn] at hkd
      obtain ⟨m, hm⟩ : ∃ m, m = nvR Ls v li := ⟨_, rfl⟩
      rw [← hm] at hkd hc1 hc2
      have HKD := Lib.hid hkd
      have hmz : m = nvR Ls v (nL - (t + 1)) := by rw [hm, show nL - (t + 1) = li by omega]
      have hlz : (fvs (lyH p kk v inp Ls z0 D0 (t + 1)).1).length = m := by
        simp only [fvs, List.length_map]
        rw [HZL.out (t + 1) (by rw [HLN.out]; omega), HLN.out, hmz]
      have HMZ := Lib.hid (And.intro hmz (And.intro hlz (show nL - (t + 1) = li by omega)))
      have HKb := Lib.hid hKb
      have HBC := Lib.hid hbch
      have hbw7 := HB2.out.trans (hb.mono HB2.out.size)
      have hR7 := HQ2.out.2.below hb HQ2.out.2.lt
      have r0 := (hR7.cell 0).trans (show _ = some (.slice (some ar) nL nL) from rfl)
      have r1 := (hR7.cell 1).trans (show _ = some (.slice (some aq) nL nL) from rfl)
      have c1' := (hbw7.cell (block_lt_of_cell hc1)).trans hc1
      have c2' := (hbw7.cell (block_lt_of_cell hc2)).trans hc2
      have i1 : (0 : Int) ≤ (t : Int) := by omega
      have i2 : (t : Int) < (nL : Int) := by omega
      have HCW7 := Lib.hid (And.intro r0 (And.intro r1 (And.intro c1' c2')))
      have KS : Hid (∀ W, Below w2.heap.size w2 W → W.cell? ⟨w.heap.size + 1, 0, none⟩ = some (.slice (some ar) nL nL) ∧ W.cell? ⟨w.heap.size + 1, 1, none⟩ = some (.slice (some aq) nL nL) ∧ W.cell? (ar.add t) = some (.slice AT (2 * m) (2 * m)) ∧ W.cell? (aq.add t) = some (.slice A5 (m + 1) (m + 1))) := Lib.hid fun W hW => by
        have h1 := HQ2.out.2.below hW HQ2.out.2.lt
        have h2 := HB2.out.trans (hW.mono HB2.out.size)
        exact ⟨(h1.cell 0).trans rfl, (h1.cell 1).trans rfl, (h2.cell (block_lt_of_cell hc1)).trans hc1, (h2.cell (block_lt_of_cell hc2)).trans hc2⟩
      clear hcap hkd hzn hdn hmz hlz hKb hbch hbw7 hR7 hc1 hc2 hTB hSL hrd hln hcl hmt hsub hnz6 hLI hm hzl hnz hze hzi hzs hza hC hb hlt hli hliL
      go_upto_region 12 with (fail)
      refine wp_region_held_drew (S := fun W => W.cell? ⟨w.heap.size + 1, 0, none⟩ = some (.slice (some ar) nL nL) ∧ W.cell? ⟨w.heap.size + 1, 1, none⟩ = some (.slice (some aq) nL nL) ∧ W.cell? (ar.add t) = some (.slice AT (2 * m) (2 * m)) ∧ W.cell? (aq.add t) = some (.slice A5 (m + 1) (m + 1))) (by kernel_rfl) HCW7.out (fun hHeld => ?_)
      refine tkH 0 ?_
      refine tkH 1 ?_
      refine tkH 2 ?_
      refine tkH 3 ?_
      refine tkH 4 ?_
      refine tkH 5 ?_
      refine tkH 6 ?_
      refine tkH 7 ?_
      refine tkH 8 ?_
      refine tkH 9 ?_
      refine tkH 10 ?_
      refine tkH 11 ?_
      refine tkH 12 ?_
      refine tkH 13 ?_
      refine tkH 14 ?_
      refine tkH 15 ?_
      refine tkH 16 ?_
      refine stH 17 (fun K hK => ?_)
      go_simp
      refine HKD.out.mono ?_
      rintro _ w8 ⟨AN, cN, rfl, hs8, ha8, hC8, hg8, hn8⟩
      have hg78 : w7.grownBy w8 (some ch) := grownBy_trans (grown_of_below (below_drewN (Below.refl _ _) 1 : Below _ w7 w7.drew) _) hg8
      have hb8 := HBC.out w8 hg78
      refine hK.out _ _ (KS.out _ hb8) (fun hHeld => ?_)
      clear hK K
      (try simp only [Act.put, List.setIfInBounds_toArray, List.set_cons_zero, List.set_cons_succ])
      refine tkH 18 ?_
      refine tkH 19 ?_
      refine tkH 20 ?_
      refine tkH 21 ?_
      refine tkH 22 ?_
      refine tkH 23 ?_
      refine tkH 24 ?_
      refine wpAnyH_done (by kernel_rfl) ?_ _
      have H8 := Lib.hid (And.intro hs8 (And.intro ha8 (And.intro hC8 (And.intro (HKb.out.grown hg78 (by intro e; injection e with e; omega)) hb8))))
      clear hHeld hs8 ha8 hC8 hg8 hg78 hb8
      go_wp2
      go_roundw
      case rel => exact ⟨t + 1, AN, m, cN, fvs (lyH p kk v inp Ls z0 D0 (t + 1)).1, by omega, by go_num, rfl, HMZ.out.2.1, HMZ.out.1, els_fvs _, i64_fvs _ hp2, H8.out.1, H8.out.2.1, by rw [HMZ.out.2.2], H8.out.2.2.1, H8.out.2.2.2.1, H8.out.2.2.2.2, fun _ => hn8⟩
      case measure => simp only [intOf, Int.toNat_natCast]; omega
    · obtain rfl : t = nL := by omega
      have ett : t - t = 0 := by omega
      rw [ett] at hnz
      rw [ett]
      have hnv : nz = v := hnz
      have h00 := HZL
      clear ett h00
      have HFIN := Lib.hid (show CheckIs p kk v inp Ls w (.returned (.tuple #[.slice BZ nz dz, vi (fv (extF (co (lvE p inp Ls 0)) (lyH p kk v inp Ls z0 D0 t).1)), .bool true])) w7 from
        ⟨BZ, dz, zs, by rw [hnv, hze]; rfl, hzs, hzl.trans hnv, hzi, HB2.out.trans (hb.mono HB2.out.size), by have := hcap (by omega); omega, (hcap (by omega)).2⟩)
      clear hcap hzl hnz hze hzi hzs hza hC hKb hb hnv
      go_wp2
      go_ret3
      exact HFIN.out
end Go.Proofs.YteceghbjjnknbaaGreat

namespace Go.Proofs.YteceghbjjnknbaaGreat
open Go.RowKit Zp
theorem prime97T : IsPrime 97 := by decide
theorem slT (w : World) (xs : List Int) : SL (w.alloc (.cells (xs.map vi).toArray 3)) (some ⟨w.heap.size, 0, none⟩) xs := ⟨by simp, fun _ => ⟨_, rfl, by rw [World.size_alloc]; show w.heap.size < w.heap.size + 1; omega, fun j u hu => by
  rw [Addr.add_mid, Nat.zero_add, (Blk.new w _ _).cell, List.getElem?_toArray]
  exact hu⟩⟩
def cirT : List (List GateR) := [[⟨1, 0, 1⟩]]
theorem cirT_ok : CirR ((1 : Nat) : Int) cirT := by
  refine ⟨by omega, by omega, by decide, by decide, fun l hl => ?_, fun t h g hg => ?_⟩
  · simp [cirT] at hl
    subst hl
    exact ⟨0, by omega, rfl⟩
  · have ht : t = 0 := by simp [cirT] at h; omega
    subst ht
    simp [cirT] at hg
    subst hg
    refine ⟨.inr rfl, by decide, ?_, by decide, ?_⟩ <;> decide
theorem cirT_out : fvs (lvE 97 [3, 5] cirT 1) = [15] := by decide
theorem cirT_at {w : World} {k : Nat} (h1 : Blk w k 61 #[vi 1, vi 0, vi 1]) (h2 : Blk w (k + 1) 62 #[.slice (some ⟨k, 0, none⟩) 1 1]) : LT w (some ⟨k + 1, 0, none⟩) cirT := fun i hi => by
  have hi0 : i = 0 := by simp [cirT] at hi; omega
  subst hi0
  refine ⟨⟨k + 1, 0, none⟩, some ⟨k, 0, none⟩, 1, 1, rfl, h2.lt, (h2.cell 0).trans rfl, rfl, by omega, fun j hj => ?_⟩
  have hj0 : j = 0 := by simp [cirT] at hj; omega
  subst hj0
  exact ⟨⟨k, 0, none⟩, rfl, h1.lt, (h1.cell 0).trans rfl, (h1.cell 1).trans rfl, (h1.cell 2).trans rfl, show I64 1 by constructor <;> decide, show I64 0 by constructor <;> decide, show I64 1 by constructor <;> decide⟩
set_option maxRecDepth 100000 in
set_option maxHeartbeats 2000000 in
theorem shown_any (w : World) : Calls Tryz.prog 4 #[] w fun e w' => e = .returned (.bool true) ∧ Below w.heap.size w w' := by
  go_enter Tryz.func4, Tryz.ntmps4
  go_wp2_with fail
  refine (sponged_any 97 w).mono ?_
  intro e w1 h
  cases h with
  | no h _ _ => exact absurd ⟨⟨by omega, by omega, prime97T⟩, by omega⟩ h
  | yes n hn h23 hm hp hw hF =>
    have e97 : n = 97 := by omega
    subst e97
    obtain ⟨S, s, b, kk, zz, oo, rfl, F, G, hs1, hs2⟩ := hF inferInstance
    clear hF
    have HF := Lib.hid (And.intro F (And.intro G (And.intro hw hs2)))
    clear F G hw hs2 hs1 hn h23 hm hp
    go_upto_region 5 with (fail)
    obtain ⟨k1, hk1⟩ : ∃ k1, k1 = w1.heap.size := ⟨_, rfl⟩
    obtain ⟨W2, hW2⟩ : ∃ W2, W2 = ((w1.alloc (.cells #[vi 1, vi 0, vi 1] 61)).alloc (.cells #[.slice (some ⟨k1, 0, none⟩) 1 1] 62)).alloc (.cells #[vi 1, .slice (some ⟨k1 + 1, 0, none⟩) 1 1] 24) := ⟨_, rfl⟩
    rw [← hk1, ← hW2]
    have hb12 : Below w1.heap.size w1 W2 := by rw [hW2]; exact (((Below.refl _ _).alloc (Nat.le_refl _) _).alloc (by simp) _).alloc (by simp; omega) _
    have hg1 : Blk W2 k1 61 #[vi 1, vi 0, vi 1] := by rw [hW2, hk1]; exact ((Blk.new _ _ _).alloc _).alloc _
    have hg2 : Blk W2 (k1 + 1) 62 #[.slice (some ⟨k1, 0, none⟩) 1 1] := by
      rw [hW2]
      have h := Blk.new (w1.alloc (.cells #[vi 1, vi 0, vi 1] 61)) 62 #[.slice (some ⟨k1, 0, none⟩) 1 1]
      rw [World.size_alloc, ← hk1] at h
      exact h.alloc _
    have hg3 : Blk W2 (k1 + 1 + 1) 24 #[vi 1, .slice (some ⟨k1 + 1, 0, none⟩) 1 1] := by
      rw [hW2]
      have h := Blk.new ((w1.alloc (.cells #[vi 1, vi 0, vi 1] 61)).alloc (.cells #[.slice (some ⟨k1, 0, none⟩) 1 1] 62)) 24 #[vi 1, .slice (some ⟨k1 + 1, 0, none⟩) 1 1]
      rw [World.size_alloc, World.size_alloc, ← hk1] at h
      exact h
    have hLT := cirT_at hg1 hg2
    have c0 := (hg3.cell 0).trans (show _ = some (vi 1) from rfl)
    have c1 := (hg3.cell 1).trans (show _ = some (.slice (some ⟨k1 + 1, 0, none⟩) 1 1) from rfl)
    obtain ⟨W3, hW3⟩ : ∃ W3, W3 = W2.alloc (.cells #[vi 3, vi 5] 3) := ⟨_, rfl⟩
    have hb23 : Below W2.heap.size W2 W3 := by rw [hW3]; exact (Below.refl _ _).alloc (Nat.le_refl _) _
    have hs3 : SL W3 (some ⟨W2.heap.size, 0, none⟩) [3, 5] := by rw [hW3]; exact slT W2 [3, 5]
    have hb13 := hb12.trans (hb23.mono hb12.size)
    have hmk := make_any 97 S b s kk zz 1 oo (some ⟨k1 + 1, 0, none⟩) 1 1 cirT rfl cirT_ok (some ⟨W2.heap.size, 0, none⟩) 2 2 [3, 5] rfl (by intro y hy; simp at hy; rcases hy with rfl | rfl <;> constructor <;> decide) rfl W3 (HF.out.1.below hb13 HF.out.1.le) (HF.out.2.1.below hb13 (block_lt_of_cell HF.out.2.1.c0)) (hLT.below hb23) hs3
    rw [show ((1 : Nat) : Int) = 1 from rfl] at hmk
    have HMK := Lib.hid hmk
    have HW3 := Lib.hid hW3
    have H3 := Lib.hid (And.intro hb13 (And.intro (hLT.below hb23) (hg3.below hb23 hg3.lt)))
    clear hk1 hW2 hb12 hg1 hg2 hg3 hLT hW3 hb23 hs3 hb13 hmk
    go_wp2_with fail
    rw [← HW3.out]
    refine HMK.out.mono ?_
    rintro _ w4 ⟨AR, AQ, rfl, hLA, hb4⟩
    go_upto_region 6 with (fail)
    obtain ⟨kL, hkL⟩ : ∃ kL, kL = w4.heap.size := ⟨_, rfl⟩
    obtain ⟨W5, hW5⟩ : ∃ W5, W5 = w4.alloc (.cells #[.slice AR cirT.length cirT.length, .slice AQ cirT.length cirT.length] 41) := ⟨_, rfl⟩
    rw [← hkL, ← hW5]
    have hb45 : Below w4.heap.size w4 W5 := by rw [hW5]; exact (Below.refl _ _).alloc (Nat.le_refl _) _
    have hb35 := hb4.trans (hb45.mono hb4.size)
    have hk5 : Blk W5 kL 41 #[.slice AR cirT.length cirT.length, .slice AQ cirT.length cirT.length] := by rw [hW5, hkL]; exact Blk.new _ _ _
    have hg5 := H3.out.2.2.below hb35 H3.out.2.2.lt
    have c0 := (hg5.cell 0).trans (show _ = some (vi 1) from rfl)
    have c1 := (hg5.cell 1).trans (show _ = some (.slice (some ⟨k1 + 1, 0, none⟩) 1 1) from rfl)
    have d0 := (hk5.cell 0).trans (show _ = some (.slice AR cirT.length cirT.length) from rfl)
    have d1 := (hk5.cell 1).trans (show _ = some (.slice AQ cirT.length cirT.length) from rfl)
    obtain ⟨W6, hW6⟩ : ∃ W6, W6 = W5.alloc (.cells #[vi 15] 3) := ⟨_, rfl⟩
    have hb56 : Below W5.heap.size W5 W6 := by rw [hW6]; exact (Below.refl _ _).alloc (Nat.le_refl _) _
    have hs6 : SL W6 (some ⟨W5.heap.size, 0, none⟩) [15] := by rw [hW6]; exact slT W5 [15]
    have hb36 := hb35.trans (hb56.mono hb35.size)
    have hb16 := H3.out.1.trans (hb36.mono H3.out.1.size)
    have hck := check_any 97 S b s kk zz 1 (by omega) oo (some ⟨k1 + 1, 0, none⟩) 1 1 cirT rfl cirT_ok [3, 5] rfl (some ⟨W5.heap.size, 0, none⟩) 1 1 (by rw [cirT_out]; rfl) AR AQ W6 (HF.out.1.below hb16 HF.out.1.le) (HF.out.2.1.below hb16 (block_lt_of_cell HF.out.2.1.c0)) (H3.out.2.1.below hb36) (by rw [cirT_out]; exact hs6) (hLA.below (hb45.trans (hb56.mono hb45.size)))
    rw [show ((1 : Nat) : Int) = 1 from rfl] at hck
    have HCK := Lib.hid hck
    have HW6 := Lib.hid hW6
    have HB6 := Lib.hid hb16
    rw [show cirT.length = 1 from rfl] at d0 d1
    have hraw : Below W5.heap.size W5 (W5.alloc (.cells #[vi 15] 3)) := (Below.refl _ _).alloc (Nat.le_refl _) _
    have d2 := (hraw.cell (block_lt_of_cell d0)).trans d0
    have d3 := (hraw.cell (block_lt_of_cell d1)).trans d1
    clear hraw
    clear hkL hW5 hb4 hb45 hb35 hk5 hg5 hW6 hb56 hs6 hb36 hb16 hck hLA
    go_wp2_with fail
    rw [← HW6.out]
    refine HCK.out.mono ?_
    rintro _ w7 ⟨A7, c7, zs, rfl, _, _, _, hb7, _, _⟩
    go_wp2
    go_ret
    exact ⟨rfl, HF.out.2.2.1.trans ((HB6.out.trans (hb7.mono HB6.out.size)).mono HF.out.2.2.1.size)⟩
end Go.Proofs.YteceghbjjnknbaaGreat

namespace Go.Proofs.YteceghbjjnknbaaGreat
open Go.RowKit Go.Shelf Zp
attribute [local go_sem] Oper.semAt_some
--@if slices.Chunk[[]int,int]$1
def chunkW (wd : Nat) (ad : Addr) (t : Nat) : Value := .slice (some (ad.add (wd * t))) wd wd
set_option maxRecDepth 100000 in
set_option maxHeartbeats 2000000 in
theorem chunkW_in (wd : Nat) (hw0 : 1 ≤ wd) (n : Nat) (hn : 1 ≤ n) (l Bs Bn n₀ g : Nat) (hBg : Bs ≠ g) (hNg : Bn ≠ g) (ad : Addr) (len c cp : Nat) (hc0 : 0 < c) (hlen : len = wd * c) (hcp : len ≤ cp) (hreach : cp ≤ 9223372036854775807)
    (J Jx : List (Fin c) → World → Prop) (B : Nat) (hJA : AbidesFrom B J)
    (hY : ∀ pre x W, J pre W → pre.length < c → YieldAt Fence.wide (n - 1) Tryz.prog l #[chunkW wd ad x.1] W fun e W' =>
      (e = .returned (.bool true) ∧ J (pre ++ [x]) W' ∧ KeepBut n₀ g W W') ∨ (e = .returned (.bool false) ∧ Jx (pre ++ [x]) W'))
    (W : World) (hBs : W.cell? ⟨Bs, 0, none⟩ = some (.slice (some ad) len cp)) (hBl : Bs < n₀) (hBn : W.cell? ⟨Bn, 0, none⟩ = some (vi wd)) (hNl : Bn < n₀) (h0 : J [] W) :
    CallsIn Fence.wide n Tryz.prog 112 #[.func (.yield l) #[] #[], .pointer (some ⟨Bs, 0, none⟩), .pointer (some ⟨Bn, 0, none⟩)] W fun e W' => (∃ v, e = .returned v) ∧
      ((∃ ys, ys = upto (chF hc0) c ∧ J ys W') ∨ (∃ pre, (∃ k, k ≤ c ∧ pre = upto (chF hc0) k) ∧ Jx pre W')) := by
  refine callsIn_of_wp Tryz.func112 rfl trivial ?_ rfl
  simp only [Tryz.ntmps112, List.size_toArray, List.length_cons, List.length_nil, Nat.reduceAdd, Nat.reduceSub, Array.replicate_succ, Array.replicate_zero, List.push_toArray, List.append_toArray, List.nil_append, List.cons_append]
  have HL := Lib.hid hlen
  clear hlen
  have iw : (1 : Int) ≤ (wd : Int) := by omega
  gi_wp2
  gi_loopw [4, 5] (fun i _ wr => ∃ k : Nat, k ≤ c ∧ i = .int .i64 ((wd * k : Nat) : Int) ∧ J (upto (chF hc0) k) wr ∧ KeepBut n₀ g W wr)
    (fun i _ _ => len - (intOf i).toNat)
  case atStart => exact ⟨0, Nat.zero_le _, by go_num, h0, KeepBut.refl _ _ _⟩
  case round =>
    obtain ⟨k, hk, rfl, hJs, hnx⟩ := hrel
    have hBs' : wr.cell? ⟨Bs, 0, none⟩ = some (.slice (some ad) len cp) := (hnx.cell (p := ⟨Bs, 0, none⟩) hBl hBg).trans hBs
    have hBn' : wr.cell? ⟨Bn, 0, none⟩ = some (vi wd) := (hnx.cell (p := ⟨Bn, 0, none⟩) hNl hNg).trans hBn
    obtain ⟨q, hq⟩ : ∃ q : Nat, q = wd * k := ⟨_, rfl⟩
    rw [← hq]
    have HQ := Lib.hid hq
    have hqc : q < wd * c ↔ k < c := by rw [hq]; exact ⟨fun h => Nat.lt_of_mul_lt_mul_left h, fun h => Nat.mul_lt_mul_of_pos_left h hw0⟩
    have hl4 := HL.out
    by_cases hlt : k < c
    · have hqe : q + wd ≤ wd * c := by rw [hq, ← Nat.mul_succ]; exact Nat.mul_le_mul_left wd hlt
      have i1 : (0 : Int) ≤ (q : Int) := by omega
      have i2 : (q : Int) < (len : Int) := by omega
      have i3 : (q : Int) ≤ (len : Int) := by omega
      have i4 : (q : Int) + (wd : Int) ≤ (len : Int) := by omega
      have i5 : (wd : Int) ≤ (len : Int) - (q : Int) := by omega
      have i6 : (len : Int) ≤ (cp : Int) := by omega
      have i7 : min (wd : Int) ((len - q : Nat) : Int) = (wd : Int) := by omega
      have i8 : q + wd - q = wd := by omega
      have i9 : ((q : Int) + (wd : Int)).toNat = q + wd := by omega
      have j1 : IntKind.i64.wrap ((q : Int) + (wd : Int)) = (q : Int) + (wd : Int) := IntWalk.i64_in _ (by constructor <;> omega)
      clear hq hqc hl4
      gi_wp2
      gi_quiet (fail)
      have hJq : J (upto (chF hc0) k) (wr.drewN nq) := hJA _ _ _ none hJs ⟨rfl, rfl, rfl, Nat.le_refl _, fun _ _ _ => rfl⟩ (fun r e => by cases e)
      obtain ⟨fn, tmps, assign, body, hy, hR⟩ := hY _ (chF hc0 k) (wr.drewN nq) hJq (by rw [upto_length]; exact hlt)
      rw [show chunkW wd ad (chF hc0 k).1 = Value.slice (some (ad.add q)) wd wd by unfold chunkW; rw [chF_val hc0 hlt, HQ.out]] at hy
      gi_wp2
      refine hR.mono ?_
      rintro e W3 (⟨rfl, hJ3, hk3⟩ | ⟨rfl, hJx3⟩)
      · have hBn3 : W3.cell? ⟨Bn, 0, none⟩ = some (vi wd) := (hk3.cell (p := ⟨Bn, 0, none⟩) hNl hNg).trans hBn'
        gi_wp2
        have hq1 := HQ.out
        go_roundw
        case rel => exact ⟨k + 1, by omega, by rw [show ((wd * (k + 1) : Nat) : Int) = (q : Int) + (wd : Int) by rw [Nat.mul_succ]; omega], by rw [upto_succ]; exact hJ3, (hnx.drewN nq).trans hk3⟩
        case measure => simp [intOf]; omega
      · gi_wp2
        refine bodyPost_ret (results_none rfl _ _ _) rfl ?_
        exact ⟨⟨_, rfl⟩, .inr ⟨_, ⟨k + 1, by omega, by rw [upto_succ]⟩, hJx3⟩⟩
    · have ek : k = c := by omega
      have t1 : ¬ (q : Int) < (len : Int) := by omega
      subst ek
      clear hq hqc hl4
      gi_wp2
      go_end0
      first | exact ⟨⟨_, rfl⟩, .inl ⟨_, rfl, hJs⟩⟩ | exact ⟨⟨_, rfl⟩, .inl hJs⟩
set_option maxHeartbeats 1000000 in
theorem chunkW_any (wd : Nat) (hw0 : 1 ≤ wd) (hw1 : wd ≤ 9223372036854775807) (a : Option Addr) (len cap : Nat) (w : World) :
    Calls Tryz.prog 83 #[.slice a len cap, vi wd] w fun e w' => e = .returned (.func (.func 112) #[] #[.pointer (some ⟨w.heap.size, 0, none⟩), .pointer (some ⟨w.heap.size + 1, 0, none⟩)]) ∧ w' = (w.alloc (.cells #[.slice a len cap] 25)).alloc (.cells #[vi wd] 3) := by
  have i1 : ¬ (wd : Int) < 1 := by omega
  go_enter Tryz.func83, Tryz.ntmps83
  go_wp2
  go_ret
  exact ⟨rfl, rfl⟩
theorem chunkW_stops (wd : Nat) (hw0 : 1 ≤ wd) (n : Nat) (hn : 1 ≤ n) (Bs Bn n₀ g : Nat) (hBg : Bs ≠ g) (hNg : Bn ≠ g) (ad : Addr) (len c cp : Nat) (hc0 : 0 < c) (hlen : len = wd * c) (hcp : len ≤ cp) (hreach : cp ≤ 9223372036854775807) (w : World) (hBs : Bs < w.heap.size) (hBl : Bs < n₀) (hBn : Bn < w.heap.size) (hNl : Bn < n₀)
    (hc : w.cell? ⟨Bs, 0, none⟩ = some (.slice (some ad) len cp)) (hc2 : w.cell? ⟨Bn, 0, none⟩ = some (vi wd)) :
    SeqStopsK Fence.wide n Tryz.prog 112 #[.pointer (some ⟨Bs, 0, none⟩), .pointer (some ⟨Bn, 0, none⟩)] (fun x : Fin c => #[chunkW wd ad x.1]) (KeepBut n₀ g) (fun ys => ys = upto (chF hc0) c)
      (fun pre => ∃ k, k ≤ c ∧ pre = upto (chF hc0) k) c w := fun l J Jx W hW hA _ hY h0 =>
  chunkW_in wd hw0 n hn l Bs Bn n₀ g hBg hNg ad len c cp hc0 hlen hcp hreach J Jx _ hA hY W ((hW.cell (p := ⟨Bs, 0, none⟩) hBs).trans hc) hBl ((hW.cell (p := ⟨Bn, 0, none⟩) hBn).trans hc2) hNl h0
theorem keeps_grown {W W' : World} {row : Option Nat} (hg : W.grownBy W' row) (h : ∀ j, row = some j → ∃ t cs, Blk W j t cs) : KeepsOthers W W' := KeepsOthers.of_grownBy hg fun j o e ho => by
  obtain ⟨t, cs, hb⟩ := h j e
  unfold Blk at hb
  rw [hb] at ho
  injection ho with ho
  subst ho
  rfl
theorem ownsRow_kept {W W' : World} {base sz n : Nat} {e : TypeId} {v : Value} {xs : List Value} {row : Option Nat} (h : W.ownsRow base e sz v n xs) (hg : W.grownBy W' row) (hr : ∀ r, row = some r → ∃ o : Obj, W.heap[r]? = some o ∧ o.isCells = false) : W'.ownsRow base e sz v n xs :=
  ownsRow_keep h fun g hgv => by
    obtain ⟨cs, hb⟩ := row_blk h hgv
    have := blk_kept hb hg hr
    exact (this : W'.heap[g]? = _).trans (hb : W.heap[g]? = _).symm
end Go.Proofs.YteceghbjjnknbaaGreat
