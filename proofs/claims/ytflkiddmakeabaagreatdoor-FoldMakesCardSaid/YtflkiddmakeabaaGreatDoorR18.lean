/- A bundle of texts: LawO4. -/
import Derived.Test.YtflkiddmakeabaaGreatDoorR17
import Derived.Test.YtflkiddmakeabaaGreatDoorR14
import Derived.Test.YtflkiddmakeabaaGreatDoorR03
/- The walk of the law FoldMakes. -/
set_option linter.unusedVariables false
namespace Go.Proofs.YtflkiddmakeabaaGreatDoor
open Go.RowKit Zp
set_option maxRecDepth 100000 in
set_option maxHeartbeats 4000000 in
theorem fmakes_walk (w : World) (p : Int) (hp : I64 p) (size : Int) (hs : I64 size) (t : Int) (ht : I64 t) (k : Int) (hk : I64 k) (AW : Option Addr) (mW cW : Nat) (word : List Int) (hW : ArgS w AW mW cW word) (asked : Int) (hka : I64 asked) (AB : Option Addr) (nB cB : Nat) (label : List Int) (hB : ArgS w AB nB cB label) (hT : Typed w) :
    Calls Tryz.prog 4 #[vi p, vi size, vi t, vi k, .slice AW mW cW, vi asked, .slice AB nB cB] w fun e w' => SaysW (.bool true) w e w' := by
  by_cases hD : HasDom2 p size t
  · obtain ⟨⟨h3, hm, hpr⟩, n, rfl, hsz, h0⟩ := hD
    obtain ⟨q, rfl⟩ := Int.eq_ofNat_of_zero_le (a := p) (by omega)
    rw [Int.toNat_natCast] at hpr hsz
    haveI := hpr.ne
    have hqm : q ≤ 2147483647 := by omega
    have hq3 : 3 ≤ q := by omega
    have HM := Lib.hid (made5_yes q n (by omega) hqm hpr t ht hsz h0 w hT)
    have HLB := Lib.hid hB
    have HLW := Lib.hid hW
    have HSZ := Lib.hid hsz
    have HK := Lib.hid hk
    have HT := Lib.hid hT
    clear hT hp hs ht hk hka hpr hsz h0 h3 hm hB hW
    go_enter Tryz.func4, Tryz.ntmps4
    go_wp2_with fail
    refine HM.out.mono ?_
    rintro _ w1 ⟨b, Dd, sp, rfl, hDm, hsp, hb1⟩
    rcases hsp with ⟨h23, rfl⟩ | ⟨h23, sg, b', kk, z, oo, rfl, hsl, F, G⟩
    · have hbf : Below w.heap.size w (w1.alloc (.cells #[vi q, vi n, vi (fv (el q t)), vi (fv (rootI q (n : Int)))] 30)) := hb1.alloc hb1.size _
      have HBF := Lib.hid hbf
      clear hbf hb1 hDm
      go_wp2
      go_ret
      exact ⟨rfl, HBF.out⟩
    · have hPK : Pk q kk := ⟨by omega, hqm, G.k2, G.klt (by omega), G.least, G.cop⟩
      obtain ⟨s, hsE⟩ : ∃ s, s = el q t := ⟨_, rfl⟩
      obtain ⟨rt, hrE⟩ : ∃ rt, rt = rootI q (n : Int) := ⟨_, rfl⟩
      rw [← hsE] at hDm
      rw [← hsE, ← hrE]
      obtain ⟨w2, hw2⟩ : ∃ w2, w2 = w1.alloc (.cells #[vi q, vi n, vi (fv s), vi (fv rt)] 30) := ⟨_, rfl⟩
      have hba : Below w1.heap.size w1 w2 := by rw [hw2]; exact (Below.refl _ _).alloc (Nat.le_refl _) _
      have hB2 : Blk w2 w1.heap.size 30 #[vi q, vi n, vi (fv s), vi (fv rt)] := by rw [hw2]; exact Blk.new _ _ _
      have hsz2 : w2.heap.size = w1.heap.size + 1 := by rw [hw2]; simp
      have hb02 := hb1.trans (hba.mono hb1.size)
      have HCN := Lib.hid (chains5_any q w1.heap.size b' sg kk z oo hPK AB nB cB label HLB.out.len HLB.out.i64 (by have := HLB.out.reach; have := HLB.out.cap; omega) w2 (F.below hba (Nat.le_refl _)) (G.below hba hsl) (HLB.out.sl.below hb02))
      have HD2 := Lib.hid (hDm.below hba hDm.fld.le)
      have HF2 := Lib.hid (F.below hba (Nat.le_refl _))
      have HG2 := Lib.hid (G.below hba hsl)
      have HPK := Lib.hid hPK
      have HW2 := Lib.hid hw2
      have HB2 := Lib.hid hB2
      have HS2 := Lib.hid hsz2
      have HB02 := Lib.hid hb02
      have HSL := Lib.hid hsl
      have HRT := Lib.hid hrE
      have HLC := makes5_both q kk hPK n HSZ.out s k asked HK.out word HLW.out.i64 (digL q kk (2 :: label))
      clear hb1 hDm F G hsl hPK hsE hrE hw2 hba hB2 hsz2 hb02
      obtain ⟨E, f, pl, D', hMK, hpl, hE⟩ := HLC
      have HMK := Lib.hid hMK
      have HPL := Lib.hid hpl
      have HE := Lib.hid hE
      clear hMK hpl hE
      go_upto_region 4 with (fail)
      rw [← HW2.out]
      go_wp2_with fail
      refine HCN.out.mono ?_
      rintro _ w3 ⟨m, rfl, hC, hM, hlt, hb3⟩
      have hb03 := HB02.out.trans (hb3.mono HB02.out.size)
      have HD3 := Lib.hid (HD2.out.below hb3 HD2.out.fld.le)
      have HF3 := Lib.hid (HF2.out.below hb3 HF2.out.le)
      have HG3 := Lib.hid (HG2.out.below hb3 (block_lt_of_cell HG2.out.c0))
      have HC3 := Lib.hid hC
      have HM3 := Lib.hid hM
      have HLT := Lib.hid hlt
      have HB03 := Lib.hid hb03
      have HB23 := Lib.hid (Blk.below HB2.out hb3 HB2.out.lt)
      have HCL : Hid (w2.heap.size < w3.heap.size) := Lib.hid hC.lt
      have HML : Hid (m < w3.heap.size) := Lib.hid hM.lt
      have sw3 := HLW.out.sl.below hb03
      have hba3 : Below w3.heap.size w3 (w3.alloc (.cells #[] 3)) := (Below.refl _ _).alloc (Nat.le_refl _) _
      have hoe := own_empty w3 w3.heap.size (Nat.le_refl _)
      have HBA3 := Lib.hid hba3
      have HOE := Lib.hid hoe
      have HSA := Lib.hid (sw3.below hba3)
      have HMB : Hid (([] : List Int).length + mW ≤ 17592186044416) := Lib.hid (by have := HLW.out.reach; have := HLW.out.cap; simp; omega)
      have HWL := Lib.hid HLW.out.len
      clear hb3 hb03 hC hM hlt sw3 hba3 hoe
      go_upto_region 8 with (at_builtin; refine wpList_appA (w3.alloc (.cells #[] 3)) rfl _ _ rfl w3.heap.size _ [] AW mW cW word rfl rfl HWL.out HOE.out HSA.out HMB.out (by simp) ?_; intro v' w4 hg; have hown := hg.own; have hb4 := hg.below HBA3.out HOE.out (Nat.le_refl _) HBA3.out.size; rw [List.nil_append] at hown; clear hg; obtain ⟨AX, nX, cX, rfl, hlX, hcX, hmX, sx4⟩ := hown.shapeN)
      have HO4 := Lib.hid hown
      have HB4 := Lib.hid hb4
      have HLX := Lib.hid hlX
      have HCK := Lib.hid (HMK.out w1.heap.size b' sg z oo w2.heap.size Dd b w1.heap.size AX nX cX w3.heap.size w4 (HF3.out.below hb4 HF3.out.le) (HG3.out.below hb4 (block_lt_of_cell HG3.out.c0)) (by have := HS2.out; omega) (by have := HSL.out; have := HS2.out; omega) (HC3.out.below hb4) (HD3.out.below hb4 HD3.out.fld.le) (by have := HS2.out; omega) hlX hown)
      clear hb4 hlX hcX hmX sx4 hown
      go_wp2_with fail
      refine HCK.out.mono ?_
      rintro _ w5 ⟨CR, kR, eR, CL, kL, eL, CO, kO, eO, A5, n5, c5, rfl, hf5, ho5, hC5, hg5⟩
      obtain ⟨w6, hw6⟩ : ∃ w6, w6 = w5.alloc (.cells #[.slice CR kR eR, .slice CL kL eL, .slice CO kO eO] 26) := ⟨_, rfl⟩
      have hb56 : Below w5.heap.size w5 w6 := by rw [hw6]; exact (Below.refl _ _).alloc (Nat.le_refl _) _
      have hBO : Blk w6 w5.heap.size 26 #[.slice CR kR eR, .slice CL kL eL, .slice CO kO eO] := by rw [hw6]; exact Blk.new _ _ _
      have hb04 := HB03.out.trans (HB4.out.mono HB03.out.size)
      have hb05 : Below w.heap.size w w5 := hb04.grown hg5 hb04.size (fun x hx => by injection hx with hx; have := HB02.out.size; omega)
      have hb06 := hb05.trans (hb56.mono hb05.size)
      have hB26 : Blk w6 w1.heap.size 30 #[vi q, vi n, vi (fv s), vi (fv rt)] := by
        have h1 := Blk.below HB23.out HB4.out HB23.out.lt
        have h2 := Blk.grown h1 hg5 (fun e => by injection e with e; have := HS2.out; omega)
        exact Blk.below h2 hb56 h2.lt
      have hM6 := ((HM3.out.below HB4.out).farC5 (HC3.out.below HB4.out) hg5).below hb56
      have HC6 := Lib.hid (hC5.below hb56)
      have HM6 := Lib.hid hM6
      have HBO := Lib.hid hBO
      have HB26 := Lib.hid hB26
      have HB06 := Lib.hid hb06
      have HW6 := Lib.hid hw6
      have HF5 := Lib.hid hf5
      have HMW5 : Hid (w3.heap.size ≤ w5.heap.size) := Lib.hid (Nat.le_trans HB4.out.size hg5.size)
      have HO5 := Lib.hid ho5
      have HS56 := Lib.hid (SafeO.of hb56)
      have hsafe45 : SafeO w4 w5 := by
        obtain ⟨v9, hv9⟩ := (HC3.out.below HB4.out).obj
        exact SafeO.one hg5 hv9 (by decide) (by decide)
      have HO5X := Lib.hid (HO4.out.safe hsafe45.1)
      have HFL := Lib.hid (fun W => rfault5_any q n (fv s) (fv rt) k asked HSZ.out.pos HSZ.out.le W)
      have HIS := Lib.hid (fun W (hs : SL W AW word) => ris_any q (by omega) hqm n HSZ.out.pos HSZ.out.le s k HK.out AW mW cW word HWL.out HLW.out.i64 W hs)
      rw [← HRT.out] at HIS
      have r0 := (hB26.cell 0).trans (show _ = some (vi q) from rfl)
      have r1 := (hB26.cell 1).trans (show _ = some (vi n) from rfl)
      have r2 := (hB26.cell 2).trans (show _ = some (vi (fv s)) from rfl)
      have r3 := (hB26.cell 3).trans (show _ = some (vi (fv rt)) from rfl)
      clear hb56 hBO hb04 hb05 hb06 hB26 hM6 hw6 hf5 ho5 hC5 hg5 hsafe45
      go_upto_region 9 with (fail)
      rw [← HW6.out]
      go_wp2_with fail
      refine (HFL.out _).mono ?_
      rintro _ w7 ⟨rfl, hb7⟩
      have hB27 := Blk.below HB26.out hb7 HB26.out.lt
      have q0 := (hB27.cell 0).trans (show _ = some (vi q) from rfl)
      have q1 := (hB27.cell 1).trans (show _ = some (vi n) from rfl)
      have q2 := (hB27.cell 2).trans (show _ = some (vi (fv s)) from rfl)
      have q3 := (hB27.cell 3).trans (show _ = some (vi (fv rt)) from rfl)
      have HB7 := Lib.hid hb7
      obtain ⟨E1, hE1⟩ : ∃ E1 : Int, (word.length ≠ n → E1 = 2) ∧ (word.length = n → E1 = faultF n k asked) := by
        by_cases h : word.length = n
        · exact ⟨_, fun h' => absurd h h', fun _ => rfl⟩
        · exact ⟨2, fun _ => rfl, fun h' => absurd h' h⟩
      have HE1 := Lib.hid hE1
      clear hb7 hB27 r0 r1 r2 r3 hE1
      go_upto_if 85 with (fail)
      go_cut [25] (fun ev wx => ev = vi E1 ∧ w7 = wx)
      case first =>
        by_cases hl : word.length = n
        · have t1 : ((mW : Int) != (n : Int)) = false := by rw [bne_eq_false_iff_eq, ← HWL.out]; omega
          have HEE := Lib.hid (HE1.out.2 hl)
          clear hl
          go_wp2_with fail
          go_meet
          exact ⟨by rw [HEE.out], rfl⟩
        · have t1 : ((mW : Int) != (n : Int)) = true := by rw [bne_iff_ne, ← HWL.out]; omega
          have HEE := Lib.hid (HE1.out.1 hl)
          clear hl
          go_wp2_with fail
          go_meet
          exact ⟨by rw [HEE.out], rfl⟩
      case rest =>
      obtain ⟨rfl, rfl⟩ := hcut
      go_upto_if 87 with (fail)
      go_cut [25, 26] from 88 to 93 (fun ev bv wx => ev = vi E ∧ Below w7.heap.size w7 wx)
      case first =>
        rcases HE.out with ⟨e1, e2, _⟩ | ⟨e1, e2, e3, _⟩ | ⟨e1, e2, e3, e4, _⟩ | ⟨e1, e2, e3, e4, _⟩
        · have t1 : E1 = 2 := HE1.out.1 e1
          have HEE := Lib.hid e2
          subst t1
          clear e1 e2
          go_wp2_with fail
          go_meet
          exact ⟨by rw [HEE.out], Below.refl _ _⟩
        · have t1 : E1 = 2 := (HE1.out.2 e1).trans e2
          have HEE := Lib.hid e3
          subst t1
          clear e1 e2 e3
          go_wp2_with fail
          go_meet
          exact ⟨by rw [HEE.out], Below.refl _ _⟩
        · have t1 : E1 = 0 := (HE1.out.2 e1).trans e2
          have HEE := Lib.hid e4
          subst t1
          have h9 := HIS.out w7 (HLW.out.sl.below (HB06.out.trans (HB7.out.mono HB06.out.size)))
          rw [e3] at h9
          have HI9 := Lib.hid h9
          clear e1 e2 e3 e4 h9
          go_wp2_with fail
          refine HI9.out.mono ?_
          rintro _ w8 ⟨rfl, hb8⟩
          have HB8 := Lib.hid hb8
          clear hb8
          go_wp2_with fail
          go_meet
          exact ⟨by rw [HEE.out], HB8.out⟩
        · have t1 : E1 = 0 := (HE1.out.2 e1).trans e2
          have HEE := Lib.hid e4
          subst t1
          have h9 := HIS.out w7 (HLW.out.sl.below (HB06.out.trans (HB7.out.mono HB06.out.size)))
          rw [e3] at h9
          have HI9 := Lib.hid h9
          clear e1 e2 e3 e4 h9
          go_wp2_with fail
          refine HI9.out.mono ?_
          rintro _ w8 ⟨rfl, hb8⟩
          have HB8 := Lib.hid hb8
          clear hb8
          go_wp2_with fail
          go_meet
          exact ⟨by rw [HEE.out], HB8.out⟩
      case rest =>
        obtain ⟨rfl, hb8⟩ := hcut
        obtain ⟨w8, hw8⟩ : ∃ w8, w8 = wc := ⟨_, rfl⟩
        subst hw8
        clear q0 q1 q2 q3
        have hb68 := HB7.out.trans (hb8.mono HB7.out.size)
        have hb08 := HB06.out.trans (hb68.mono HB06.out.size)
        have her := error_any E E w8 (HT.out.below hb08)
        rw [show (E == E) = true by simp] at her
        have HER := Lib.hid her
        have HB68 := Lib.hid hb68
        clear her hb68 hb08 hb8
        go_wp2_with fail
        refine HER.out.mono ?_
        rintro _ w9 ⟨rfl, hb9⟩
        obtain ⟨w10, hw10⟩ : ∃ w10, w10 = w9.alloc (.cells #[.slice none 0 0, .slice none 0 0, .slice none 0 0] 26) := ⟨_, rfl⟩
        have hb90 : Below w9.heap.size w9 w10 := by rw [hw10]; exact (Below.refl _ _).alloc (Nat.le_refl _) _
        have hBV : Blk w10 w9.heap.size 26 #[.slice none 0 0, .slice none 0 0, .slice none 0 0] := by rw [hw10]; exact Blk.new _ _ _
        have hb69 := HB68.out.trans (hb9.mono HB68.out.size)
        have hb610 := hb69.trans (hb90.mono hb69.size)
        have hb010 := HB06.out.trans (hb610.mono HB06.out.size)
        have hs510 := HS56.out.trans (SafeO.of hb610)
        have hM10 := HM6.out.below hb610
        have hC10 := HC6.out.below hb610
        have hD10 := Blk.below HB26.out hb610 HB26.out.lt
        have hBO10 := Blk.below HBO.out hb610 HBO.out.lt
        have q0 := (hD10.cell 0).trans (show _ = some (vi q) from rfl)
        have q1 := (hD10.cell 1).trans (show _ = some (vi n) from rfl)
        have q2 := (hD10.cell 2).trans (show _ = some (vi (fv s)) from rfl)
        have q3 := (hD10.cell 3).trans (show _ = some (vi (fv rt)) from rfl)
        have hlt59 : w5.heap.size < w9.heap.size := Nat.lt_of_lt_of_le HBO.out.lt hb69.size
        have HW10 := Lib.hid hw10
        have HBV := Lib.hid hBV
        have HB010 := Lib.hid hb010
        have HS510 := Lib.hid hs510
        have HM10 := Lib.hid hM10
        have HC10 := Lib.hid hC10
        have HBO10 := Lib.hid hBO10
        have HL59 := Lib.hid hlt59
        have HOX10 := Lib.hid (HO5X.out.safe hs510.1)
        have HOP10 := Lib.hid (HO5.out.safe hs510.1)
        clear hb90 hBV hb69 hb610 hb010 hs510 hM10 hC10 hD10 hBO10 hw10 hb9 hlt59
        go_upto_if 98 with (fail)
        rw [← HW10.out]
        go_cut [29] from 99 to 107 (fun av wx => ∃ (BR : Option Addr) (mR dR : Nat) (BL : Option Addr) (mL dL : Nat) (BO : Option Addr) (mO dO : Nat) (AQ : Option Addr) (nQ cQ : Nat), av = .slice AQ nQ cQ ∧ pl.length = nQ ∧ Blk wx w9.heap.size 26 #[.slice BR mR dR, .slice BL mL dL, .slice BO mO dO] ∧ FAt wx BR mR dR BL mL dL BO mO dO f ∧ SL wx AQ pl ∧ RCh wx m q D' ∧ Chn wx w2.heap.size sg D' ∧ FAt wx CR kR eR CL kL eL CO kO eO f ∧ Blk wx w5.heap.size 26 #[.slice CR kR eR, .slice CL kL eL, .slice CO kO eO] ∧ SL wx A5 pl ∧ SL wx AX word ∧ Below w.heap.size w wx)
        case first =>
          by_cases h0 : E = 0
          · have hr : word.length = n ∧ RMkAll q n s k asked word (digL q kk (2 :: label)) f pl D' := by
              rcases HE.out with ⟨_, e2, _⟩ | ⟨_, _, e3, _⟩ | ⟨_, _, _, e4, _⟩ | ⟨e1, _, _, _, e5⟩
              · omega
              · omega
              · omega
              · exact ⟨e1, e5⟩
            have hmn : n = mW := by rw [← hr.1, HWL.out]
            have h9 := hr.2 m AW cW w10 HM10.out (HLW.out.sl.below HB010.out) (fun ad e => by
              obtain ⟨ad', e', hlt, _⟩ := HLW.out.sl.2 (by have := HSZ.out.pos; have := hr.1; omega)
              rw [e] at e'
              injection e' with e'
              subst e'
              have := HLT.out
              have := HB02.out.size
              omega)
            rw [← HRT.out] at h9
            rw [show (RDom q n (fv s) (fv rt)) = RDom q mW (fv s) (fv rt) by rw [hmn]] at h9
            rw [show (Value.slice AW n cW) = Value.slice AW mW cW by rw [hmn]] at h9
            rw [hmn] at q1
            have HRM := Lib.hid h9
            subst h0
            clear hr h9 hmn
            go_wp2_with fail
            refine HRM.out.mono ?_
            rintro _ w11 ⟨BR, mR, dR, BL, mL, dL, BO, mO, dO, AQ, nQ, cQ, rfl, hf11, ho11, hM11, hg11⟩
            have hmw : m ≠ w9.heap.size := by have h1 := HM10.out; have h2 := HL59.out; have h3 := HML.out; have h4 := HB4.out.size; have h5 : w3.heap.size ≤ w5.heap.size := HMW5.out; omega
            have hBV1 := Blk.grown HBV.out hg11 (fun e => by injection e with e; exact hmw e.symm)
            have v0 := (hBV1.cell 0).trans (show _ = some (.slice none 0 0) from rfl)
            have v1 := (hBV1.cell 1).trans (show _ = some (.slice none 0 0) from rfl)
            have v2 := (hBV1.cell 2).trans (show _ = some (.slice none 0 0) from rfl)
            have z0 := hBV1.frozen 0
            have z1 := hBV1.frozen 1
            have z2 := hBV1.frozen 2
            obtain ⟨hset, hgr⟩ := blk_set3 hBV1 (.slice BR mR dR) (.slice BL mL dL) (.slice BO mO dO)
            obtain ⟨w12, hw12⟩ : ∃ w12, w12 = (((w11.setCell ⟨w9.heap.size, 0, none⟩ (.slice BR mR dR)).setCell ⟨w9.heap.size, 1, none⟩ (.slice BL mL dL)).setCell ⟨w9.heap.size, 2, none⟩ (.slice BO mO dO)) := ⟨_, rfl⟩
            rw [← hw12] at hset hgr
            have s11 : SafeO w10 w11 := by
              obtain ⟨gq, cq, csq, hx, _⟩ := id HM10.out
              exact SafeO.one hg11 hx (by decide) (by decide)
            have s12 : SafeO w11 w12 := SafeO.one hgr hBV1 (by decide) (by decide)
            have hC11 := HC10.out.farM5 HM10.out hg11
            obtain ⟨AQ', nQ', cQ', e9, hlQ, _, _, slQ⟩ := (ho11.safe s12.1).shapeN
            injection e9 with e91 e92 e93
            subst e91 e92 e93
            have hb12 : Below w.heap.size w w12 := (HB010.out.grown hg11 HB010.out.size (fun x hx => by injection hx with hx; have := HLT.out; have := HB02.out.size; omega)).grown hgr (Nat.le_trans HB010.out.size hg11.size) (fun x hx => by injection hx with hx; have h1 := HL59.out; have h2 := HMW5.out; have h3 := HB03.out.size; omega)
            have hBO12 := Blk.grown (Blk.grown HBO10.out hg11 (fun e => by injection e with e; have h1 := HMW5.out; have h2 := HML.out; omega)) hgr (fun e => by injection e with e; have := HL59.out; omega)
            have hM12 := hM11.hold s12.1 (hgr.block m hM11.lt (fun e => by injection e with e; exact hmw e))
            have hC12 := hC11.hold s12.1 (hgr.block _ hC11.lt (fun e => by injection e with e; have h1 := HL59.out; have h2 := HMW5.out; have h3 := HCL.out; omega))
            have HFIN := Lib.hid (And.intro hlQ (And.intro hset (And.intro (hf11 w12 s12) (And.intro slQ (And.intro hM12 (And.intro hC12 (And.intro (HF5.out w12 ((HS510.out.trans s11).trans s12)) (And.intro hBO12 (And.intro (sl_of ((HOP10.out.safe s11.1).safe s12.1)) (And.intro (sl_of ((HOX10.out.safe s11.1).safe s12.1)) hb12))))))))))
            have HW12 := Lib.hid hw12
            clear hset hgr s11 s12 hC11 slQ hb12 hBO12 hM12 hC12 hf11 ho11 hM11 hg11 hlQ hw12 hBV1 hmw
            go_wp2_with fail
            go_meet
            rw [← HW12.out]
            exact ⟨BR, mR, dR, BL, mL, dL, BO, mO, dO, _, _, _, rfl, HFIN.out⟩
          · have hz : f = fld0 ∧ pl = [] ∧ D' = digL q kk (2 :: label) := by
              rcases HE.out with ⟨_, _, h⟩ | ⟨_, _, _, h⟩ | ⟨_, _, _, _, h⟩ | ⟨_, _, _, e4, _⟩
              · exact h
              · exact h
              · exact h
              · exact absurd e4 h0
            have t1 : (E == 0) = false := beq_eq_false_iff_ne.2 h0
            have HZ := Lib.hid hz
            clear hz h0
            go_wp2_with fail
            go_meet
            exact ⟨none, 0, 0, none, 0, 0, none, 0, 0, none, 0, 0, rfl, by rw [HZ.out.2.1]; rfl, HBV.out, by rw [HZ.out.1]; exact fat_zero _, by rw [HZ.out.2.1]; exact SL.nil, by rw [HZ.out.2.2]; exact HM10.out, HC10.out, HF5.out w10 HS510.out, HBO10.out, sl_of HOP10.out, sl_of HOX10.out, HB010.out⟩
        case rest =>
          obtain ⟨BR, mR, dR, BL, mL, dL, BO, mO, dO, AQ, nQ, cQ, rfl, hlQ, hBV, hfv, slQ, hM, hC, hfo, hBO, sl5, slX, hb⟩ := hcut
          obtain ⟨wa, hwa⟩ : ∃ wa, wa = wc := ⟨_, rfl⟩
          subst hwa
          have x0 := (hBO.cell 0).trans (show _ = some (.slice CR kR eR) from rfl)
          have x1 := (hBO.cell 1).trans (show _ = some (.slice CL kL eL) from rfl)
          have x2 := (hBO.cell 2).trans (show _ = some (.slice CO kO eO) from rfl)
          have v0 := (hBV.cell 0).trans (show _ = some (.slice BR mR dR) from rfl)
          have v1 := (hBV.cell 1).trans (show _ = some (.slice BL mL dL) from rfl)
          have v2 := (hBV.cell 2).trans (show _ = some (.slice BO mO dO) from rfl)
          have HFS := Lib.hid (foldsame_any rfl wa hfo hfv)
          have HSQ := Lib.hid (And.intro hlQ (And.intro slQ (And.intro sl5 slX)))
          have HMC := Lib.hid (And.intro hM hC)
          have HBA := Lib.hid hb
          clear q0 q1 q2 q3 hlQ hBV hfv slQ hM hC hfo hBO sl5 slX hb
          go_wp2_with fail
          refine HFS.out.mono ?_
          rintro _ wd ⟨rfl, hbd⟩
          have hl5 : pl.length = n5 := by
            obtain ⟨A', n', c', e, hl, _⟩ := HO5.out.shapeN
            injection e with _ e2 _
            rw [e2]; exact hl
          have HI1 := Lib.hid (ints_sameH A5 AQ n5 c5 nQ cQ pl pl hl5 HSQ.out.1 rfl (by have := HPL.out; omega) wd (HSQ.out.2.2.1.below hbd) (HSQ.out.2.1.below hbd))
          have HBD := Lib.hid hbd
          clear hbd hl5 x0 x1 x2 v0 v1 v2
          go_wp2_with fail
          refine HI1.out.mono ?_
          rintro _ _ ⟨rfl, k1, rfl⟩
          go_wp2_with fail
          refine (chdigest_any w2.heap.size sg D' (wd.drewN k1) ((HMC.out.2.below HBD.out).drewN k1)).mono ?_
          rintro _ we ⟨v8, rfl, ho8, hbe⟩
          obtain ⟨A8, n8, c8, rfl, hl8, _, hm8, sl8⟩ := ho8.shapeN
          have hbde : Below wd.heap.size wd we := (below_drewN (Below.refl _ _) k1).trans hbe
          have hbae := HBD.out.trans (hbde.mono HBD.out.size)
          obtain ⟨g, cap, cs, hRO, hbg, hslm, hDl, hcap, hcm, hDi⟩ := HMC.out.1.below hbae
          have m1 := (Blk.cell hRO 1).trans (show _ = some (.slice (some ⟨g, 0, none⟩) 4 cap) from rfl)
          have HI2 := Lib.hid (ints_sameH A8 (some ⟨g, 0, none⟩) n8 c8 4 cap D' D' hl8 hDl rfl (by have := hl8; omega) we sl8 hslm)
          have HBAE := Lib.hid hbae
          clear hRO hbg hslm hDl hcap hcm hDi hl8 hm8 sl8 ho8 hbe hbde hbae
          go_wp2_with fail
          refine HI2.out.mono ?_
          rintro _ _ ⟨rfl, k3, rfl⟩
          have HI3 := Lib.hid (ints_sameH AX AW nX cX mW cW word word HLX.out HWL.out rfl (by have := HLX.out; have := HWL.out; have := HLW.out.reach; have := HLW.out.cap; omega) (we.drewN k3) (HSQ.out.2.2.2.below (below_drewN HBAE.out k3)) (HLW.out.sl.below (below_drewN (HBA.out.trans (HBAE.out.mono HBA.out.size)) k3)))
          have HBF := Lib.hid (HBA.out.trans (HBAE.out.mono HBA.out.size))
          clear m1
          go_wp2_with fail
          refine HI3.out.mono ?_
          rintro _ _ ⟨rfl, k4, rfl⟩
          go_wp2
          go_ret
          exact ⟨rfl, below_drewN HBF.out _⟩
  · have HN := Lib.hid (made5_nodom p size t hp hs ht hD w hT)
    clear hD hT hp hs ht hk hka hB hW
    go_enter Tryz.func4, Tryz.ntmps4
    go_wp2_with fail
    refine HN.out.mono ?_
    rintro _ w1 ⟨rfl, hb1⟩
    have HBF := Lib.hid (hb1.alloc hb1.size (.cells #[vi 0, vi 0, vi 0, vi 0] 30))
    clear hb1
    go_wp2
    go_ret
    exact ⟨rfl, HBF.out⟩
end Go.Proofs.YtflkiddmakeabaaGreatDoor
