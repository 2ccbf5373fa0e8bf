/- A bundle of texts: LawM6. -/
import Derived.Test.YtgmkcmahbefcoaaDoorB12
/- The walk of the law CodeMends. -/
set_option linter.unusedVariables false
namespace Go.Proofs.YtgmkcmahbefcoaaDoor
open Go.RowKit Zp

set_option maxRecDepth 100000 in
set_option maxHeartbeats 3000000 in
theorem cmends_walk (w : World) (p : Int) (hp : I64 p) (size : Int) (hs : I64 size) (t : Int) (ht : I64 t) (k : Int) (hk : I64 k) (O : Option Addr) (no co_ : Nat) (other : List Int) (ho : ArgS w O no co_ other) (P : Option Addr) (np cp : Nat) (ats : List Int) (hP : ArgS w P np cp ats) (V : Option Addr) (nv cv : Nat) (iss : List Int) (hV : ArgS w V nv cv iss) (G : Option Addr) (mg cg : Nat) (gone : List Int) (hg : ArgS w G mg cg gone) (hT : Typed w) :
    Calls Tryd.prog 6 #[vi p, vi size, vi t, vi k, .slice O no co_, .slice P np cp, .slice V nv cv, .slice G mg cg] w fun e w' => SaysW (.bool true) w e w' := by
  have hrg := hg.r8
  rw [hg.len] at hrg
  have hro := ho.r8
  rw [ho.len] at hro
  have hrp := hP.r8
  rw [hP.len] at hrp
  have hrv := hV.r8
  rw [hV.len] at hrv
  by_cases hD : HasDom2 p size t
  · obtain ⟨⟨h3, hm, hpr⟩, n, rfl, hsz, h0⟩ := hD
    obtain ⟨q, rfl⟩ := Int.eq_ofNat_of_zero_le (a := p) (by omega)
    rw [Int.toNat_natCast] at hpr hsz
    haveI := hpr.ne
    have hqm : q ≤ 2147483647 := by omega
    have hq2 : 2 ≤ q := by omega
    have HM := Lib.hid (made2_yes q n (by omega) hqm hpr t ht hsz h0 w hT)
    have hn := hsz.le
    have hn1 := hsz.pos
    obtain ⟨s, hsE⟩ : ∃ s, s = el q t := ⟨_, rfl⟩
    obtain ⟨r, hrE⟩ : ∃ r, r = rootI q (n : Int) := ⟨_, rfl⟩
    have hMT : MadeTwo q n t = fun w e w' => ∃ b D : Nat, e = .returned (.tuple #[.pointer (some ⟨D, 0, none⟩), RDom q n (fv s) (fv r), .bool true]) ∧ Dom w' w'.heap.size D b q n s ∧ Below w.heap.size w w' := by rw [hsE, hrE]; rfl
    rw [hMT] at HM
    have HDG := Lib.hid (fun W hsW => rdegree_n q hqm O no co_ other ho.len ho.i64 (by omega) W hsW)
    have HTO := Lib.hid (fun W hsW => rtrim_n q hqm O no co_ other ho.len ho.i64 (by omega) ho.cap W hsW)
    have HVO := Lib.hid (fun W hsW => rvalues_any q hq2 hqm n hn1 hn s r O no co_ other ho.len ho.i64 (by omega) W hsW)
    have HDL := Lib.hid (show ∀ j : Int, degL (els q other) < j ↔ ((trimL (els q other)).length : Int) ≤ j from fun j => by unfold degL; omega)
    have HSO := Lib.hid ho.sl
    have HSP := Lib.hid hP.sl
    have HSV := Lib.hid hV.sl
    have HSG := Lib.hid hg.sl
    have HPL := Lib.hid hP.len
    have HVL := Lib.hid hV.len
    have HGL := Lib.hid hg.len
    have HPI := Lib.hid hP.i64
    have HVI := Lib.hid hV.i64
    have HGI := Lib.hid hg.i64
    have HOF := Lib.hid (fun x (hx : I64 x) W => rof_any q hqm x hx W)
    have htl : (fvs (trimL (els q other))).length ≤ 9223372036854775807 := by
      have h1 := trimL_length_le (els q other)
      have h2 : (els q other).length = no := by rw [List.length_map, ho.len]
      simp only [fvs, List.length_map]
      omega
    have HTL := Lib.hid htl
    obtain ⟨l, hl⟩ : ∃ l, l = els q other := ⟨_, rfl⟩
    rw [← hl] at HDG HTO HVO HDL HTL
    generalize degL l = g at HDG HDL
    by_cases h1 : 1 ≤ k ∧ k ≤ n
    · obtain ⟨h1a, h1b⟩ := h1
      obtain ⟨k, rfl⟩ := Int.eq_ofNat_of_zero_le (a := k) (by omega)
      have hk1 : 1 ≤ k := by omega
      have hk2 : k ≤ n := by omega
      have t1 : decide ((k : Int) < 1) = false := by simp; omega
      have t1' : decide (k < 1) = false := by simp; omega
      have t2 : decide ((n : Int) < (k : Int)) = false := by simp; omega
      have t2' : decide (n < k) = false := by simp; omega
      by_cases hgk : g < k
      · have HGK := Lib.hid (show (trimL l).length ≤ k by have := (HDL.out k).1 hgk; omega)
        have t3 : decide ((k : Int) ≤ g) = false := by simp; omega
        have hde := fun S D b A ca word (h1 : word.length = n) (h2 : ∀ x ∈ word, I64 x) W (hD : Dom W S D b q n s) hW hG => decode_any q S D b n s k hk1 hk2 A G ca mg cg word gone h1 h2 hg.len (by omega) hg.i64 W hD hW hG
        rw [← hrE] at hde
        have HDE := Lib.hid hde
        have hmg63 : mg < 9223372036854775808 := by omega
        have hnp63 : np < 9223372036854775808 := by omega
        have hnv63 : nv < 9223372036854775808 := by omega
        clear h0 hpr hsz hsE hrE hMT hde hg ho hP hV hl htl hgk h1a h1b
        go_enter Tryd.func6, Tryd.ntmps6
        go_wp2_with fail
        refine (HM.out).mono ?_
        rintro e w1 ⟨b, D, rfl, hD, hb1⟩
        have hba : Below w1.heap.size w1 (w1.alloc (.cells #[vi q, vi n, vi (fv s), vi (fv r)] 47)) := (Below.refl _ _).alloc (Nat.le_refl _) _
        have hrd := RD.new w1 47 q n (fv s) (fv r)
        have hltB : w1.heap.size < (w1.alloc (.cells #[vi q, vi n, vi (fv s), vi (fv r)] 47)).heap.size := by simp
        have hD2 := hD.below hba hD.fld.le
        have bw2 := hb1.trans (hba.mono hb1.size)
        obtain ⟨B0, hB⟩ : ∃ B0, B0 = w1.heap.size := ⟨_, rfl⟩
        go_wp2_with fail
        have hDS := hD2.fld.le
        rw [← hB] at hrd hltB hD2 hDS ⊢
        clear hD hba hB hb1
        generalize w1.alloc (.cells #[vi q, vi n, vi (fv s), vi (fv r)] 47) = w2 at hrd hltB hD2 bw2 hDS ⊢
        refine (HDG.out w2 (HSO.out.below bw2)).mono ?_
        rintro e w' ⟨rfl, rfl⟩
        have sO2 := HSO.out.below bw2
        have c0 := hrd.c0
        have c1 := hrd.c1
        have c2 := hrd.c2
        have c3 := hrd.c3
        go_wp2_with fail
        refine (HVO.out w2 sO2).mono ?_
        rintro e w3 ⟨v3, rfl, hown3, hb3⟩
        have hvl : (fvs (valL s r n l)).length = n := by simp [valL_length]
        obtain ⟨gw, cw, cur, hv3, hgwb, hgwl, hcw⟩ : ∃ gw cw, ∃ _ : Nat, v3 = .slice (some ⟨gw, 0, none⟩) n cw ∧ w2.heap.size ≤ gw ∧ gw < w3.heap.size ∧ n ≤ cw := by
          obtain ⟨g', cap, e, h1, h2⟩ := hown3.block (by rw [hvl]; exact hn1)
          have h3 := hown3.lt g' (by rw [e]; rfl)
          obtain ⟨A', n', c', e2, h4, h5, _, _⟩ := hown3.shapeN
          rw [e] at e2
          injection e2 with e3 e4 e5
          exact ⟨g', cap, 0, by rw [e, hvl], h3.1, h3.2, by rw [hvl] at e4; omega⟩
        subst hv3
        have hw0 : ∃ wl : List Int, wl.length = n ∧ (∀ x ∈ wl, I64 x) ∧ Own w3 w2.heap.size (.slice (some ⟨gw, 0, none⟩) n cw) wl := ⟨_, hvl, i64_fvsR _ hqm, hown3⟩
        have HW0 := Lib.hid hw0
        have HD2 := Lib.hid hD2
        have hlt3 := Nat.lt_of_lt_of_le hltB hb3.size
        have sl3 : SL w3 (some ⟨gw, 0, none⟩) (fvs (valL s r n l)) := by
          obtain ⟨A', n', c', e2, _, _, _, h⟩ := hown3.shapeN
          injection e2 with e2 _ _
          rw [e2]; exact h
        have hba3 : Below w3.heap.size w3 (w3.alloc (.cells #[] 3)) := (Below.refl _ _).alloc (Nat.le_refl _) _
        have ho3 := own_empty w3 w3.heap.size (Nat.le_refl _)
        have sl3a := sl3.below hba3
        have HVLL := Lib.hid hvl
        have HB3 := Lib.hid (bw2.trans (hb3.mono bw2.size))
        have HB23 := Lib.hid hb3
        have HBW := Lib.hid bw2
        have HDS := Lib.hid hDS
        have hd2b := hD2.c0
        clear hd2b hown3 hw0 hD2 hDS hrd hltB bw2 sO2 c0 c1 c2 c3 hb3 hvl
        go_wp2_with (at_builtin; refine wpList_appA (w3.alloc (.cells #[] 3)) rfl _ _ rfl w3.heap.size _ [] (some ⟨gw, 0, none⟩) n cw (fvs (valL s r n l)) rfl rfl HVLL.out ho3 sl3a (by simp; omega) (by simp) ?_; intro v' w4 hg; have hown4 := hg.own; have hb4 := hg.below hba3 ho3 (Nat.le_refl _) (by simp); rw [List.nil_append] at hown4; clear hg)
        obtain ⟨AS, nS, cS, rfl, hlS, hcS, _, slS⟩ := hown4.shapeN
        have hnS : nS = n := by rw [← hlS]; exact HVLL.out
        subst hnS
        have HOS := Lib.hid hown4
        have HW4 := Lib.hid (show ∃ wl : List Int, wl.length = nS ∧ (∀ x ∈ wl, I64 x) ∧ Own w4 w2.heap.size (.slice (some ⟨gw, 0, none⟩) nS cw) wl from by
          obtain ⟨wl, h1, h2, h3⟩ := HW0.out
          exact ⟨wl, h1, h2, h3.below hb4⟩)
        have HB24 := Lib.hid (HB23.out.trans (hb4.mono HB23.out.size))
        clear hown4 hlS slS hb4 hba3 ho3 sl3a HW0 sl3
        go_wp2
        go_loopw [23] (fun t wr => ∃ i : Nat, i ≤ np ∧ i ≤ nv ∧ t = vi i ∧ (∃ wl : List Int, wl.length = nS ∧ (∀ x ∈ wl, I64 x) ∧ Own wr w2.heap.size (.slice (some ⟨gw, 0, none⟩) nS cw) wl) ∧ Own wr w3.heap.size (.slice AS nS cS) (fvs (valL s r nS l)) ∧ Below w2.heap.size w2 wr) (fun t _ => np - (intOf t).toNat)
        case atStart => exact ⟨0, Nat.zero_le _, Nat.zero_le _, rfl, HW4.out, HOS.out, HB24.out⟩
        case round =>
          obtain ⟨i, hi1, hi2, rfl, hwl, hos, hb⟩ := hrel
          have HWLS := Lib.hid hwl
          have HOSR := Lib.hid hos
          have HBR := Lib.hid hb
          have hbw := HBW.out.trans (hb.mono HBW.out.size)
          clear hwl hos
          by_cases hin : i < np ∧ i < nv
          · obtain ⟨hin1, hin2⟩ := hin
            have hil1 : i < ats.length := by rw [HPL.out]; exact hin1
            have hil2 : i < iss.length := by rw [HVL.out]; exact hin2
            obtain ⟨ap, rfl, hap, hcp⟩ := (HSP.out.below hbw).at_ hil1
            obtain ⟨av, rfl, hav, hcv⟩ := (HSV.out.below hbw).at_ hil2
            have hxI := HPI.out _ (List.getElem_mem hil1)
            have hyI := HVI.out _ (List.getElem_mem hil2)
            obtain ⟨x, hx⟩ : ∃ x, x = ats[i] := ⟨_, rfl⟩
            obtain ⟨y, hy⟩ : ∃ y, y = iss[i] := ⟨_, rfl⟩
            rw [← hx] at hcp hxI
            rw [← hy] at hcv hyI
            have i1 : (0 : Int) ≤ (i : Int) := by omega
            have i2 : (i : Int) < (np : Int) := by omega
            have i3 : (i : Int) < (nv : Int) := by omega
            have t5 : decide ((i : Int) < (np : Int)) = true := by simp; omega
            have t6 : decide ((i : Int) < (nv : Int)) = true := by simp; omega
            have HYI := Lib.hid hyI
            obtain ⟨hx1, hx2⟩ := hxI
            clear hx hy hb hbw hyI
            by_cases h0 : 0 ≤ x
            · by_cases hxn : x < nS
              · obtain ⟨g, rfl⟩ := Int.eq_ofNat_of_zero_le h0
                have hgn : g < nS := by omega
                obtain ⟨wl, hw1, hw2, hw3⟩ := HWLS.out
                have hcg := hw3.at_ hw1.symm g (by rw [hw1]; exact hgn)
                have hfz := hw3.frozen_ hw1.symm g
                have hst := hw3.store hw1.symm g y
                have hgl := hw3.lt gw rfl
                have HST := Lib.hid (show ∃ wl : List Int, wl.length = nS ∧ (∀ x ∈ wl, I64 x) ∧ Own (wr.setCell ⟨gw, g, none⟩ (vi y)) w2.heap.size (.slice (some ⟨gw, 0, none⟩) nS cw) wl from ⟨wl.set g y, by rw [List.length_set]; exact hw1, fun z hz => by
                  rcases List.mem_or_eq_of_mem_set hz with h | h
                  · exact hw2 z h
                  · rw [h]; exact HYI.out, hst⟩)
                have HFAR := Lib.hid (HOSR.out.far (q := ⟨gw, g, none⟩) (fun e => by have := (HOSR.out.lt gw e).1; omega) (vi y))
                have HBS := Lib.hid (HBR.out.setCell (p := ⟨gw, g, none⟩) hgwb (vi y))
                obtain ⟨z, hz⟩ : ∃ z, z = wl[g]'(by rw [hw1]; exact hgn) := ⟨_, rfl⟩
                rw [← hz] at hcg
                have g1 : (0 : Int) ≤ (g : Int) := by omega
                have g2 : (g : Int) < (nS : Int) := by omega
                clear hw1 hw2 hw3 hst hz hgl
                go_wp2
                go_region
                go_wp2
                go_roundw
                case rel => exact ⟨i + 1, by omega, by omega, by go_num, HST.out, HFAR.out, below_drewN HBS.out 1⟩
                case measure => simp [intOf]; omega
              · have t7 : decide ((0 : Int) ≤ x) = true := by simp; omega
                have t8 : decide (x < (nS : Int)) = false := by simp; omega
                go_wp2
                go_roundw
                case rel => exact ⟨i + 1, by omega, by omega, by go_num, HWLS.out, HOSR.out, HBR.out⟩
                case measure => simp [intOf]; omega
            · have t7 : decide ((0 : Int) ≤ x) = false := by simp; omega
              go_wp2
              go_roundw
              case rel => exact ⟨i + 1, by omega, by omega, by go_num, HWLS.out, HOSR.out, HBR.out⟩
              case measure => simp [intOf]; omega
          · have hstop : (decide ((i : Int) < (np : Int)) && decide ((i : Int) < (nv : Int))) = false := by
              by_cases h : i < np
              · have : ¬ i < nv := fun h2 => hin ⟨h, h2⟩
                simp; omega
              · simp; omega
            obtain ⟨wl, hw1, hw2, hw3⟩ := HWLS.out
            have HWL := Lib.hid hw1
            have HWI := Lib.hid hw2
            have HOWN := Lib.hid hw3
            have hsw : SL wr (some ⟨gw, 0, none⟩) wl := by
              obtain ⟨A', n', c', e2, _, _, _, h⟩ := hw3.shapeN
              injection e2 with e2 _ _
              rw [e2]; exact h
            have hss : SL wr AS (fvs (valL s r nS l)) := by
              obtain ⟨A', n', c', e2, _, _, _, h⟩ := HOSR.out.shapeN
              injection e2 with e2 _ _
              rw [e2]; exact h
            have HSWR := Lib.hid hsw
            have HSSR := Lib.hid hss
            have HBWR := Lib.hid hbw
            obtain ⟨w5, hw5⟩ : ∃ w5, w5 = wr := ⟨_, rfl⟩
            subst hw5
            have HSG5 := Lib.hid (HSG.out.below hbw)
            clear hw1 hw2 hw3 hsw hss hb hbw hin HWLS HW4
            by_cases hq1 : i < np
            · have t5 : decide ((i : Int) < (np : Int)) = true := by simp; omega
              have hnv : ¬ i < nv := by rw [t5] at hstop; simp at hstop; omega
              have t5b : decide ((i : Int) < (nv : Int)) = false := by simp; omega
              have t5c : (i : Int) < (np : Int) := by omega
              have t5d : ¬ (i : Int) < (nv : Int) := by omega
              clear hnv
              clear hstop
              go_wp2
              go_loopw [24, 25, 26, 27, 28, 29] (fun v c t _ _ _ wr => ∃ i L : Nat, i ≤ nS ∧ t = vi i ∧ c = vi L ∧ L + (kept i gone).length = i ∧ Own wr w5.heap.size v (natI (wrongs s r i gone wl l)) ∧ Below w5.heap.size w5 wr) (fun _ _ t _ _ _ _ => nS - (intOf t).toNat)
              case atStart => exact ⟨0, 0, Nat.zero_le _, rfl, rfl, rfl, World.ownsRow_nil _ _ _ _, Below.refl _ _⟩
              case round =>
                clear t5
                obtain ⟨i, L, hi, rfl, rfl, hL, hown, hb⟩ := hrel
                have HLL := Lib.hid hL
                have HOW := Lib.hid hown
                have HBRR := Lib.hid hb
                have hkn := kept_len i gone
                have hL16 : L ≤ 65536 := by omega
                clear hL hown hkn
                by_cases hin : i < nS
                · have hil : i < wl.length := by rw [HWL.out]; exact hin
                  have i1 : (0 : Int) ≤ (i : Int) := by omega
                  have i2 : (i : Int) < (nS : Int) := by omega
                  obtain ⟨aw, hawe, haw, hcw⟩ := (HSWR.out.below hb).at_ hil
                  injection hawe with hawe
                  subst hawe
                  obtain ⟨av, rfl, hav, hcv⟩ := (HSSR.out.below hb).at_ (k := i) (by simp [valL_length]; exact hin)
                  have hcv' : wr.cell? (av.add i) = some (vi (fv (ev l (s * pw r i)))) := by rw [hcv]; simp [valL, tab]
                  have hcw' : wr.cell? ⟨gw, i, none⟩ = some (vi wl[i]) := by
                    have e : (⟨gw, 0, none⟩ : Addr).add i = ⟨gw, i, none⟩ := by simp [Addr.add]; intro h; exact h.symm
                    rw [← e]; exact hcw
                  have hwI := HWI.out _ (List.getElem_mem hil)
                  have hof := HOF.out wl[i] hwI
                  have hob : offB s r wl l i = (fv (el q wl[i]) != fv (ev l (s * pw r i))) := by
                    unfold offB
                    rw [List.getD_eq_getElem?_getD, List.getElem?_eq_getElem hil, Option.getD_some]
                    by_cases h : ev l (s * pw r i) = el q wl[i]
                    · rw [h]; simp
                    · rw [decide_eq_true h]
                      symm
                      rw [bne_iff_ne]
                      exact fun e => h (fv_inj e).symm
                  obtain ⟨y, hy⟩ : ∃ y, y = wl[i] := ⟨_, rfl⟩
                  rw [← hy] at hcw' hof hob
                  obtain ⟨X, hX⟩ : ∃ X, X = fv (ev l (s * pw r i)) := ⟨_, rfl⟩
                  rw [← hX] at hcv' hob
                  obtain ⟨Y, hY⟩ : ∃ Y, Y = fv (el q y) := ⟨_, rfl⟩
                  rw [← hY] at hof hob
                  have HOFF := Lib.hid hof
                  have HOB := Lib.hid hob
                  have HSG2 := Lib.hid (HSG5.out.below hb)
                  obtain ⟨w6, hw6⟩ : ∃ w6, w6 = wr := ⟨_, rfl⟩
                  subst hw6
                  clear hcv hcw hy hX hY hof hob haw hav hwI
                  go_wp2
                  go_loopw [27, 28] (fun c t wr' => ∃ j : Nat, j ≤ mg ∧ t = vi j ∧ c = .bool (decide ((i : Int) ∉ gone.take j)) ∧ w6 = wr') (fun _ t _ => mg - (intOf t).toNat)
                  case atStart => exact ⟨0, Nat.zero_le _, rfl, by simp, rfl⟩
                  case round =>
                    obtain ⟨j, hj, rfl, rfl, rfl⟩ := hrel
                    by_cases hjm : j < mg
                    · have hjl : j < gone.length := by rw [HGL.out]; exact hjm
                      obtain ⟨ag, rfl, hag, hcg⟩ := HSG2.out.at_ hjl
                      have hstep := gone_step (i := i) hjl rfl
                      obtain ⟨g, hg⟩ : ∃ g, g = gone[j] := ⟨_, rfl⟩
                      rw [← hg] at hcg hstep
                      have HST := Lib.hid hstep
                      have j1 : (0 : Int) ≤ (j : Int) := by omega
                      have j2 : (j : Int) < (mg : Int) := by omega
                      clear hstep hg
                      cases hq : decide ((i : Int) ∉ gone.take j) with
                      | false =>
                        have HQ := Lib.hid hq
                        clear hq
                        go_wp2
                        go_roundw
                        case rel => exact ⟨j + 1, by omega, by go_num, by rw [HST.out, HQ.out]; rfl, by trivial⟩
                        case measure => simp [intOf]; omega
                      | true =>
                        have HQ := Lib.hid hq
                        clear hq
                        obtain ⟨T, hT⟩ : ∃ T, T = (g != (i : Int)) := ⟨_, rfl⟩
                        have HT := Lib.hid hT
                        cases T with
                        | false =>
                          have t2 : (g != (i : Int)) = false := hT.symm
                          clear hT
                          go_wp2
                          go_roundw
                          case rel => exact ⟨j + 1, by omega, by go_num, by rw [HST.out, HQ.out, ← HT.out]; rfl, by trivial⟩
                          case measure => simp [intOf]; omega
                        | true =>
                          have t2 : (g != (i : Int)) = true := hT.symm
                          clear hT
                          go_wp2
                          go_roundw
                          case rel => exact ⟨j + 1, by omega, by go_num, by rw [HST.out, HQ.out, ← HT.out]; rfl, by trivial⟩
                          case measure => simp [intOf]; omega
                    · have ej : j = mg := by omega
                      have t6 : ¬ (j : Int) < (mg : Int) := by omega
                      have htk : gone.take j = gone := List.take_of_length_le (by rw [HGL.out]; omega)
                      rw [htk]
                      clear htk ej
                      by_cases hgo : (i : Int) ∈ gone
                      · have hd : decide ((i : Int) ∉ gone) = false := by simp [hgo]
                        rw [hd]
                        have e1 := kept_out hgo
                        have e2 := wrongs_out (s := s) (r := r) (word := wl) (a := l) hgo
                        have hL2 : L + 1 + (kept (i + 1) gone).length = i + 1 := by rw [e1]; have := HLL.out; omega
                        have HL2 := Lib.hid hL2
                        have HOW2 := Lib.hid (show Own w6 w5.heap.size u24 (natI (wrongs s r (i + 1) gone wl l)) by rw [e2]; exact HOW.out)
                        clear hd e1 e2 hL2 hgo
                        go_wp2_with fail
                        refine (HOFF.out _).mono ?_
                        rintro e w' ⟨rfl, rfl⟩
                        go_wp2
                        go_roundw
                        case rel => exact ⟨i + 1, L + 1, by omega, by go_num, by go_num, HL2.out, HOW2.out, HBRR.out⟩
                        case measure => simp [intOf]; omega
                      · have hd : decide ((i : Int) ∉ gone) = true := by simp [hgo]
                        rw [hd]
                        have e1 := kept_in hgo
                        have e2 := wrongs_in (s := s) (r := r) (word := wl) (a := l) hgo
                        have hL2 : L + (kept (i + 1) gone).length = i + 1 := by rw [e1, List.length_append]; have := HLL.out; simp; omega
                        have HL2 := Lib.hid hL2
                        have hll : (natI (wrongs s r i gone wl l)).length < 17592186044416 := by simp [natI]; have := wrongs_len s r i gone wl l; omega
                        have HLLL := Lib.hid hll
                        have hob := HOB.out
                        clear hd e1 hL2 hgo hll
                        cases hq : offB s r wl l i with
                        | false =>
                          rw [hq] at hob e2
                          have t7 : (Y != X) = false := hob.symm
                          have HOW2 := Lib.hid (show Own w6 w5.heap.size u24 (natI (wrongs s r (i + 1) gone wl l)) by rw [e2]; simpa using HOW.out)
                          clear hob e2 hq
                          go_wp2_with fail
                          refine (HOFF.out _).mono ?_
                          rintro e w' ⟨rfl, rfl⟩
                          go_wp2
                          go_roundw
                          case rel => exact ⟨i + 1, L, by omega, by go_num, rfl, HL2.out, HOW2.out, HBRR.out⟩
                          case measure => simp [intOf]; omega
                        | true =>
                          rw [hq] at hob e2
                          have t7 : (Y != X) = true := hob.symm
                          have e3 : natI (wrongs s r (i + 1) gone wl l) = natI (wrongs s r i gone wl l) ++ [(i : Int)] := by rw [e2]; simp [natI]
                          have HE3 := Lib.hid e3
                          have hown := HOW.out
                          clear hob e2 e3 hq
                          go_wp2_with fail
                          refine (HOFF.out _).mono ?_
                          rintro e w' ⟨rfl, rfl⟩
                          go_wp2_with (at_builtin; refine wpList_app1 _ _ rfl _ _ rfl w5.heap.size _ _ rfl rfl hown HLLL.out HBRR.out.size ?_; intro v' w7 hg)
                          go_roundw
                          case rel => exact ⟨i + 1, L, by omega, by go_num, rfl, HL2.out, by rw [HE3.out]; exact hg.own, hg.below HBRR.out hown (Nat.le_refl _) HBRR.out.size⟩
                          case measure => simp [intOf]; omega
                · have ei : i = nS := by omega
                  subst ei
                  have t6 : ¬ (i : Int) < (i : Int) := by omega
                  have hwl := wrongs_len s r i gone wl l
                  obtain ⟨A9, n9, c9, rfl, hl9, hc9, hm9, hs9⟩ := HOW.out.shapeN
                  have hw9 : (wrongs s r i gone wl l).length = n9 := by rw [← hl9]; simp [natI]
                  have hn9 : n9 ≤ 65536 := by omega
                  have HW9 := Lib.hid hw9
                  have HL9 := Lib.hid hl9
                  have HS9 := Lib.hid hs9
                  have HBY := Lib.hid (HBWR.out.trans (hb.mono HBWR.out.size))
                  have HB2Y := Lib.hid (HBR.out.trans (hb.mono HBR.out.size))
                  have HSWY := Lib.hid (HSWR.out.below hb)
                  have wr1 : IntKind.i64.wrap ((i : Int) - k) = (i : Int) - k := IntWalk.i64_in _ (by constructor <;> omega)
                  have wr2 : IntKind.i64.wrap (2 * (n9 : Int)) = 2 * (n9 : Int) := IntWalk.i64_in _ (by constructor <;> omega)
                  have wr3 : IntKind.i64.wrap (2 * (n9 : Int) + L) = 2 * (n9 : Int) + L := IntWalk.i64_in _ (by constructor <;> omega)
                  clear hwl hl9 hs9 hw9 hb
                  by_cases hfar : (i : Int) - k < 2 * n9 + L
                  · have t7 : decide ((i : Int) - k < 2 * (n9 : Int) + L) = true := by simp; omega
                    go_wp2
                    go_ret
                    exact ⟨rfl, HBY.out⟩
                  · have t7 : decide ((i : Int) - k < 2 * (n9 : Int) + L) = false := by simp; omega
                    have hnear : NearB s r i k gone wl l := ⟨HGK.out, by rw [HW9.out]; have := HLL.out; omega⟩
                    have HNEAR := Lib.hid hnear
                    have hba : Below wr.heap.size wr (wr.alloc (.cells #[] 3)) := (Below.refl _ _).alloc (Nat.le_refl _) _
                    have hoe := own_empty wr wr.heap.size (Nat.le_refl _)
                    have sla := HSWY.out.below hba
                    clear hnear hfar
                    go_wp2_with (at_builtin; refine wpList_appA (wr.alloc (.cells #[] 3)) rfl _ _ rfl wr.heap.size _ [] (some ⟨gw, 0, none⟩) i cw wl rfl rfl HWL.out hoe sla (by simp; omega) (by simp) ?_; intro v' w7 hg; have hown7 := hg.own; have hb7 := hg.below hba hoe (Nat.le_refl _) (by simp); rw [List.nil_append] at hown7; clear hg; obtain ⟨A7, n7, c7, rfl, hl7, hc7, _, sl7⟩ := hown7.shapeN; rw [HWL.out] at hl7; subst hl7; clear hown7)
                    have HB7 := Lib.hid (HBY.out.trans (hb7.mono HBY.out.size))
                    have HB27 := Lib.hid (HB2Y.out.trans (hb7.mono HB2Y.out.size))
                    have HSW7 := Lib.hid (HSWY.out.below hb7)
                    have HS97 := Lib.hid (HS9.out.below hb7)
                    have HSL7 := Lib.hid sl7
                    have hdec := HDE.out _ D b A7 c7 wl HWL.out HWI.out w7 (HD2.out.below HB27.out HDS.out) sl7 (HSG.out.below HB7.out)
                    have HDEC := Lib.hid hdec
                    clear hb7 sl7 hdec hba hoe sla
                    refine (HDEC.out).mono ?_
                    rintro e w8 hdec
                    rcases hdec with ⟨a, A3, B3, la, ca3, lb, rfl, hl3, hc3, hsa3, hl3b, hsb3, hb8, htr, hnb, huni⟩ | ⟨rfl, hb8, hno⟩
                    · have ha : trimL l = a := huni l HNEAR.out
                      have hw : wrongs s r i gone wl a = wrongs s r i gone wl l := by rw [← ha, wrongs_trim]
                      rw [hw] at hl3b hsb3
                      have HB8 := Lib.hid (HB7.out.trans (hb8.mono HB7.out.size))
                      have HTA := Lib.hid ha
                      have hto := HTO.out w8 (HSO.out.below HB8.out)
                      have HTOO := Lib.hid hto
                      have HL3B := Lib.hid hl3b
                      have HSB3 := Lib.hid hsb3
                      have HSA3 := Lib.hid hsa3
                      have HL3 := Lib.hid hl3
                      have HS98 := Lib.hid (HS97.out.below hb8)
                      have HSW8 := Lib.hid (HSW7.out.below hb8)
                      have HSL8 := Lib.hid (HSL7.out.below hb8)
                      clear ha hw hto hl3b hsb3 hsa3 hl3 hb8 htr hnb huni
                      go_wp2_with fail
                      refine (HTOO.out).mono ?_
                      rintro e w9 ⟨v9, rfl, hown9, hb9⟩
                      obtain ⟨A10, n10, c10, rfl, hl10, hc10, _, hs10⟩ := hown9.shapeN
                      have HB9 := Lib.hid (HB8.out.trans (hb9.mono HB8.out.size))
                      have hla : la ≤ 9223372036854775807 := by rw [← HL3.out, ← HTA.out]; exact HTL.out
                      have i1 := ints_sameH A3 A10 la ca3 n10 c10 _ _ HL3.out hl10 (by rw [HTA.out]) hla w9 (HSA3.out.below hb9) hs10
                      have HI1 := Lib.hid i1
                      have i2 := fun W hA hB => ints_sameH B3 A9 lb lb n9 c9 _ _ HL3B.out HL9.out rfl (by rw [← HL3B.out]; simp [natI]; have := wrongs_len s r i gone wl l; omega) W hA hB
                      have HI2 := Lib.hid i2
                      have HSB9 := Lib.hid (HSB3.out.below hb9)
                      have HS99 := Lib.hid (HS98.out.below hb9)
                      have HSW9 := Lib.hid (HSW8.out.below hb9)
                      have HSL9 := Lib.hid (HSL8.out.below hb9)
                      clear hown9 hl10 hs10 hb9 i1 i2 hla
                      go_wp2_with fail
                      refine (HI1.out).mono ?_
                      rintro e w10 ⟨rfl, m10, rfl⟩
                      go_wp2_with fail
                      refine (HI2.out _ (HSB9.out.drewN m10) (HS99.out.drewN m10)).mono ?_
                      rintro e w11 ⟨rfl, m11, rfl⟩
                      go_wp2_with fail
                      refine (ints_sameH A7 (some ⟨gw, 0, none⟩) i c7 i cw wl wl HWL.out HWL.out rfl (by omega) _ (HSL9.out.drewN _) (HSW9.out.drewN _)).mono ?_
                      rintro e w12 ⟨rfl, m12, rfl⟩
                      go_wp2
                      go_ret
                      exact ⟨rfl, below_drewN HB9.out _⟩
                    · exact absurd HNEAR.out (hno l)
            · have t5 : decide ((i : Int) < (np : Int)) = false := by simp; omega
              clear hstop
              go_wp2
              go_loopw [24, 25, 26, 27, 28, 29] (fun v c t _ _ _ wr => ∃ i L : Nat, i ≤ nS ∧ t = vi i ∧ c = vi L ∧ L + (kept i gone).length = i ∧ Own wr w5.heap.size v (natI (wrongs s r i gone wl l)) ∧ Below w5.heap.size w5 wr) (fun _ _ t _ _ _ _ => nS - (intOf t).toNat)
              case atStart => exact ⟨0, 0, Nat.zero_le _, rfl, rfl, rfl, World.ownsRow_nil _ _ _ _, Below.refl _ _⟩
              case round =>
                clear t5
                obtain ⟨i, L, hi, rfl, rfl, hL, hown, hb⟩ := hrel
                have HLL := Lib.hid hL
                have HOW := Lib.hid hown
                have HBRR := Lib.hid hb
                have hkn := kept_len i gone
                have hL16 : L ≤ 65536 := by omega
                clear hL hown hkn
                by_cases hin : i < nS
                · have hil : i < wl.length := by rw [HWL.out]; exact hin
                  have i1 : (0 : Int) ≤ (i : Int) := by omega
                  have i2 : (i : Int) < (nS : Int) := by omega
                  obtain ⟨aw, hawe, haw, hcw⟩ := (HSWR.out.below hb).at_ hil
                  injection hawe with hawe
                  subst hawe
                  obtain ⟨av, rfl, hav, hcv⟩ := (HSSR.out.below hb).at_ (k := i) (by simp [valL_length]; exact hin)
                  have hcv' : wr.cell? (av.add i) = some (vi (fv (ev l (s * pw r i)))) := by rw [hcv]; simp [valL, tab]
                  have hcw' : wr.cell? ⟨gw, i, none⟩ = some (vi wl[i]) := by
                    have e : (⟨gw, 0, none⟩ : Addr).add i = ⟨gw, i, none⟩ := by simp [Addr.add]; intro h; exact h.symm
                    rw [← e]; exact hcw
                  have hwI := HWI.out _ (List.getElem_mem hil)
                  have hof := HOF.out wl[i] hwI
                  have hob : offB s r wl l i = (fv (el q wl[i]) != fv (ev l (s * pw r i))) := by
                    unfold offB
                    rw [List.getD_eq_getElem?_getD, List.getElem?_eq_getElem hil, Option.getD_some]
                    by_cases h : ev l (s * pw r i) = el q wl[i]
                    · rw [h]; simp
                    · rw [decide_eq_true h]
                      symm
                      rw [bne_iff_ne]
                      exact fun e => h (fv_inj e).symm
                  obtain ⟨y, hy⟩ : ∃ y, y = wl[i] := ⟨_, rfl⟩
                  rw [← hy] at hcw' hof hob
                  obtain ⟨X, hX⟩ : ∃ X, X = fv (ev l (s * pw r i)) := ⟨_, rfl⟩
                  rw [← hX] at hcv' hob
                  obtain ⟨Y, hY⟩ : ∃ Y, Y = fv (el q y) := ⟨_, rfl⟩
                  rw [← hY] at hof hob
                  have HOFF := Lib.hid hof
                  have HOB := Lib.hid hob
                  have HSG2 := Lib.hid (HSG5.out.below hb)
                  obtain ⟨w6, hw6⟩ : ∃ w6, w6 = wr := ⟨_, rfl⟩
                  subst hw6
                  clear hcv hcw hy hX hY hof hob haw hav hwI
                  go_wp2
                  go_loopw [27, 28] (fun c t wr' => ∃ j : Nat, j ≤ mg ∧ t = vi j ∧ c = .bool (decide ((i : Int) ∉ gone.take j)) ∧ w6 = wr') (fun _ t _ => mg - (intOf t).toNat)
                  case atStart => exact ⟨0, Nat.zero_le _, rfl, by simp, rfl⟩
                  case round =>
                    obtain ⟨j, hj, rfl, rfl, rfl⟩ := hrel
                    by_cases hjm : j < mg
                    · have hjl : j < gone.length := by rw [HGL.out]; exact hjm
                      obtain ⟨ag, rfl, hag, hcg⟩ := HSG2.out.at_ hjl
                      have hstep := gone_step (i := i) hjl rfl
                      obtain ⟨g, hg⟩ : ∃ g, g = gone[j] := ⟨_, rfl⟩
                      rw [← hg] at hcg hstep
                      have HST := Lib.hid hstep
                      have j1 : (0 : Int) ≤ (j : Int) := by omega
                      have j2 : (j : Int) < (mg : Int) := by omega
                      clear hstep hg
                      cases hq : decide ((i : Int) ∉ gone.take j) with
                      | false =>
                        have HQ := Lib.hid hq
                        clear hq
                        go_wp2
                        go_roundw
                        case rel => exact ⟨j + 1, by omega, by go_num, by rw [HST.out, HQ.out]; rfl, by trivial⟩
                        case measure => simp [intOf]; omega
                      | true =>
                        have HQ := Lib.hid hq
                        clear hq
                        obtain ⟨T, hT⟩ : ∃ T, T = (g != (i : Int)) := ⟨_, rfl⟩
                        have HT := Lib.hid hT
                        cases T with
                        | false =>
                          have t2 : (g != (i : Int)) = false := hT.symm
                          clear hT
                          go_wp2
                          go_roundw
                          case rel => exact ⟨j + 1, by omega, by go_num, by rw [HST.out, HQ.out, ← HT.out]; rfl, by trivial⟩
                          case measure => simp [intOf]; omega
                        | true =>
                          have t2 : (g != (i : Int)) = true := hT.symm
                          clear hT
                          go_wp2
                          go_roundw
                          case rel => exact ⟨j + 1, by omega, by go_num, by rw [HST.out, HQ.out, ← HT.out]; rfl, by trivial⟩
                          case measure => simp [intOf]; omega
                    · have ej : j = mg := by omega
                      have t6 : ¬ (j : Int) < (mg : Int) := by omega
                      have htk : gone.take j = gone := List.take_of_length_le (by rw [HGL.out]; omega)
                      rw [htk]
                      clear htk ej
                      by_cases hgo : (i : Int) ∈ gone
                      · have hd : decide ((i : Int) ∉ gone) = false := by simp [hgo]
                        rw [hd]
                        have e1 := kept_out hgo
                        have e2 := wrongs_out (s := s) (r := r) (word := wl) (a := l) hgo
                        have hL2 : L + 1 + (kept (i + 1) gone).length = i + 1 := by rw [e1]; have := HLL.out; omega
                        have HL2 := Lib.hid hL2
                        have HOW2 := Lib.hid (show Own w6 w5.heap.size u24 (natI (wrongs s r (i + 1) gone wl l)) by rw [e2]; exact HOW.out)
                        clear hd e1 e2 hL2 hgo
                        go_wp2_with fail
                        refine (HOFF.out _).mono ?_
                        rintro e w' ⟨rfl, rfl⟩
                        go_wp2
                        go_roundw
                        case rel => exact ⟨i + 1, L + 1, by omega, by go_num, by go_num, HL2.out, HOW2.out, HBRR.out⟩
                        case measure => simp [intOf]; omega
                      · have hd : decide ((i : Int) ∉ gone) = true := by simp [hgo]
                        rw [hd]
                        have e1 := kept_in hgo
                        have e2 := wrongs_in (s := s) (r := r) (word := wl) (a := l) hgo
                        have hL2 : L + (kept (i + 1) gone).length = i + 1 := by rw [e1, List.length_append]; have := HLL.out; simp; omega
                        have HL2 := Lib.hid hL2
                        have hll : (natI (wrongs s r i gone wl l)).length < 17592186044416 := by simp [natI]; have := wrongs_len s r i gone wl l; omega
                        have HLLL := Lib.hid hll
                        have hob := HOB.out
                        clear hd e1 hL2 hgo hll
                        cases hq : offB s r wl l i with
                        | false =>
                          rw [hq] at hob e2
                          have t7 : (Y != X) = false := hob.symm
                          have HOW2 := Lib.hid (show Own w6 w5.heap.size u24 (natI (wrongs s r (i + 1) gone wl l)) by rw [e2]; simpa using HOW.out)
                          clear hob e2 hq
                          go_wp2_with fail
                          refine (HOFF.out _).mono ?_
                          rintro e w' ⟨rfl, rfl⟩
                          go_wp2
                          go_roundw
                          case rel => exact ⟨i + 1, L, by omega, by go_num, rfl, HL2.out, HOW2.out, HBRR.out⟩
                          case measure => simp [intOf]; omega
                        | true =>
                          rw [hq] at hob e2
                          have t7 : (Y != X) = true := hob.symm
                          have e3 : natI (wrongs s r (i + 1) gone wl l) = natI (wrongs s r i gone wl l) ++ [(i : Int)] := by rw [e2]; simp [natI]
                          have HE3 := Lib.hid e3
                          have hown := HOW.out
                          clear hob e2 e3 hq
                          go_wp2_with fail
                          refine (HOFF.out _).mono ?_
                          rintro e w' ⟨rfl, rfl⟩
                          go_wp2_with (at_builtin; refine wpList_app1 _ _ rfl _ _ rfl w5.heap.size _ _ rfl rfl hown HLLL.out HBRR.out.size ?_; intro v' w7 hg)
                          go_roundw
                          case rel => exact ⟨i + 1, L, by omega, by go_num, rfl, HL2.out, by rw [HE3.out]; exact hg.own, hg.below HBRR.out hown (Nat.le_refl _) HBRR.out.size⟩
                          case measure => simp [intOf]; omega
                · have ei : i = nS := by omega
                  subst ei
                  have t6 : ¬ (i : Int) < (i : Int) := by omega
                  have hwl := wrongs_len s r i gone wl l
                  obtain ⟨A9, n9, c9, rfl, hl9, hc9, hm9, hs9⟩ := HOW.out.shapeN
                  have hw9 : (wrongs s r i gone wl l).length = n9 := by rw [← hl9]; simp [natI]
                  have hn9 : n9 ≤ 65536 := by omega
                  have HW9 := Lib.hid hw9
                  have HL9 := Lib.hid hl9
                  have HS9 := Lib.hid hs9
                  have HBY := Lib.hid (HBWR.out.trans (hb.mono HBWR.out.size))
                  have HB2Y := Lib.hid (HBR.out.trans (hb.mono HBR.out.size))
                  have HSWY := Lib.hid (HSWR.out.below hb)
                  have wr1 : IntKind.i64.wrap ((i : Int) - k) = (i : Int) - k := IntWalk.i64_in _ (by constructor <;> omega)
                  have wr2 : IntKind.i64.wrap (2 * (n9 : Int)) = 2 * (n9 : Int) := IntWalk.i64_in _ (by constructor <;> omega)
                  have wr3 : IntKind.i64.wrap (2 * (n9 : Int) + L) = 2 * (n9 : Int) + L := IntWalk.i64_in _ (by constructor <;> omega)
                  clear hwl hl9 hs9 hw9 hb
                  by_cases hfar : (i : Int) - k < 2 * n9 + L
                  · have t7 : decide ((i : Int) - k < 2 * (n9 : Int) + L) = true := by simp; omega
                    go_wp2
                    go_ret
                    exact ⟨rfl, HBY.out⟩
                  · have t7 : decide ((i : Int) - k < 2 * (n9 : Int) + L) = false := by simp; omega
                    have hnear : NearB s r i k gone wl l := ⟨HGK.out, by rw [HW9.out]; have := HLL.out; omega⟩
                    have HNEAR := Lib.hid hnear
                    have hba : Below wr.heap.size wr (wr.alloc (.cells #[] 3)) := (Below.refl _ _).alloc (Nat.le_refl _) _
                    have hoe := own_empty wr wr.heap.size (Nat.le_refl _)
                    have sla := HSWY.out.below hba
                    clear hnear hfar
                    go_wp2_with (at_builtin; refine wpList_appA (wr.alloc (.cells #[] 3)) rfl _ _ rfl wr.heap.size _ [] (some ⟨gw, 0, none⟩) i cw wl rfl rfl HWL.out hoe sla (by simp; omega) (by simp) ?_; intro v' w7 hg; have hown7 := hg.own; have hb7 := hg.below hba hoe (Nat.le_refl _) (by simp); rw [List.nil_append] at hown7; clear hg; obtain ⟨A7, n7, c7, rfl, hl7, hc7, _, sl7⟩ := hown7.shapeN; rw [HWL.out] at hl7; subst hl7; clear hown7)
                    have HB7 := Lib.hid (HBY.out.trans (hb7.mono HBY.out.size))
                    have HB27 := Lib.hid (HB2Y.out.trans (hb7.mono HB2Y.out.size))
                    have HSW7 := Lib.hid (HSWY.out.below hb7)
                    have HS97 := Lib.hid (HS9.out.below hb7)
                    have HSL7 := Lib.hid sl7
                    have hdec := HDE.out _ D b A7 c7 wl HWL.out HWI.out w7 (HD2.out.below HB27.out HDS.out) sl7 (HSG.out.below HB7.out)
                    have HDEC := Lib.hid hdec
                    clear hb7 sl7 hdec hba hoe sla
                    refine (HDEC.out).mono ?_
                    rintro e w8 hdec
                    rcases hdec with ⟨a, A3, B3, la, ca3, lb, rfl, hl3, hc3, hsa3, hl3b, hsb3, hb8, htr, hnb, huni⟩ | ⟨rfl, hb8, hno⟩
                    · have ha : trimL l = a := huni l HNEAR.out
                      have hw : wrongs s r i gone wl a = wrongs s r i gone wl l := by rw [← ha, wrongs_trim]
                      rw [hw] at hl3b hsb3
                      have HB8 := Lib.hid (HB7.out.trans (hb8.mono HB7.out.size))
                      have HTA := Lib.hid ha
                      have hto := HTO.out w8 (HSO.out.below HB8.out)
                      have HTOO := Lib.hid hto
                      have HL3B := Lib.hid hl3b
                      have HSB3 := Lib.hid hsb3
                      have HSA3 := Lib.hid hsa3
                      have HL3 := Lib.hid hl3
                      have HS98 := Lib.hid (HS97.out.below hb8)
                      have HSW8 := Lib.hid (HSW7.out.below hb8)
                      have HSL8 := Lib.hid (HSL7.out.below hb8)
                      clear ha hw hto hl3b hsb3 hsa3 hl3 hb8 htr hnb huni
                      go_wp2_with fail
                      refine (HTOO.out).mono ?_
                      rintro e w9 ⟨v9, rfl, hown9, hb9⟩
                      obtain ⟨A10, n10, c10, rfl, hl10, hc10, _, hs10⟩ := hown9.shapeN
                      have HB9 := Lib.hid (HB8.out.trans (hb9.mono HB8.out.size))
                      have hla : la ≤ 9223372036854775807 := by rw [← HL3.out, ← HTA.out]; exact HTL.out
                      have i1 := ints_sameH A3 A10 la ca3 n10 c10 _ _ HL3.out hl10 (by rw [HTA.out]) hla w9 (HSA3.out.below hb9) hs10
                      have HI1 := Lib.hid i1
                      have i2 := fun W hA hB => ints_sameH B3 A9 lb lb n9 c9 _ _ HL3B.out HL9.out rfl (by rw [← HL3B.out]; simp [natI]; have := wrongs_len s r i gone wl l; omega) W hA hB
                      have HI2 := Lib.hid i2
                      have HSB9 := Lib.hid (HSB3.out.below hb9)
                      have HS99 := Lib.hid (HS98.out.below hb9)
                      have HSW9 := Lib.hid (HSW8.out.below hb9)
                      have HSL9 := Lib.hid (HSL8.out.below hb9)
                      clear hown9 hl10 hs10 hb9 i1 i2 hla
                      go_wp2_with fail
                      refine (HI1.out).mono ?_
                      rintro e w10 ⟨rfl, m10, rfl⟩
                      go_wp2_with fail
                      refine (HI2.out _ (HSB9.out.drewN m10) (HS99.out.drewN m10)).mono ?_
                      rintro e w11 ⟨rfl, m11, rfl⟩
                      go_wp2_with fail
                      refine (ints_sameH A7 (some ⟨gw, 0, none⟩) i c7 i cw wl wl HWL.out HWL.out rfl (by omega) _ (HSL9.out.drewN _) (HSW9.out.drewN _)).mono ?_
                      rintro e w12 ⟨rfl, m12, rfl⟩
                      go_wp2
                      go_ret
                      exact ⟨rfl, below_drewN HB9.out _⟩
                    · exact absurd HNEAR.out (hno l)
      · have t3 : decide ((k : Int) ≤ g) = true := by simp; omega
        clear h0 hpr hsz hsE hrE hMT hg ho hP hV hl htl h1a h1b hgk
        go_enter Tryd.func6, Tryd.ntmps6
        go_wp2_with fail
        refine (HM.out).mono ?_
        rintro e w1 ⟨b, D, rfl, hD, hb1⟩
        have hba : Below w1.heap.size w1 (w1.alloc (.cells #[vi q, vi n, vi (fv s), vi (fv r)] 47)) := (Below.refl _ _).alloc (Nat.le_refl _) _
        have hrd := RD.new w1 47 q n (fv s) (fv r)
        have hltB : w1.heap.size < (w1.alloc (.cells #[vi q, vi n, vi (fv s), vi (fv r)] 47)).heap.size := by simp
        have hD2 := hD.below hba hD.fld.le
        have bw2 := hb1.trans (hba.mono hb1.size)
        obtain ⟨B0, hB⟩ : ∃ B0, B0 = w1.heap.size := ⟨_, rfl⟩
        go_wp2_with fail
        have hDS := hD2.fld.le
        rw [← hB] at hrd hltB hD2 hDS ⊢
        clear hD hba hB hb1
        generalize w1.alloc (.cells #[vi q, vi n, vi (fv s), vi (fv r)] 47) = w2 at hrd hltB hD2 bw2 hDS ⊢
        refine (HDG.out w2 (HSO.out.below bw2)).mono ?_
        rintro e w' ⟨rfl, rfl⟩
        go_wp2
        go_ret
        exact ⟨rfl, bw2⟩
    · by_cases h2 : k < 1
      · have t1 : decide (k < 1) = true := by simp; omega
        clear h0 hpr hsz hsE hrE hMT h1 hg ho hP hV hl htl
        go_enter Tryd.func6, Tryd.ntmps6
        go_wp2_with fail
        refine (HM.out).mono ?_
        rintro e w1 ⟨b, D, rfl, hD, hb1⟩
        have hba : Below w1.heap.size w1 (w1.alloc (.cells #[vi q, vi n, vi (fv s), vi (fv r)] 47)) := (Below.refl _ _).alloc (Nat.le_refl _) _
        have hrd := RD.new w1 47 q n (fv s) (fv r)
        have hltB : w1.heap.size < (w1.alloc (.cells #[vi q, vi n, vi (fv s), vi (fv r)] 47)).heap.size := by simp
        have hD2 := hD.below hba hD.fld.le
        have bw2 := hb1.trans (hba.mono hb1.size)
        obtain ⟨B0, hB⟩ : ∃ B0, B0 = w1.heap.size := ⟨_, rfl⟩
        go_wp2_with fail
        have hDS := hD2.fld.le
        rw [← hB] at hrd hltB hD2 hDS ⊢
        clear hD hba hB hb1
        generalize w1.alloc (.cells #[vi q, vi n, vi (fv s), vi (fv r)] 47) = w2 at hrd hltB hD2 bw2 hDS ⊢
        refine (HDG.out w2 (HSO.out.below bw2)).mono ?_
        rintro e w' ⟨rfl, rfl⟩
        go_wp2
        go_ret
        exact ⟨rfl, bw2⟩
      · have t1 : decide (k < 1) = false := by simp; omega
        have t2 : decide ((n : Int) < k) = true := by simp; omega
        clear h0 hpr hsz hsE hrE hMT h1 hg ho hP hV hl htl
        go_enter Tryd.func6, Tryd.ntmps6
        go_wp2_with fail
        refine (HM.out).mono ?_
        rintro e w1 ⟨b, D, rfl, hD, hb1⟩
        have hba : Below w1.heap.size w1 (w1.alloc (.cells #[vi q, vi n, vi (fv s), vi (fv r)] 47)) := (Below.refl _ _).alloc (Nat.le_refl _) _
        have hrd := RD.new w1 47 q n (fv s) (fv r)
        have hltB : w1.heap.size < (w1.alloc (.cells #[vi q, vi n, vi (fv s), vi (fv r)] 47)).heap.size := by simp
        have hD2 := hD.below hba hD.fld.le
        have bw2 := hb1.trans (hba.mono hb1.size)
        obtain ⟨B0, hB⟩ : ∃ B0, B0 = w1.heap.size := ⟨_, rfl⟩
        go_wp2_with fail
        have hDS := hD2.fld.le
        rw [← hB] at hrd hltB hD2 hDS ⊢
        clear hD hba hB hb1
        generalize w1.alloc (.cells #[vi q, vi n, vi (fv s), vi (fv r)] 47) = w2 at hrd hltB hD2 bw2 hDS ⊢
        refine (HDG.out w2 (HSO.out.below bw2)).mono ?_
        rintro e w' ⟨rfl, rfl⟩
        go_wp2
        go_ret
        exact ⟨rfl, bw2⟩
  · have HN := Lib.hid (made2_no p size t hp hs ht hD w hT)
    clear hD
    go_enter Tryd.func6, Tryd.ntmps6
    go_wp2_with fail
    refine (HN.out).mono ?_
    rintro e w1 ⟨rfl, hb1⟩
    go_wp2
    go_ret
    exact ⟨rfl, hb1.alloc hb1.size _⟩
end Go.Proofs.YtgmkcmahbefcoaaDoor
