/- A bundle of texts: Mf5, Mf6, Mr1, Mr3, Qc, Mr2, LawO3. -/
import Derived.Test.YtflkiddmakeabaaGreatDoorR16
import Derived.Test.YtflkiddmakeabaaGreatDoorR05
import Derived.Test.YtflkiddmakeabaaGreatDoorR08
import Derived.Test.YtflkiddmakeabaaGreatDoorR10
import Derived.Test.YtflkiddmakeabaaGreatDoorR11
import Derived.Test.YtflkiddmakeabaaGreatDoorR09
import Derived.Test.YtflkiddmakeabaaGreatDoorR14
/- The walk of fold.Make. -/
set_option linter.unusedVariables false
namespace Go.Proofs.YtflkiddmakeabaaGreatDoor
open Go.RowKit Zp
set_option maxRecDepth 100000 in
set_option maxHeartbeats 4000000 in
theorem fmake_yes (p : Nat) [NeZero p] (S1 b1 sg kk z : Nat) (oo : Nat → Nat → Fin p) (c : Nat) (D : List Int) (Dd b2 S2 : Nat) (s : Fin p) (e j : Nat) (he : e ≤ 16) (hje : j + 1 ≤ e) (hj16 : j ≤ 16) (a : Nat) (ha1 : 1 ≤ a) (ha2 : a ≤ 64) (hmay : fmayB (nI e 0) ((nI j 0 : Nat) : Int) (a : Int) = true)
    (word : List Int) (AW : Option Addr) (cW : Nat) (hlw : word.length = nI e 0) (hiw : ∀ x ∈ word, I64 x) (hcw : cwB p (nI e 0) (sqI s 0) ((nI j 0 : Nat) : Int) word = true)
    (w : World) (F : Fld w S1 b1 p) (G : Spg w sg b1 kk z oo) (hS1 : S1 ≤ c) (hsc : sg < c) (hC : Chn w c sg D) (hd : Dom w S2 Dd b2 p (nI e 0) (sqI s 0)) (hS2 : S2 ≤ c) (hsW : SL w AW word) (hbW : ∀ ad, AW = some ad → ∃ cs, Blk w ad.block 3 cs) :
    Calls Tryz.prog 13 #[.pointer (some ⟨sg, 0, none⟩), .pointer (some ⟨c, 0, none⟩), .pointer (some ⟨Dd, 0, none⟩), vi ((nI j 0 : Nat) : Int), .slice AW (nI e 0) cW, vi (a : Int)] w (MkIs p kk c sg s e (rndK j) word D a w) := by
  have hd1 := hd.c1
  obtain ⟨W0, hW0⟩ : ∃ W0, W0 = w.alloc (.cells #[.slice none 0 0, .slice none 0 0, .slice none 0 0] 26) := ⟨_, rfl⟩
  have hb0 := below_of_eq hW0
  have hB0 : Blk W0 w.heap.size 26 #[.slice none 0 0, .slice none 0 0, .slice none 0 0] := by rw [hW0]; exact Blk.new _ _ _
  have hd10 := (hb0.cell (p := ⟨Dd, 1, none⟩) (block_lt_of_cell hd1)).trans hd1
  have hf := fmay_any Dd (nI e 0) ((nI j 0 : Nat) : Int) (a : Int) (by have := nI_le hj16 0; constructor <;> omega) (nI_le he 0) W0 hd10
  rw [hmay] at hf
  have his := is_any p S2 Dd b2 (nI e 0) (sqI s 0) ((nI j 0 : Nat) : Int) AW (nI e 0) cW word hlw hiw W0 (hd.below hb0 hd.fld.le) (hsW.below hb0)
  rw [hcw] at his
  have HSZ := Lib.hid (fun W hc => size_any Dd (nI e 0) W hc)
  have HMAY := Lib.hid hf
  have HIS := Lib.hid his
  have HD10 := Lib.hid hd10
  have HW0 := Lib.hid hW0
  have HB0 := Lib.hid hb0
  have HBR := Lib.hid hB0
  have HFS := Lib.hid F
  have HGS := Lib.hid G
  have HCS := Lib.hid hC
  have HD := Lib.hid hd
  have HAA := Lib.hid (And.intro ha1 ha2)
  have HSS := Lib.hid (And.intro hS1 (And.intro hsc hS2))
  have HSW := Lib.hid hsW
  have HBW := Lib.hid hbW
  have HLW := Lib.hid hlw
  have HIW := Lib.hid hiw
  have HWZ : Hid (W0.heap.size = w.heap.size + 1) := Lib.hid (by rw [hW0]; simp)
  have t0 : (((nI e 0 : Nat) : Int) != ((nI e 0 : Nat) : Int)) = false := by simp
  clear hf his hW0 hb0 hB0 hd1 hd10 hmay hcw F G hC hd ha1 ha2 hS1 hsc hS2 hsW hbW hlw hiw
  go_enter Tryz.func13, Tryz.ntmps13
  go_upto_region 1 with (fail)
  rw [← HW0.out]
  go_wp2_with fail
  refine HMAY.out.mono ?_
  rintro _ _ ⟨rfl, rfl⟩
  go_wp2_with fail
  refine (HSZ.out _ HD10.out).mono ?_
  rintro _ _ ⟨rfl, rfl⟩
  go_wp2_with fail
  refine HIS.out.mono ?_
  rintro _ w1 ⟨rfl, hb1⟩
  obtain ⟨W2, hW2⟩ : ∃ W2, W2 = w1.alloc (.cells #[.slice none 0 0, .slice none 0 0, .slice none 0 0] 26) := ⟨_, rfl⟩
  have hb2 : Below w1.heap.size w1 W2 := by rw [hW2]; exact (Below.refl _ _).alloc (Nat.le_refl _) _
  have hB2 : Blk W2 w1.heap.size 26 #[.slice none 0 0, .slice none 0 0, .slice none 0 0] := by rw [hW2]; exact Blk.new _ _ _
  have hb02 := HB0.out.trans ((hb1.trans (hb2.mono hb1.size)).mono HB0.out.size)
  have hBR2 := Blk.below (Blk.below HBR.out hb1 HBR.out.lt) hb2 (Blk.below HBR.out hb1 HBR.out.lt).lt
  have HW2 := Lib.hid hW2
  have HB2 := Lib.hid hB2
  have HB02 := Lib.hid hb02
  have HBR2 := Lib.hid hBR2
  have HOB : Hid (w.heap.size < w1.heap.size) := Lib.hid (by have := hb1.size; have := HWZ.out; omega)
  have HCW : Hid (c < w.heap.size) := Lib.hid HCS.out.lt
  have hd2 := (HD.out.below hb02 HD.out.fld.le).upS (Nat.le_trans HD.out.fld.le hb02.size) (Nat.le_refl _)
  have hms : MS W2 w1.heap.size c W2.heap.size (fun t => rowsL (wM p kk s e word D t) (nI e (t + 1))) (rM p kk s e word D) (wM p kk s e word D 0) W2 0 0 AW (.slice none 0 0) (.slice none 0 0) (.slice none 0 0) [] [] :=
    ⟨HSW.out.below hb02, fun ad had => by obtain ⟨cs, hcs⟩ := HBW.out ad had; exact ⟨cs, hcs.below hb02 hcs.lt⟩, Tabs.nil _ _ _ _, RT.nil _ _, hB2, GrowM.refl _ _ _, hB2.lt, Nat.lt_of_lt_of_le HCW.out hb02.size, rfl⟩
  have h0 : Two2 W2 w1.heap.size c W2.heap.size sg b2 Dd (nI e 0) (sqI s 0) (fun t => rowsL (wM p kk s e word D t) (nI e (t + 1))) (rM p kk s e word D) (wM p kk s e word D 0) (dM p kk s e word D 0) 0 AW (.slice none 0 0) (.slice none 0 0) [] [] W2 :=
    ⟨hms, HCS.out.below hb02, hd2, fun g hg => by simp [Value.ownBlock] at hg, fun g hg => by simp [Value.ownBlock] at hg⟩
  have H0 := Lib.hid h0
  have HFD2 := Lib.hid (HD.out.fld.below hb02 HD.out.fld.le)
  have HF2 := Lib.hid (HFS.out.below hb02 HFS.out.le)
  have HG2 := Lib.hid (HGS.out.below hb02 (block_lt_of_cell HGS.out.c0))
  clear h0 hms hd2 hb02 hBR2 hB2 hW2 hb1 hb2 t0
  go_upto_region 6 with (fail)
  rw [← HW2.out]
  go_wp2
  go_loopw [3, 4, 16, 17] (fun kv wd tb at_ wr => ∃ (t : Nat) (AV : Option Addr) (cV Dt : Nat) (v1 v2 : Value) (xs us : List Value), t ≤ rndK j ∧ kv = vi ((nI j t : Nat) : Int) ∧ wd = .slice AV (nI e t) cV ∧ v1 = tb ∧ at_ = .pointer (some ⟨Dt, 0, none⟩) ∧ Two2 W2 w1.heap.size c W2.heap.size sg b2 Dt (nI e t) (sqI s t) (fun t => rowsL (wM p kk s e word D t) (nI e (t + 1))) (rM p kk s e word D) (wM p kk s e word D t) (dM p kk s e word D t) t AV v1 v2 xs us wr) (fun kv _ _ _ _ => (intOf kv).toNat)
  case atStart => exact ⟨0, AW, cW, Dd, _, _, _, _, Nat.zero_le _, rfl, rfl, rfl, rfl, H0.out⟩
  case round =>
    obtain ⟨t, AV, cV, Dt, v1, v2, xs, us, ht, rfl, rfl, rfl, rfl, h2⟩ := hrel
    by_cases hlt : t < rndK j
    · have htj : t < j := by unfold rndK at hlt; omega
      have hte : t < e := by omega
      have t1 : decide ((4 : Int) < ((nI j t : Nat) : Int)) = true := decide_eq_true (by have := four_lt.2 hlt; omega)
      have hst : nI j t = 2 * nI j (t + 1) := nI_step htj
      have hpos := nI_pos j (t + 1)
      have hq : wrap64 (((nI j t : Nat) : Int) / 2) = ((nI j (t + 1) : Nat) : Int) := half_wrap hst (nI_le hj16 t)
      have HMS : Hid (nI j (t + 1) < nI j t) := Lib.hid (by omega)
      have H2 := Lib.hid h2
      have HLT := Lib.hid hlt
      have HTE := Lib.hid hte
      have HT64 : Hid (t ≤ 16) := Lib.hid (by omega)
      have HWL := Lib.hid (wM_len (p := p) (k := kk) (s := s) (D := D) HLW.out t)
      have HWI := Lib.hid (wM_i64 (k := kk) (s := s) (e := e) (D := D) HFS.out.max HIW.out t)
      have HROW := Lib.hid (frows_any AV cV (nI e t) (nI e (t + 1)) (nI_step hte) (nI_le he t) (wM p kk s e word D t) HWL.out wr h2.ms.sl)
      clear hst hpos h2 hlt hte htj
      go_wp2_with fail
      refine HROW.out.mono ?_
      rintro _ wa ⟨vl, ua, rfl, hor, hrr, hba⟩
      obtain ⟨A1, n1, c1, rfl, hun, hnc⟩ := ownR_shape hor
      have e1 : n1 = nI e (t + 1) := by rw [← hun, hrr.1, rowsL_len]
      subst e1
      have HBA := Lib.hid hba
      have hBC := (H2.out.below hba).gmB (Nat.lt_trans HCW.out HOB.out)
      have HRT := Lib.hid (tRoot_yes p S1 b1 sg kk z oo A1 (nI e (t + 1)) c1 (rowsL (wM p kk s e word D t) (nI e (t + 1))) (rowsL_len _ _) (nI_pos _ _) (nI_le he _) (fun l hl => by rw [rowsL_two _ _ l hl]; decide) wa (HF2.out.below hBC HSS.out.1) (HG2.out.below hBC HSS.out.2.1) (tb_own hor hrr (rowsL_i64 HWI.out _)))
      have HOR := Lib.hid hor
      have HRR := Lib.hid hrr
      clear hba hBC hor hrr hun hnc
      go_wp2_with fail
      refine HRT.out.mono ?_
      rintro _ wb ⟨g, rfl, ⟨cg, hg⟩, hsr, hlr, hir, hgw, hbb⟩
      have hm2 := H2.out.ms.below (HBA.out.trans (hbb.mono HBA.out.size))
      have o0 := (hm2.out.cell 0).trans (show _ = some v2 from rfl)
      have HM := Lib.hid hm2
      have HBB := Lib.hid hbb
      have H2B := Lib.hid ((H2.out.below HBA.out).below hbb)
      have HROOT := Lib.hid (And.intro hg (And.intro (show SL wb (some ⟨g, 0, none⟩) (rM p kk s e word D t) from hsr) (And.intro (show (rM p kk s e word D t).length = 4 from hlr) (show ∀ x ∈ rM p kk s e word D t, I64 x from hir))))
      have HR1 : Hid (OwnR wb W2.heap.size (.slice A1 (nI e (t + 1)) c1) ua ∧ RowsOwn wb W2.heap.size ua (rowsL (wM p kk s e word D t) (nI e (t + 1))) ∧ ∀ g, (Value.slice A1 (nI e (t + 1)) c1).ownBlock = some g → v2.ownBlock ≠ some g) := Lib.hid
        ⟨OwnR.moreB (HOR.out.below hbb) (by have := H2.out.ms.size; omega), (HRR.out.below hbb).more (by have := H2.out.ms.size; omega), fun x hx hx2 => by
          have h1 := (World.ownsRow.lt HOR.out x hx).1
          have h2 := (World.ownsRow.lt H2.out.ms.rt.own x hx2).2
          omega⟩
      clear hm2 hbb hg hsr hlr hir hgw
      go_upto_region 14 with (fail)
      have z1 : Below wb.heap.size wb (wb.drew.alloc (.cells #[.slice A1 (nI e (t + 1)) c1] 23)) := bz1 wb _
      have z2 : Below wb.heap.size wb ((wb.drew.alloc (.cells #[.slice A1 (nI e (t + 1)) c1] 23)).alloc (.cells #[.slice (some ⟨g, 0, none⟩) 4 4] 22)) := bz2 wb _ _
      have z3 : Below wb.heap.size wb ((wb.drew.alloc (.cells #[.slice (some ⟨g, 0, none⟩) 4 4] 22)).alloc (.cells #[.slice A1 (nI e (t + 1)) c1] 23)) := bz2 wb _ _
      have y1 := HM.out.ob0 z1
      have y2 := HM.out.ob0 z2
      have y3 := HM.out.ob0 z3
      have y1d : ((wb.alloc (.cells #[.slice A1 (nI e (t + 1)) c1] 23)).drew).cell? ⟨w1.heap.size, 0, none⟩ = some v2 := y1
      have y2d : (((wb.alloc (.cells #[.slice A1 (nI e (t + 1)) c1] 23)).alloc (.cells #[.slice (some ⟨g, 0, none⟩) 4 4] 22)).drew).cell? ⟨w1.heap.size, 0, none⟩ = some v2 := y2
      have y3d : (((wb.alloc (.cells #[.slice (some ⟨g, 0, none⟩) 4 4] 22)).alloc (.cells #[.slice A1 (nI e (t + 1)) c1] 23)).drew).cell? ⟨w1.heap.size, 0, none⟩ = some v2 := y3
      have y4 : (wb.alloc (.cells #[.slice (some ⟨g, 0, none⟩) 4 4] 22)).cell? ⟨w1.heap.size, 0, none⟩ = some v2 := HM.out.ob0 ((Below.refl _ _).alloc (Nat.le_refl _) _)
      have HZ1 := Lib.hid z1
      have HZ2 := Lib.hid z2
      have HZ3 := Lib.hid z3
      have HTB : Hid (t + 1 ≤ maxLen ∧ (t + 1) * 24 ≤ 140737488355328) := Lib.hid (by have := HT64.out; simp only [maxLen]; omega)
      have HUS : Hid (us.length + 1 ≤ maxLen ∧ (us.length + 1) * 24 ≤ 140737488355328) := Lib.hid (by
        have h1 := HM.out.rt.us.1
        rw [List.length_map, List.length_range] at h1
        have := HT64.out; simp only [maxLen]; omega)
      have hN2 : Hid ((wb.drew.alloc (.cells #[.slice A1 (nI e (t + 1)) c1] 23)).heap.size = wb.heap.size + 1) := Lib.hid (by simp)
      have hN3 : Hid ((wb.drew.alloc (.cells #[.slice (some ⟨g, 0, none⟩) 4 4] 22)).heap.size = wb.heap.size + 1) := Lib.hid (by simp)
      clear z1 z2 z3
      go_cut [16] from 50 to 88 (fun tb wx => ∃ (v1' v2' : Value) (xs' us' : List Value), v1' = tb ∧ Two2 W2 w1.heap.size c W2.heap.size sg b2 Dt (nI e t) (sqI s t) (fun t => rowsL (wM p kk s e word D t) (nI e (t + 1))) (rM p kk s e word D) (wM p kk s e word D t) (dM p kk s e word D t) (t + 1) AV v1' v2' xs' us' wx ∧ SL wx (some ⟨g, 0, none⟩) (rM p kk s e word D t))
      case first =>
        go_region_law (first
          | (refine step_appSG 100 23 _ 1 24 Tryz.underlying100 info_tab (by rfl) (by omega) (wb.drew.alloc (.cells #[.slice A1 (nI e (t + 1)) c1] 23)) wb.heap.size [.slice A1 (nI e (t + 1)) c1] (by rfl) (by simp [Value.oneCell']) (by rfl) _ _ (by rfl) W2.heap.size v1 t xs (by rfl) (by rfl) (newc1 wb.drew _ _ _ (by rfl)) (HM.out.own1 HZ1.out) HTB.out.1 HTB.out.2 (HM.out.bs HZ1.out) ?_; intro v1' w3 p1 p2 p3; have x3 := HM.out.ob1 HZ1.out p2; have x3b := (World.cell?_alloc_lt w3 (.cells #[.slice (some ⟨g, 0, none⟩) 4 4] 22) _ (block_lt_of_cell x3)).trans x3; have hZA := HZ1.out)
          | (refine step_appSG 100 23 _ 1 24 Tryz.underlying100 info_tab (by rfl) (by omega) ((wb.drew.alloc (.cells #[.slice A1 (nI e (t + 1)) c1] 23)).alloc (.cells #[.slice (some ⟨g, 0, none⟩) 4 4] 22)) wb.heap.size [.slice A1 (nI e (t + 1)) c1] (by rfl) (by simp [Value.oneCell']) (by rfl) _ _ (by rfl) W2.heap.size v1 t xs (by rfl) (by rfl) (newc2 wb.drew _ _ _ _ (by rfl)) (HM.out.own1 HZ2.out) HTB.out.1 HTB.out.2 (HM.out.bs HZ2.out) ?_; intro v1' w3 p1 p2 p3; have x3 := HM.out.ob1 HZ2.out p2; have x3b := (World.cell?_alloc_lt w3 (.cells #[.slice (some ⟨g, 0, none⟩) 4 4] 22) _ (block_lt_of_cell x3)).trans x3; have hcb := HM.out.new2 p2 (g := wb.heap.size + 1) (by omega) (by simp) (newc1 (wb.drew.alloc (.cells #[.slice A1 (nI e (t + 1)) c1] 23)) (.slice (some ⟨g, 0, none⟩) 4 4) 22 (wb.heap.size + 1) hN2.out.symm); have hZA := HZ2.out)
          | (refine step_appSG 100 23 _ 1 24 Tryz.underlying100 info_tab (by rfl) (by omega) ((wb.drew.alloc (.cells #[.slice (some ⟨g, 0, none⟩) 4 4] 22)).alloc (.cells #[.slice A1 (nI e (t + 1)) c1] 23)) (wb.heap.size + 1) [.slice A1 (nI e (t + 1)) c1] (by rfl) (by simp [Value.oneCell']) (by rfl) _ _ (by rfl) W2.heap.size v1 t xs (by rfl) (by rfl) (newc1 (wb.drew.alloc (.cells #[.slice (some ⟨g, 0, none⟩) 4 4] 22)) _ _ _ hN3.out.symm) (HM.out.own1 HZ3.out) HTB.out.1 HTB.out.2 (HM.out.bs HZ3.out) ?_; intro v1' w3 p1 p2 p3; have x3 := HM.out.ob1 HZ3.out p2; have x3b := (World.cell?_alloc_lt w3 (.cells #[.slice (some ⟨g, 0, none⟩) 4 4] 22) _ (block_lt_of_cell x3)).trans x3; have hcb := HM.out.new2 p2 (g := wb.heap.size) (by omega) (by simp; omega) (newc2 wb.drew (.slice (some ⟨g, 0, none⟩) 4 4) 22 (.cells #[.slice A1 (nI e (t + 1)) c1] 23) wb.heap.size (by rfl)); have hZA := HZ3.out)
          | (have hZB : Below w3.heap.size w3 (w3.alloc (.cells #[.slice (some ⟨g, 0, none⟩) 4 4] 22)) := (Below.refl _ _).alloc (Nat.le_refl _) _; refine step_appSG 23 22 _ 1 24 Tryz.underlying23 info_ints (by rfl) (by omega) (w3.alloc (.cells #[.slice (some ⟨g, 0, none⟩) 4 4] 22)) w3.heap.size [.slice (some ⟨g, 0, none⟩) 4 4] (by rfl) (by simp [Value.oneCell']) (by rfl) _ _ (by rfl) W2.heap.size v2 us.length us (by rfl) (by rfl) (newc1 w3 _ _ _ (by rfl)) (HM.out.own2 hZA p2 hZB) HUS.out.1 HUS.out.2 (HM.out.bs2 hZA p2 hZB) ?_; intro v2' w4 q1 q2 q3; obtain ⟨A7, c7, hv7⟩ := row_form q1; subst hv7; have x4 := (HM.out.ob2 hZA p2 hZB q2).1; have x5 := (HM.out.ob2 hZA p2 hZB q2).2)
          | (have hZB : Below w3.heap.size w3 w3 := Below.refl _ _; refine step_appSG 23 22 _ 1 24 Tryz.underlying23 info_ints (by rfl) (by omega) w3 (wb.heap.size + 1) [.slice (some ⟨g, 0, none⟩) 4 4] (by rfl) (by simp [Value.oneCell']) (by rfl) _ _ (by rfl) W2.heap.size v2 us.length us (by rfl) (by rfl) hcb (HM.out.own2 hZA p2 hZB) HUS.out.1 HUS.out.2 (HM.out.bs2 hZA p2 hZB) ?_; intro v2' w4 q1 q2 q3; obtain ⟨A7, c7, hv7⟩ := row_form q1; subst hv7; have x4 := (HM.out.ob2 hZA p2 hZB q2).1; have x5 := (HM.out.ob2 hZA p2 hZB q2).2)
          | (have hZB : Below w3.heap.size w3 w3 := Below.refl _ _; refine step_appSG 23 22 _ 1 24 Tryz.underlying23 info_ints (by rfl) (by omega) w3 wb.heap.size [.slice (some ⟨g, 0, none⟩) 4 4] (by rfl) (by simp [Value.oneCell']) (by rfl) _ _ (by rfl) W2.heap.size v2 us.length us (by rfl) (by rfl) hcb (HM.out.own2 hZA p2 hZB) HUS.out.1 HUS.out.2 (HM.out.bs2 hZA p2 hZB) ?_; intro v2' w4 q1 q2 q3; obtain ⟨A7, c7, hv7⟩ := row_form q1; subst hv7; have x4 := (HM.out.ob2 hZA p2 hZB q2).1; have x5 := (HM.out.ob2 hZA p2 hZB q2).2))
        all_goals go_wp2_with fail
        all_goals go_meet
        all_goals
          have hfin := MS.two HM.out H2B.out.chn H2B.out.dom HFD2.out HSS.out.2.2 (Nat.lt_trans HCW.out HOB.out) H2B.out.n1 H2B.out.n2 HR1.out.1 HR1.out.2.1 HR1.out.2.2 HROOT.out.1 (.inr rfl) HROOT.out.2.1 HROOT.out.2.2.1 HROOT.out.2.2.2 hZA p1 p2 p3 hZB q1 q2 q3
          exact ⟨v1', _, _, _, rfl, hfin.1, hfin.2⟩
      case rest =>
        obtain ⟨v1', v2', xs', us', rfl, h4, hs4⟩ := hcut
        clear o0 y1 y2 y3 y1d y2d y3d y4
        have H4 := Lib.hid h4
        have HCO : Hid (c < w1.heap.size) := Lib.hid (Nat.lt_trans HCW.out HOB.out)
        have HTK := Lib.hid (chtake_any p S1 b1 sg kk z c oo _ (some ⟨g, 0, none⟩) 4 4 _ HROOT.out.2.2.1 HROOT.out.2.2.2 (by omega) wc (HF2.out.below (h4.gmB HCO.out) HSS.out.1) (HG2.out.below (h4.gmB HCO.out) HSS.out.2.1) HSS.out.1 HSS.out.2.1 h4.chn hs4)
        clear h4 hs4
        go_wp2_with fail
        refine HTK.out.mono ?_
        rintro _ w5 ⟨⟨r5, rfl⟩, hC5, hg5, _⟩
        have h5 := H4.out.chain HFD2.out HSS.out.2.2 HCO.out hC5 hg5
        have H5 := Lib.hid h5
        have HDW := Lib.hid (chdraw_any p S1 b1 sg kk z c oo _ w5 (HF2.out.below (h5.gmB HCO.out) HSS.out.1) (HG2.out.below (h5.gmB HCO.out) HSS.out.2.1) HSS.out.1 HSS.out.2.1 h5.chn)
        clear h5 hC5 hg5
        go_wp2_with fail
        refine HDW.out.mono ?_
        rintro _ w6 ⟨rfl, hC6, hg6, _⟩
        have h6 := H5.out.chain HFD2.out HSS.out.2.2 HCO.out hC6 hg6
        have H6 := Lib.hid h6
        have HFO := Lib.hid (folded_any p w6.heap.size Dt b2 (nI e t) (nI e (t + 1)) (nI_step HTE.out) (nI_pos _ _) (sqI s t) AV cV (wM p kk s e word D t) HWL.out HWI.out _ (i64_draw HFS.out.max kk (digL p kk (3 :: (dM p kk s e word D t ++ rM p kk s e word D t)))) w6 h6.dom h6.ms.sl)
        clear h6 hC6 hg6
        go_wp2_with fail
        refine HFO.out.mono ?_
        rintro _ w7 ⟨v7, rfl, ho7, hb7⟩
        obtain ⟨A7, n7, c7, rfl, hl7, _, _, _⟩ := ho7.shapeN
        have e7 : n7 = nI e (t + 1) := by rw [← hl7]; simp [fvs, foldL_length]
        subst e7
        have h7 := (H6.out.below hb7).word ho7
        have H7 := Lib.hid h7
        have HHF := Lib.hid (half_any p w7.heap.size Dt b2 (nI e t) (nI e (t + 1)) (nI_step HTE.out) (nI_pos _ _) (sqI s t) w7 h7.dom)
        clear h7 ho7 hb7 hl7
        go_wp2_with fail
        refine HHF.out.mono ?_
        rintro _ w8 ⟨D', rfl, hD', hb8, hle⟩
        rw [el_fv] at hD'
        have H8 := Lib.hid (H7.out.half hb8 hD' hle)
        clear hD' hb8 hle
        go_wp2
        go_roundw
        case rel => exact ⟨t + 1, A7, c7, D', v1', v2', xs', us', Nat.succ_le_of_lt HLT.out, by first | rfl | (rw [hq]), rfl, rfl, rfl, H8.out⟩
        case measure =>
          rw [hq]
          show Int.toNat ((nI j (t + 1) : Nat) : Int) < Int.toNat ((nI j t : Nat) : Int)
          rw [Int.toNat_natCast, Int.toNat_natCast]
          exact HMS.out
    · have t1 : decide ((4 : Int) < ((nI j t : Nat) : Int)) = false := decide_eq_false (by have h4 : ¬ 4 < nI j t := fun h => hlt (four_lt.1 h); omega)
      have et : t = rndK j := by omega
      have HET := Lib.hid et
      have HT16 : Hid (t ≤ 16 ∧ t + 1 ≤ e) := Lib.hid (by unfold rndK at et; omega)
      have H2 := Lib.hid h2
      have HWL := Lib.hid (wM_len (p := p) (k := kk) (s := s) (D := D) HLW.out t)
      have HWI := Lib.hid (wM_i64 (k := kk) (s := s) (e := e) (D := D) HFS.out.max HIW.out t)
      have HCF := Lib.hid (coefs_any p wr.heap.size Dt b2 (nI e t) (sqI s t) AV cV (wM p kk s e word D t) HWL.out HWI.out wr h2.dom h2.ms.sl)
      have HCO : Hid (c < w1.heap.size) := Lib.hid (Nat.lt_trans HCW.out HOB.out)
      have hq0 : wrap64 (((nI e 0 : Nat) : Int) / 2) = ((nI e 1 : Nat) : Int) := half_wrap (nI_step (by have := HT16.out; omega)) (nI_le he 0)
      clear h2 et hlt
      go_wp2_with fail
      refine HCF.out.mono ?_
      rintro _ w9 ⟨vL, rfl, hoL, hb9⟩
      obtain ⟨AL, nL, cL, rfl, hlL, hcL, hmL, hsL⟩ := hoL.shapeN
      have hlast : fvs (trimL (coefL (sqI s t) (rootI p ((nI e t : Nat) : Int)) (nI e t) (els p (wM p kk s e word D t)))) = lastM p kk s e word D t := rfl
      rw [hlast] at hoL hlL hsL
      have hLi : ∀ x ∈ lastM p kk s e word D t, I64 x := fun x hx => by
        obtain ⟨y, _, rfl⟩ := List.mem_map.1 hx
        exact i64_fv _ HFS.out.max
      have hLn : nL ≤ 65536 := by
        rw [← hlL]
        unfold lastM
        rw [fvs, List.length_map]
        have h1 := trimL_length_le (coefL (sqI s t) (rootI p ((nI e t : Nat) : Int)) (nI e t) (els p (wM p kk s e word D t)))
        rw [coefL_length] at h1
        have := nI_le he t
        omega
      obtain ⟨h3, hB9⟩ := H2.out.done hb9 hoL (by have := H2.out.ms.size; omega)
      have y1 := (hB9.cell 1).trans (show _ = some (.slice none 0 0) from rfl)
      have y2 := hB9.frozen 1
      obtain ⟨w10, hw10⟩ : ∃ w10, w10 = w9.setCell ⟨w1.heap.size, 1, none⟩ (.slice AL nL cL) := ⟨_, rfl⟩
      rw [← hw10] at h3
      have HW10 := Lib.hid hw10
      have H3 := Lib.hid h3
      have HLL := Lib.hid (And.intro hlL (And.intro hLi hLn))
      have HTK := Lib.hid (chtake_any p S1 b1 sg kk z c oo _ AL nL cL _ hlL hLi (by omega) w10 (HF2.out.below (h3.gmB HCO.out) HSS.out.1) (HG2.out.below (h3.gmB HCO.out) HSS.out.2.1) HSS.out.1 HSS.out.2.1 h3.chn (sl_of h3.last))
      clear h3 hB9 hoL hb9 hlL hcL hmL hsL hlast hLi hLn hw10
      go_upto_region 19 with (fail)
      rw [← HW10.out]
      have f1 := (H3.out.out.cell 1).trans (show _ = some (.slice AL nL cL) from rfl)
      clear y1 y2
      go_wp2_with fail
      refine HTK.out.mono ?_
      rintro _ w11 ⟨⟨r5, rfl⟩, hC11, hg11, _⟩
      have h4 := H3.out.chain hC11 hg11
      have H4 := Lib.hid h4
      have hd11 : w11.cell? ⟨Dd, 1, none⟩ = some (vi ((nI e 0 : Nat) : Int)) := ((h4.gmB HCO.out).cell (p := ⟨Dd, 1, none⟩) (by have := HD.out.lt; have := HSS.out.2.2; show Dd < c; omega)).trans ((HB02.out.cell (p := ⟨Dd, 1, none⟩) (block_lt_of_cell HD.out.c1)).trans HD.out.c1)
      have HDR := Lib.hid (drawn_any p S1 b1 sg kk z c oo _ ((nI e 1 : Nat) : Int) (by have := nI_pos e 1; omega) (by have := nI_le he 1; omega) a HAA.out.1 (by have := HAA.out.2; omega) w11 (HF2.out.below (h4.gmB HCO.out) HSS.out.1) (HG2.out.below (h4.gmB HCO.out) HSS.out.2.1) HSS.out.1 HSS.out.2.1 h4.chn)
      have HS11 := Lib.hid (HSZ.out _ hd11)
      clear h4 hC11 hg11 hd11 f1
      go_wp2_with fail
      refine HS11.out.mono ?_
      rintro _ _ ⟨rfl, rfl⟩
      go_wp2_with fail
      refine HDR.out.mono ?_
      rintro _ w12 ⟨vP, rfl, hoP, hC12, hg12⟩
      have hpl : placesL p kk (digL p kk (3 :: (dM p kk s e word D t ++ lastM p kk s e word D t))) ((nI e 1 : Nat) : Int) a = plM p kk s e word D t a := rfl
      rw [hpl] at hoP
      have h5 := (H4.out.chain hC12 hg12).withPl (hoP.more H4.out.size)
      obtain ⟨AP, nP, cP, rfl, hlP, hcP, hmP, hsP⟩ := hoP.shapeN
      have eP : nP = a := by rw [← hlP]; exact placesL_len _ _ _ _ _
      subst eP
      have HPL := Lib.hid hlP
      have HPN : Hid (∀ x ∈ plM p kk s e word D t nP, 0 ≤ x) := Lib.hid fun x hx => (placesL_in p kk _ _ _ (by have := nI_pos e 1; omega) x hx).1
      obtain ⟨A1, c1, hv1⟩ := row_form h5.tabs.own
      subst hv1
      have H5 := Lib.hid h5
      clear h5 hoP hC12 hg12 hpl hlP hcP hmP hsP
      go_wp2
      go_loopw [108] (fun i wq => ∃ (u : Nat) (vO : Value) (xo : List Value), u ≤ t ∧ i = vi u ∧ Ph2 W2 w1.heap.size c W2.heap.size sg (fun t => rowsL (wM p kk s e word D t) (nI e (t + 1))) (rM p kk s e word D) t (lastM p kk s e word D t) (iterP p kk (digL p kk (3 :: (dM p kk s e word D t ++ lastM p kk s e word D t))) nP) (.slice A1 t c1) v2 (.slice AL nL cL) vO (.slice AP nP cP) xs us (plM p kk s e word D t nP) wq ∧ CopS W2.heap.size wq vO u xo (opM p kk s e word D (plM p kk s e word D t nP))) (fun i _ => t - (intOf i).toNat)
      case atStart => exact ⟨0, _, [], Nat.zero_le _, rfl, H5.out, CopS.nil _ _ _⟩
      case round =>
        obtain ⟨u, vO, xo, hu, rfl, h6, hc6⟩ := hrel
        have H6 := Lib.hid h6
        have HC6 := Lib.hid hc6
        by_cases hut : u < t
        · obtain ⟨A, n, cT, ut, e1, hoT, hrT, _⟩ := h6.tabs.at_ u hut
          obtain ⟨ad, rfl, k1⟩ : ∃ ad, A1 = some ad ∧ wr.cell? (ad.add u) = some (.slice A n cT) := by
            rcases h6.tabs.own.2 with ⟨e0, h0⟩ | ⟨g, cap, cur, e0, _⟩
            · omega
            · injection e0 with e0 _ _
              subst e0
              exact ⟨_, rfl, World.ownsRow.cells h6.tabs.own (g := g) rfl _ _ e1⟩
          obtain ⟨A', n', c', e2, hun, hnc⟩ := ownR_shape hoT
          injection e2 with e2 e3 e4
          subst e2 e3 e4
          have en : n = nI e (u + 1) := by rw [← hun, hrT.1, rowsL_len]
          subst en
          have i1 : (0 : Int) ≤ (u : Int) := by omega
          have i2 : (u : Int) < (t : Int) := by omega
          have hwt : IntKind.i64.wrap ((u : Int) + 1) = (u : Int) + 1 := step_wrap (by have := HT16.out; omega)
          have HMO := Lib.hid (fmodulo_any AP nP cP (plM p kk s e word D t nP) HPL.out HPN.out (by have := HAA.out.2; omega) (nI e (u + 1)) (nI_pos _ _) (nI_le he _) wr (sl_of h6.pl))
          have HTAB := Lib.hid (And.intro hoT hrT)
          have HUT := Lib.hid hut
          have HWIU := Lib.hid (wM_i64 (k := kk) (s := s) (e := e) (D := D) HFS.out.max HIW.out u)
          clear h6 hc6 hoT hrT e1 hun hnc hut hu
          go_wp2_with fail
          refine HMO.out.mono ?_
          rintro _ w13 ⟨vM, rfl, hoM, hb13⟩
          obtain ⟨AM, nM, cM, rfl, hlM, _, _, hsM⟩ := hoM.shapeN
          have h7 := H6.out.below hb13
          have hnM : nM = nP := by rw [← hlM, modL_len]; exact HPL.out
          have HOP := Lib.hid (topen_sf p S1 b1 sg kk z oo A (nI e (u + 1)) cT (rowsL (wM p kk s e word D u) (nI e (u + 1))) (rowsL_len _ _) (nI_pos _ _) (nI_le he _) (fun l hl => by rw [rowsL_two _ _ l hl]; decide) AM nM cM (modL (plM p kk s e word D t nP) (nI e (u + 1))) hlM (by have := HAA.out.2; omega) (List.any_eq_false.2 fun x hx => by
            have := modL_in (plM p kk s e word D t nP) (nI_pos e (u + 1)) x hx
            unfold outB
            simp only [decide_eq_true_eq, Classical.not_not]
            exact this) w13 (HF2.out.below (h7.gmB HCO.out) HSS.out.1) (HG2.out.below (h7.gmB HCO.out) HSS.out.2.1) hsM (tb_own (HTAB.out.1.below hb13) (HTAB.out.2.below hb13) (rowsL_i64 HWIU.out _)))
          have HB13 := Lib.hid hb13
          clear h7 hoM hb13 hlM hsM hnM k1
          go_wp2_with fail
          refine HOP.out.mono ?_
          rintro _ w14 ⟨C0, k0, d0, CR, kR, eR, CN, kN, eN, rfl, hop, hb14⟩
          obtain ⟨w15, hw15⟩ : ∃ w15, w15 = w14.alloc (.cells #[.slice C0 k0 d0, .slice CR kR eR, .slice CN kN eN] 70) := ⟨_, rfl⟩
          have hbx : Below w14.heap.size w14 w15 := by rw [hw15]; exact (Below.refl _ _).alloc (Nat.le_refl _) _
          have hBx : Blk w15 w14.heap.size 70 #[.slice C0 k0 d0, .slice CR kR eR, .slice CN kN eN] := by rw [hw15]; exact Blk.new _ _ _
          have x0 := (hBx.cell 0).trans (show _ = some (.slice C0 k0 d0) from rfl)
          have x1 := (hBx.cell 1).trans (show _ = some (.slice CR kR eR) from rfl)
          have x2 := (hBx.cell 2).trans (show _ = some (.slice CN kN eN) from rfl)
          have hb15 := HB13.out.trans ((hb14.trans (hbx.mono hb14.size)).mono HB13.out.size)
          have h8 := H6.out.below hb15
          have hc8 := HC6.out.safeO (SafeO.of hb15)
          have f2 := (h8.out.cell 2).trans (show _ = some vO from rfl)
          have HOPX := Lib.hid (fun w'' (hk : Safe w15 w'') => hop w'' ((Safe.of hbx).trans hk))
          have HW15 := Lib.hid hw15
          have H8 := Lib.hid h8
          have HC8 := Lib.hid hc8
          have HTB : Hid (u + 1 ≤ maxLen ∧ (u + 1) * 72 ≤ 140737488355328) := Lib.hid (by have := HT16.out; have := HUT.out; simp only [maxLen]; omega)
          clear hop hb14 hbx hBx hb15 h8 hc8 hw15
          go_upto_region 25 with (fail)
          rw [← HW15.out]
          go_upto_region 28 with (at_builtin; refine wpList_appS 24 70 _ 3 72 Tryz.underlying24 info_opn (by rfl) (by omega) w15 _ [.slice C0 k0 d0, .slice CR kR eR, .slice CN kN eN] (by rfl) (by rfl) (by simp [Value.oneCell']) (by rfl) _ _ (by rfl) W2.heap.size vO u xo (by rfl) (by rfl) HC8.out.own HTB.out.1 HTB.out.2 H8.out.size ?_; intro v' w3 p1 p2 p3; have hB2 := (H8.out.app (Nat.le_refl _) HC8.out.own p2 (vO' := v')).2.1; have y1 := (hB2.cell 2).trans (show _ = some vO from rfl); have y2 := hB2.frozen 2; obtain ⟨A9, c9, hv9⟩ := row_form p1; subst hv9)
          obtain ⟨h9, hB9, hs9, hg9⟩ := H8.out.app (Nat.le_refl _) HC8.out.own p2 (vO' := .slice A9 (u + 1) c9)
          obtain ⟨hc9, hsf⟩ := HC8.out.app HOPX.out p1 p2
          obtain ⟨wn, hwn⟩ : ∃ wn, wn = w3.setCell ⟨w1.heap.size, 2, none⟩ (.slice A9 (u + 1) c9) := ⟨_, rfl⟩
          rw [← hwn] at h9 hg9
          have hcn := hc9.safeO (SafeO.one hg9 hB9 (by decide) (by decide))
          have HN := Lib.hid (And.intro h9 hcn)
          have HWN := Lib.hid hwn
          clear hwn h9 hcn hg9 hs9 hB9 hc9 hsf p1 p2 p3 hB2 x0 x1 x2 f2
          rw [← HWN.out]
          clear y1 y2
          go_wp2
          go_roundw
          case rel => exact ⟨u + 1, _, _, Nat.succ_le_of_lt HUT.out, by go_num, HN.out.1, HN.out.2⟩
          case measure => have := HUT.out; simp [intOf]; omega
        · obtain rfl : u = t := by omega
          obtain ⟨AO, cO, hv⟩ := row_form h6.rt.own
          subst hv
          obtain ⟨AQ, cQ, hv⟩ := row_form hc6.own
          subst hv
          have r1 := row_cap h6.rt.own
          have r2 := row_cap hc6.own
          have HCR := Lib.hid (fun W => clipR_any AO us.length cO r1.2.1 W r1.2.2.2)
          have HCQ := Lib.hid (fun W => clipO_any AQ u cQ r2.2.1 (by have := r2.2.2.1; simp only [maxLen] at this; omega) W)
          have HFIN := Lib.hid (mk_fin HFS.out.max HB02.out HOB.out HCW.out (by have := HT16.out; omega) (by have := HLL.out; omega) h6 hc6 HBR2.out)
          have o0 := (h6.out.cell 0).trans (show _ = some (.slice AO us.length cO) from rfl)
          have o2 := (h6.out.cell 2).trans (show _ = some (.slice AQ u cQ) from rfl)
          have z0 := h6.out.frozen 0
          have z2 := h6.out.frozen 2
          clear h6 hc6 r1 r2 hut hu
          go_wp2
          go_region_law (first
            | (go_simp; go_at_call 56; refine (HCR.out _).mono ?_; rintro _ _ ⟨rfl, rfl⟩)
            | (go_simp; go_at_call 57; refine (HCQ.out _).mono ?_; rintro _ _ ⟨rfl, rfl⟩))
          all_goals
            obtain ⟨q1, q2, q3, q4⟩ := HFIN.out
            obtain ⟨w9, hw9⟩ : ∃ w9, w9 = (wr.setCell ⟨w1.heap.size, 0, none⟩ (.slice AO us.length us.length)).setCell ⟨w1.heap.size, 2, none⟩ (.slice AQ u u) := ⟨_, rfl⟩
            rw [← hw9] at q1 q2 q3 q4
            have e0 := (q1.cell 0).trans (show _ = some (Value.slice AO us.length us.length) from rfl)
            have e1 := (q1.cell 1).trans (show _ = some (Value.slice AL nL cL) from rfl)
            have e2 := (q1.cell 2).trans (show _ = some (Value.slice AQ u u) from rfl)
            have x0 := (q2.cell 0).trans (show _ = some (Value.slice none 0 0) from rfl)
            have x1 := (q2.cell 1).trans (show _ = some (Value.slice none 0 0) from rfl)
            have x2 := (q2.cell 2).trans (show _ = some (Value.slice none 0 0) from rfl)
            have f0 := q2.frozen 0
            have f1 := q2.frozen 1
            have f2 := q2.frozen 2
            have y0 := (q3.cell 0).trans (show _ = some (Value.slice AO us.length us.length) from rfl)
            have y1 := (q3.cell 1).trans (show _ = some (Value.slice AL nL cL) from rfl)
            have y2 := (q3.cell 2).trans (show _ = some (Value.slice AQ u u) from rfl)
            have HQ := Lib.hid q4
            rw [← hw9]
            clear q1 q2 q3 q4 hw9 o0 o2 z0 z2
            go_wp2
            exact bodyPost_ret (v := .tuple #[.agg #[.slice AO us.length us.length, .slice AL nL cL, .slice AQ u u], .slice AP nP cP, .nilIface]) (by simp [results, Tryz.results13, go_sem, y0, y1, y2]) rfl (HET.out ▸ HQ.out)
end Go.Proofs.YtflkiddmakeabaaGreatDoor

/- fold.Make where nothing is shown. -/
set_option linter.unusedVariables false
namespace Go.Proofs.YtflkiddmakeabaaGreatDoor
open Go.RowKit Zp
/-- nothing is handed back, and why -/
def MkNo (k : Int) (w : World) (e : Ending) (w' : World) : Prop := e = .returned (.tuple #[.agg #[.slice none 0 0, .slice none 0 0, .slice none 0 0], .slice none 0 0, .iface 98 (vi k)]) ∧ Below w.heap.size w w'
set_option maxRecDepth 100000 in
set_option maxHeartbeats 2000000 in
theorem fmake_no1 (c sg Dd n : Nat) (k asked : Int) (hk : I64 k) (hn : n ≤ 65536) (A : Option Addr) (m cA : Nat) (hmay : fmayB n k asked = false) (w : World) (hd1 : w.cell? ⟨Dd, 1, none⟩ = some (vi n)) :
    Calls Tryz.prog 13 #[.pointer (some ⟨sg, 0, none⟩), .pointer (some ⟨c, 0, none⟩), .pointer (some ⟨Dd, 0, none⟩), vi k, .slice A m cA, vi asked] w (MkNo 2 w) := by
  obtain ⟨W0, hW0⟩ : ∃ W0, W0 = w.alloc (.cells #[.slice none 0 0, .slice none 0 0, .slice none 0 0] 26) := ⟨_, rfl⟩
  have hb0 := below_of_eq hW0
  have hB0 : Blk W0 w.heap.size 26 #[.slice none 0 0, .slice none 0 0, .slice none 0 0] := by rw [hW0]; exact Blk.new _ _ _
  have hd10 := (hb0.cell (p := ⟨Dd, 1, none⟩) (block_lt_of_cell hd1)).trans hd1
  have hf := fmay_any Dd n k asked hk hn W0 hd10
  rw [hmay] at hf
  have HMAY := Lib.hid hf
  have HSZ := Lib.hid (size_any Dd n W0 hd10)
  have HW0 := Lib.hid hW0
  have HB0 := Lib.hid hb0
  clear hf hW0 hd10
  have f0 := (hB0.cell 0).trans (show _ = some (.slice none 0 0) from rfl)
  have f1 := (hB0.cell 1).trans (show _ = some (.slice none 0 0) from rfl)
  have f2 := (hB0.cell 2).trans (show _ = some (.slice none 0 0) from rfl)
  have z0 := hB0.frozen 0
  have z1 := hB0.frozen 1
  have z2 := hB0.frozen 2
  obtain ⟨hset, hgr⟩ := blk_set3 hB0 (.slice none 0 0) (.slice none 0 0) (.slice none 0 0)
  have HB := Lib.hid (hb0.grown hgr hb0.size (fun x hx => by injection hx with hx; omega))
  have q0 := (hset.cell 0).trans (show _ = some (.slice none 0 0) from rfl)
  have q1 := (hset.cell 1).trans (show _ = some (.slice none 0 0) from rfl)
  have q2 := (hset.cell 2).trans (show _ = some (.slice none 0 0) from rfl)
  clear hset hgr hb0 hB0
  clear hmay hk hn hd1
  go_enter Tryz.func13, Tryz.ntmps13
  go_upto_region 1 with (fail)
  rw [← HW0.out]
  go_wp2_with fail
  refine HMAY.out.mono ?_
  rintro _ _ ⟨rfl, rfl⟩
  go_wp2
  exact bodyPost_ret (v := .tuple #[.agg #[.slice none 0 0, .slice none 0 0, .slice none 0 0], .slice none 0 0, .iface 98 (vi 2)]) (by simp [results, Tryz.results13, go_sem, q0, q1, q2]) rfl ⟨rfl, HB.out⟩
set_option maxRecDepth 100000 in
set_option maxHeartbeats 2000000 in
theorem fmake_no2 (c sg Dd n : Nat) (k asked : Int) (hk : I64 k) (hn : n ≤ 65536) (A : Option Addr) (m cA : Nat) (hmay : fmayB n k asked = true) (hm : m ≠ n) (w : World) (hd1 : w.cell? ⟨Dd, 1, none⟩ = some (vi n)) :
    Calls Tryz.prog 13 #[.pointer (some ⟨sg, 0, none⟩), .pointer (some ⟨c, 0, none⟩), .pointer (some ⟨Dd, 0, none⟩), vi k, .slice A m cA, vi asked] w (MkNo 2 w) := by
  obtain ⟨W0, hW0⟩ : ∃ W0, W0 = w.alloc (.cells #[.slice none 0 0, .slice none 0 0, .slice none 0 0] 26) := ⟨_, rfl⟩
  have hb0 := below_of_eq hW0
  have hB0 : Blk W0 w.heap.size 26 #[.slice none 0 0, .slice none 0 0, .slice none 0 0] := by rw [hW0]; exact Blk.new _ _ _
  have hd10 := (hb0.cell (p := ⟨Dd, 1, none⟩) (block_lt_of_cell hd1)).trans hd1
  have hf := fmay_any Dd n k asked hk hn W0 hd10
  rw [hmay] at hf
  have HMAY := Lib.hid hf
  have HSZ := Lib.hid (size_any Dd n W0 hd10)
  have HW0 := Lib.hid hW0
  have HB0 := Lib.hid hb0
  clear hf hW0 hd10
  have f0 := (hB0.cell 0).trans (show _ = some (.slice none 0 0) from rfl)
  have f1 := (hB0.cell 1).trans (show _ = some (.slice none 0 0) from rfl)
  have f2 := (hB0.cell 2).trans (show _ = some (.slice none 0 0) from rfl)
  have z0 := hB0.frozen 0
  have z1 := hB0.frozen 1
  have z2 := hB0.frozen 2
  obtain ⟨hset, hgr⟩ := blk_set3 hB0 (.slice none 0 0) (.slice none 0 0) (.slice none 0 0)
  have HB := Lib.hid (hb0.grown hgr hb0.size (fun x hx => by injection hx with hx; omega))
  have q0 := (hset.cell 0).trans (show _ = some (.slice none 0 0) from rfl)
  have q1 := (hset.cell 1).trans (show _ = some (.slice none 0 0) from rfl)
  have q2 := (hset.cell 2).trans (show _ = some (.slice none 0 0) from rfl)
  clear hset hgr hb0 hB0
  have t2 : ((m : Int) != (n : Int)) = true := by rw [bne_iff_ne]; omega
  clear hmay hk hn hd1 hm
  go_enter Tryz.func13, Tryz.ntmps13
  go_upto_region 1 with (fail)
  rw [← HW0.out]
  go_wp2_with fail
  refine HMAY.out.mono ?_
  rintro _ _ ⟨rfl, rfl⟩
  go_wp2_with fail
  refine HSZ.out.mono ?_
  rintro _ _ ⟨rfl, rfl⟩
  go_wp2
  exact bodyPost_ret (v := .tuple #[.agg #[.slice none 0 0, .slice none 0 0, .slice none 0 0], .slice none 0 0, .iface 98 (vi 2)]) (by simp [results, Tryz.results13, go_sem, q0, q1, q2]) rfl ⟨rfl, HB.out⟩
set_option maxRecDepth 100000 in
set_option maxHeartbeats 2000000 in
theorem fmake_no3 (p : Nat) [NeZero p] (c sg Dd b2 S2 n : Nat) (s : Fin p) (k asked : Int) (hk : I64 k) (hn : n ≤ 65536) (A : Option Addr) (cA : Nat) (word : List Int) (hlw : word.length = n) (hiw : ∀ x ∈ word, I64 x) (hmay : fmayB n k asked = true) (hcw : cwB p n s k word = false) (w : World) (hd : Dom w S2 Dd b2 p n s) (hsW : SL w A word) :
    Calls Tryz.prog 13 #[.pointer (some ⟨sg, 0, none⟩), .pointer (some ⟨c, 0, none⟩), .pointer (some ⟨Dd, 0, none⟩), vi k, .slice A n cA, vi asked] w (MkNo 3 w) := by
  have hd1 := hd.c1
  obtain ⟨W0, hW0⟩ : ∃ W0, W0 = w.alloc (.cells #[.slice none 0 0, .slice none 0 0, .slice none 0 0] 26) := ⟨_, rfl⟩
  have hb0 := below_of_eq hW0
  have hB0 : Blk W0 w.heap.size 26 #[.slice none 0 0, .slice none 0 0, .slice none 0 0] := by rw [hW0]; exact Blk.new _ _ _
  have hd10 := (hb0.cell (p := ⟨Dd, 1, none⟩) (block_lt_of_cell hd1)).trans hd1
  have hf := fmay_any Dd n k asked hk hn W0 hd10
  rw [hmay] at hf
  have HMAY := Lib.hid hf
  have HSZ := Lib.hid (size_any Dd n W0 hd10)
  have HW0 := Lib.hid hW0
  have HB0 := Lib.hid hb0
  clear hf hW0 hd10
  have his := is_any p S2 Dd b2 n s k A n cA word hlw hiw W0 (hd.below hb0 hd.fld.le) (hsW.below hb0)
  rw [hcw] at his
  have HIS := Lib.hid his
  have HBX := Lib.hid hB0
  have HBE := Lib.hid hb0
  have t2 : ((n : Int) != (n : Int)) = false := by simp
  clear hmay hk hn hd1 his hd hsW hlw hiw hcw hB0 hb0
  go_enter Tryz.func13, Tryz.ntmps13
  go_upto_region 1 with (fail)
  rw [← HW0.out]
  go_wp2_with fail
  refine HMAY.out.mono ?_
  rintro _ _ ⟨rfl, rfl⟩
  go_wp2_with fail
  refine HSZ.out.mono ?_
  rintro _ _ ⟨rfl, rfl⟩
  go_wp2_with fail
  refine HIS.out.mono ?_
  rintro _ w1 ⟨rfl, hb1⟩
  have hB0 := Blk.below HBX.out hb1 HBX.out.lt
  have hb0 := HBE.out.trans (hb1.mono HBE.out.size)
  clear hb1
  have f0 := (hB0.cell 0).trans (show _ = some (.slice none 0 0) from rfl)
  have f1 := (hB0.cell 1).trans (show _ = some (.slice none 0 0) from rfl)
  have f2 := (hB0.cell 2).trans (show _ = some (.slice none 0 0) from rfl)
  have z0 := hB0.frozen 0
  have z1 := hB0.frozen 1
  have z2 := hB0.frozen 2
  obtain ⟨hset, hgr⟩ := blk_set3 hB0 (.slice none 0 0) (.slice none 0 0) (.slice none 0 0)
  have HB := Lib.hid (hb0.grown hgr hb0.size (fun x hx => by injection hx with hx; omega))
  have q0 := (hset.cell 0).trans (show _ = some (.slice none 0 0) from rfl)
  have q1 := (hset.cell 1).trans (show _ = some (.slice none 0 0) from rfl)
  have q2 := (hset.cell 2).trans (show _ = some (.slice none 0 0) from rfl)
  clear hset hgr hb0 hB0
  go_wp2
  exact bodyPost_ret (v := .tuple #[.agg #[.slice none 0 0, .slice none 0 0, .slice none 0 0], .slice none 0 0, .iface 98 (vi 3)]) (by simp [results, Tryz.results13, go_sem, q0, q1, q2]) rfl ⟨rfl, HB.out⟩
end Go.Proofs.YtflkiddmakeabaaGreatDoor

/- The document's Make, ahead of its walk: what stands in a round. -/
set_option linter.unusedVariables false
namespace Go.Proofs.YtflkiddmakeabaaGreatDoor
open Go.RowKit Zp
/-- what the document's Make hands back -/
def RMkIs (p kk m : Nat) [NeZero p] (s : Fin p) (e R : Nat) (word D : List Int) (a : Nat) (w : World) (ee : Ending) (w' : World) : Prop :=
  ∃ (AR : Option Addr) (nR cR : Nat) (AL : Option Addr) (nL cL : Nat) (AO : Option Addr) (nO cO : Nat) (v : Value), ee = .returned (.tuple #[.agg #[.slice AR nR cR, .slice AL nL cL, .slice AO nO cO], v]) ∧
    (∀ w'', SafeO w' w'' → FAt w'' AR nR cR AL nL cL AO nO cO (fldM p kk s e word D R (plM p kk s e word D R a))) ∧
    Own w' w.heap.size v (plM p kk s e word D R a) ∧ RCh w' m p (iterP p kk (dLM p kk s e word D R) a) ∧ w.grownBy w' (some m)
structure RTwo (W2 : World) (ob c base b6 e : Nat) {p : Nat} [NeZero p] (s : Fin p) (d : Nat) (rows : Nat → List (List Int)) (rts : Nat → List Int) (wv D : List Int) (t : Nat) (AW : Option Addr) (v1 v2 : Value) (xs us : List Value) (wn : World) : Prop where
  ms : MS W2 ob c base rows rts wv wn t t AW v1 v2 v2 xs us
  rch : RCh wn c p D
  dom : Blk wn b6 30 (RDA p s e d)
  dw : Blk W2 b6 30 (RDA p s e d)
  h6 : b6 < base
section
variable {W2 wr wa w3 wb w4 wn w5 : World} {ob c base b6 e p : Nat} [NeZero p] {s : Fin p} {d : Nat} {rows : Nat → List (List Int)} {rts : Nat → List Int} {wv D D5 : List Int} {t : Nat} {AW : Option Addr} {v1 v2 v1' v2' : Value} {xs us : List Value}
theorem RTwo.below (h : RTwo W2 ob c base b6 e s d rows rts wv D t AW v1 v2 xs us wn) (hb : Below wn.heap.size wn w5) : RTwo W2 ob c base b6 e s d rows rts wv D t AW v1 v2 xs us w5 :=
  ⟨h.ms.below hb, h.rch.below hb, h.dom.below hb h.dom.lt, h.dw, h.h6⟩
theorem RTwo.step (h : RTwo W2 ob c base b6 e s d rows rts wv D t AW v1 v2 xs us wn) (hC : RCh w5 c p D5) (hg : wn.grownBy w5 (some c)) : RTwo W2 ob c base b6 e s d rows rts wv D5 t AW v1 v2 xs us w5 := by
  obtain ⟨g, cap, cs, h1, _⟩ := id h.rch
  exact ⟨h.ms.chain hg h1 (by decide) (by decide), hC, Blk.grown h.dom hg (fun e => by injection e with e; exact Blk.ne_ h.dom h1 (by decide) e), h.dw, h.h6⟩
theorem RTwo.word (h : RTwo W2 ob c base b6 e s d rows rts wv D t AW v1 v2 xs us wn) {b m cp : Nat} {A : Option Addr} {wv' : List Int} (ho : Own wn b (.slice A m cp) wv') : RTwo W2 ob c base b6 e s d rows rts wv' D t A v1 v2 xs us wn := ⟨h.ms.word ho, h.rch, h.dom, h.dw, h.h6⟩
/-- the box of the domain is turned: so is that of the world at the loop's head -/
theorem RTwo.half (h : RTwo W2 ob c base b6 e s d rows rts wv D t AW v1 v2 xs us wn) (d' : Nat) : ∃ W2', W2'.heap.size = W2.heap.size ∧ W2.grownBy W2' (some b6) ∧
    RTwo W2' ob c base b6 e s d' rows rts wv D t AW v1 v2 xs us ((((wn.setCell ⟨b6, 0, none⟩ (vi (p : Int))).setCell ⟨b6, 1, none⟩ (vi ((nI e d' : Nat) : Int))).setCell ⟨b6, 2, none⟩ (vi (fv (sqI s d')))).setCell ⟨b6, 3, none⟩ (vi (fv (rootI p ((nI e d' : Nat) : Int))))) ∧
    Safe wn ((((wn.setCell ⟨b6, 0, none⟩ (vi (p : Int))).setCell ⟨b6, 1, none⟩ (vi ((nI e d' : Nat) : Int))).setCell ⟨b6, 2, none⟩ (vi (fv (sqI s d')))).setCell ⟨b6, 3, none⟩ (vi (fv (rootI p ((nI e d' : Nat) : Int))))) := by
  obtain ⟨s1, g1⟩ := blk_set4 h.dw (vi (p : Int)) (vi ((nI e d' : Nat) : Int)) (vi (fv (sqI s d'))) (vi (fv (rootI p ((nI e d' : Nat) : Int))))
  obtain ⟨s2, g2⟩ := blk_set4 h.dom (vi (p : Int)) (vi ((nI e d' : Nat) : Int)) (vi (fv (sqI s d'))) (vi (fv (rootI p ((nI e d' : Nat) : Int))))
  have hz : ((((W2.setCell ⟨b6, 0, none⟩ (vi (p : Int))).setCell ⟨b6, 1, none⟩ (vi ((nI e d' : Nat) : Int))).setCell ⟨b6, 2, none⟩ (vi (fv (sqI s d')))).setCell ⟨b6, 3, none⟩ (vi (fv (rootI p ((nI e d' : Nat) : Int))))).heap.size = W2.heap.size := by simp [World.setCell]
  obtain ⟨W2', hW2⟩ : ∃ W', W' = (((W2.setCell ⟨b6, 0, none⟩ (vi (p : Int))).setCell ⟨b6, 1, none⟩ (vi ((nI e d' : Nat) : Int))).setCell ⟨b6, 2, none⟩ (vi (fv (sqI s d')))).setCell ⟨b6, 3, none⟩ (vi (fv (rootI p ((nI e d' : Nat) : Int)))) := ⟨_, rfl⟩
  obtain ⟨w', hw'⟩ : ∃ w', w' = (((wn.setCell ⟨b6, 0, none⟩ (vi (p : Int))).setCell ⟨b6, 1, none⟩ (vi ((nI e d' : Nat) : Int))).setCell ⟨b6, 2, none⟩ (vi (fv (sqI s d')))).setCell ⟨b6, 3, none⟩ (vi (fv (rootI p ((nI e d' : Nat) : Int)))) := ⟨_, rfl⟩
  rw [← hW2] at s1 g1 hz
  rw [← hw'] at s2 g2 ⊢
  have hs := Safe.one g2 h.dom (by decide)
  have hgm : GrowM W2' w' c ob := ⟨(g2.os.trans h.ms.gm.os).trans g1.os.symm, (g2.tape.trans h.ms.gm.tape).trans g1.tape.symm, (g2.output.trans h.ms.gm.output).trans g1.output.symm, by rw [hz]; exact Nat.le_trans h.ms.gm.size g2.size, fun x hx h1 h2 => by
    by_cases e6 : x = b6
    · subst e6
      exact (s2 : w'.heap[x]? = _).trans (s1 : W2'.heap[x]? = _).symm
    · rw [hz] at hx
      have hne : some x ≠ some b6 := fun e => by injection e with e; exact e6 e
      rw [g2.block x (Nat.lt_of_lt_of_le hx h.ms.gm.size) hne, h.ms.gm.block x hx h1 h2, g1.block x hx hne]⟩
  have hdo : b6 ≠ ob := fun e => by
    have h1 := h.dom
    have h2 := h.ms.out
    rw [← e] at h2
    exact Blk.ne_ h1 h2 (by decide) rfl
  obtain ⟨g, cap, cs, hx1, hx2, hx3, hx4, hx5, hx6, hx7⟩ := id h.rch
  refine ⟨W2', hz, g1, ⟨⟨sl_same h.ms.sl hs.1 (fun ad e => by obtain ⟨cs, hcs⟩ := h.ms.blk ad e; exact hs.heap hcs), fun ad e => by obtain ⟨cs, hcs⟩ := h.ms.blk ad e; exact ⟨cs, (hs.heap hcs).trans hcs⟩, h.ms.tabs.far g2 h.dom (by decide) (by decide), h.ms.rt.safe hs, Blk.grown h.ms.out g2 (fun e => by injection e with e; exact hdo e.symm), hgm, h.ms.hob, h.ms.hcb, by rw [hz]; exact h.ms.hbs⟩, h.rch.hold hs (g2.block c h.rch.lt (fun e => by injection e with e; exact Blk.ne_ hx1 h.dom (by decide) e)), s2, s1, h.h6⟩, hs⟩
/-- a table and a root more -/
theorem RTwo.app (h : RTwo W2 ob c base b6 e s d rows rts wv D t AW v1 v2 xs us wn)
    {A : Option Addr} {m cA : Nat} {ua : List Value} (ho : OwnR wn base (.slice A m cA) ua) (hr : RowsOwn wn base ua (rows t)) (hne : ∀ g, (Value.slice A m cA).ownBlock = some g → v2.ownBlock ≠ some g)
    {g cap : Nat} {tg : TypeId} {cg : Array Value} (hg : Blk wn g tg cg) (htg : tg = 3 ∨ tg = 153) (hs : SL wn (some ⟨g, 0, none⟩) (rts t)) (hl : (rts t).length = 4) (hi : ∀ x ∈ rts t, I64 x)
    (hb : Below wn.heap.size wn wa) (p1 : w3.ownsRow base 23 1 v1' (t + 1) (xs ++ [.slice A m cA])) (p2 : wa.grownBy w3 v1.ownBlock)
    (hb' : Below w3.heap.size w3 wb) (q1 : w4.ownsRow base 22 1 v2' (us.length + 1) (us ++ [.slice (some ⟨g, 0, none⟩) 4 cap])) (q2 : wb.grownBy w4 v2.ownBlock) (q3 : v2'.ownBlock = v2.ownBlock ∨ ∃ k, v2'.ownBlock = some k ∧ wb.heap.size ≤ k) :
    RTwo W2 ob c base b6 e s d rows rts wv D (t + 1) AW v1' v2' (xs ++ [.slice A m cA]) (us ++ [.slice (some ⟨g, 0, none⟩) 4 cap]) (w4.setCell ⟨ob, 0, none⟩ v2') ∧ wn.heap.size ≤ (w4.setCell ⟨ob, 0, none⟩ v2').heap.size ∧ ∀ x cs, Blk wn x 3 cs → (w4.setCell ⟨ob, 0, none⟩ v2').heap[x]? = wn.heap[x]? := by
  have hA := h.below hb
  have ms1 := hA.ms.app1 (ho.below hb) (hr.below hb) hne p1 p2
  have r1 := hA.rch.row hA.ms.tabs.own p2 h.ms.hcb (by decide)
  have d1 : Blk w3 b6 30 (RDA p s e d) := row_far hA.ms.tabs.own p2 hA.dom (by decide)
  have ms2 := ms1.below hb'
  have r2 := r1.below hb'
  have d2 := d1.below hb' d1.lt
  have hgA := hg.below hb hg.lt
  have hg3 : Blk w3 g tg cg := row_far hA.ms.tabs.own p2 hgA (by rcases htg with rfl | rfl <;> decide)
  have hgB := hg3.below hb' hg3.lt
  have hsB : SL wb (some ⟨g, 0, none⟩) (rts t) := sl_same hs (Nat.le_trans hb.size (Nat.le_trans p2.size hb'.size)) (fun ad e => by
    injection e with e; subst e
    exact (hgB : wb.heap[g]? = _).trans (hg : wn.heap[g]? = _).symm)
  have ms3 := ms2.app2 hgB htg hsB hl hi q1 q2 q3
  have r3 := r2.row ms2.rt.own q2 h.ms.hcb (by decide)
  have d3 : Blk w4 b6 30 (RDA p s e d) := row_far ms2.rt.own q2 d2 (by decide)
  have hbo : w4.grownBy (w4.setCell ⟨ob, 0, none⟩ v2') (some ob) := blk_grown
  obtain ⟨g9, cap9, cs9, hx1, _⟩ := id r3
  refine ⟨⟨ms3.store v2', r3.hold (Safe.one hbo ms3.out (by decide)) (hbo.block c r3.lt (fun e => by injection e with e; exact Blk.ne_ hx1 ms3.out (by decide) e)), Blk.grown d3 hbo (fun e => by injection e with e; exact Blk.ne_ d3 ms3.out (by decide) e), h.dw, h.h6⟩, Nat.le_trans hb.size (Nat.le_trans p2.size (Nat.le_trans hb'.size (Nat.le_trans q2.size hbo.size))), fun x cs hx => ?_⟩
  have x1 := hx.below hb hx.lt
  have x2 : Blk w3 x 3 cs := row_far hA.ms.tabs.own p2 x1 (by decide)
  have x3 := x2.below hb' x2.lt
  have x4 : Blk w4 x 3 cs := row_far ms2.rt.own q2 x3 (by decide)
  have x5 := Blk.grown x4 hbo (fun e => by injection e with e; exact Blk.ne_ x4 ms3.out (by decide) e)
  exact (x5 : _ = _).trans (hx : wn.heap[x]? = _).symm
end
end Go.Proofs.YtflkiddmakeabaaGreatDoor

/- The document's Make: what stands behind the rounds. -/
set_option linter.unusedVariables false
namespace Go.Proofs.YtflkiddmakeabaaGreatDoor
open Go.RowKit Zp
structure RPh2 (W2 : World) (ob c base : Nat) (q : Int) (rows : Nat → List (List Int)) (rts : Nat → List Int) (R : Nat) (last D : List Int) (v1 v2 vL vO vP : Value) (xs us : List Value) (places : List Int) (wr : World) : Prop where
  tabs : Tabs wr base v1 v2 R xs rows
  rt : RT wr base v2 us ((List.range R).map rts)
  last : Own wr base vL last
  pl : Own wr base vP places
  chn : RCh wr c q D
  out : Blk wr ob 26 #[v2, vL, vO]
  gm : GrowM W2 wr c ob
  hob : ob < base
  hcb : c < base
  hbs : base = W2.heap.size
section
variable {W2 wr w' : World} {ob c base R : Nat} {q : Int} {rows : Nat → List (List Int)} {rts : Nat → List Int} {last D D' places : List Int} {v1 v2 vL vO vO' vP : Value} {xs us xo : List Value}
theorem RPh2.size (h : RPh2 W2 ob c base q rows rts R last D v1 v2 vL vO vP xs us places wr) : base ≤ wr.heap.size := by rw [h.hbs]; exact h.gm.size
theorem RPh2.safe (h : RPh2 W2 ob c base q rows rts R last D v1 v2 vL vO vP xs us places wr) (hs : Safe wr w') (hk : ∀ g, v1.ownBlock = some g → w'.heap[g]? = wr.heap[g]?) (hC : RCh w' c q D') (ho : Blk w' ob 26 #[v2, vL, vO']) (hg : GrowM W2 w' c ob) :
    RPh2 W2 ob c base q rows rts R last D' v1 v2 vL vO' vP xs us places w' := ⟨h.tabs.safe hs hk, h.rt.safe hs, h.last.safe hs, h.pl.safe hs, hC, ho, hg, h.hob, h.hcb, h.hbs⟩
theorem RPh2.below (h : RPh2 W2 ob c base q rows rts R last D v1 v2 vL vO vP xs us places wr) (hb : Below wr.heap.size wr w') : RPh2 W2 ob c base q rows rts R last D v1 v2 vL vO vP xs us places w' :=
  h.safe (Safe.of hb) (fun g hg => hb.block g (World.ownsRow.lt h.tabs.own g hg).2) (h.chn.below hb) (Blk.below h.out hb h.out.lt) (h.gm.trans (GrowM.of hb))
theorem RPh2.chain (h : RPh2 W2 ob c base q rows rts R last D v1 v2 vL vO vP xs us places wr) (hC : RCh w' c q D') (hg : wr.grownBy w' (some c)) : RPh2 W2 ob c base q rows rts R last D' v1 v2 vL vO vP xs us places w' := by
  obtain ⟨gq, cq, csq, hv, _⟩ := id h.chn
  exact h.safe (Safe.one hg hv (by decide)) (fun g hgv => by
    have h1 := World.ownsRow.lt h.tabs.own g hgv
    exact hg.block g h1.2 (fun e => by injection e with e; have := h.hcb; omega)) hC (Blk.grown h.out hg (fun e => by injection e with e; exact Blk.ne_ h.out hv (by decide) e)) (h.gm.trans (GrowM.one hg))
theorem RPh2.withPl (h : RPh2 W2 ob c base q rows rts R last D v1 v2 vL vO vP xs us places wr) {vP' : Value} {places' : List Int} (ho : Own wr base vP' places') : RPh2 W2 ob c base q rows rts R last D v1 v2 vL vO vP' xs us places' wr :=
  ⟨h.tabs, h.rt, h.last, ho, h.chn, h.out, h.gm, h.hob, h.hcb, h.hbs⟩
/-- an Opening more is written behind the others, and the table is put away -/
theorem RPh2.app (h : RPh2 W2 ob c base q rows rts R last D v1 v2 vL vO vP xs us places wr) {t base2 : Nat} (hb2 : base ≤ base2) (ho : wr.ownsRow base2 70 3 vO t xo) (hg : wr.grownBy w' vO.ownBlock) : RPh2 W2 ob c base q rows rts R last D v1 v2 vL vO' vP xs us places (w'.setCell ⟨ob, 2, none⟩ vO') ∧ Blk w' ob 26 #[v2, vL, vO] ∧ Safe w' (w'.setCell ⟨ob, 2, none⟩ vO') ∧ w'.grownBy (w'.setCell ⟨ob, 2, none⟩ vO') (some ob) := by
  have hs1 := row_safe ho hg (by decide)
  have hB1 : Blk w' ob 26 #[v2, vL, vO] := row_far ho hg h.out (by decide)
  have hC1 := h.chn.row ho hg (by have := h.hcb; omega) (by decide)
  have hg2 : w'.grownBy (w'.setCell ⟨ob, 2, none⟩ vO') (some ob) := blk_grown
  have hs2 := Safe.one hg2 hB1 (by decide)
  have hcob : c ≠ ob := by
    obtain ⟨gq, cq, csq, hv, _⟩ := id hC1
    exact Blk.ne_ hv hB1 (by decide)
  refine ⟨h.safe (hs1.trans hs2) (fun g hgv => ?_) (hC1.hold hs2 (hg2.block c hC1.lt (fun e => by injection e with e; exact hcob e))) (Blk.set_ hB1 2 vO') ((h.gm.row hg (fun g hg => by have := (World.ownsRow.lt ho g hg).1; have := h.hbs; omega)).trans (GrowM.two hg2)), hB1, hs2, hg2⟩
  obtain ⟨cs, hcs⟩ := row_blk h.tabs.own hgv
  have h1 := row_far ho hg hcs (by decide)
  have h2 := World.ownsRow.lt h.tabs.own g hgv
  rw [hg2.block g (Nat.lt_of_lt_of_le h2.2 hg.size) (fun e => by injection e with e; have := h.hob; omega)]
  exact (h1 : w'.heap[g]? = _).trans (hcs : wr.heap[g]? = _).symm
/-- behind the rounds: the last polynomial is put away -/
theorem RTwo.done {p e b6 d : Nat} [NeZero p] {s : Fin p} {wv : List Int} {AW : Option Addr} {t b5 : Nat} (h : RTwo W2 ob c base b6 e s d rows rts wv D t AW v1 v2 xs us wr) (hb : Below wr.heap.size wr w') (ho : Own w' b5 vL last) (hb5 : base ≤ b5) :
    RPh2 W2 ob c base (p : Int) rows rts t last D v1 v2 vL (.slice none 0 0) (.slice none 0 0) xs us [] (w'.setCell ⟨ob, 1, none⟩ vL) ∧ Blk w' ob 26 #[v2, .slice none 0 0, .slice none 0 0] := by
  have h1 := h.below hb
  have hg2 : w'.grownBy (w'.setCell ⟨ob, 1, none⟩ vL) (some ob) := blk_grown
  have hs2 := Safe.one hg2 h1.ms.out (by decide)
  have hcob : c ≠ ob := by
    obtain ⟨gq, cq, csq, hv, _⟩ := id h1.rch
    exact Blk.ne_ hv h1.ms.out (by decide)
  refine ⟨⟨h1.ms.tabs.safe hs2 (fun g hgv => ?_), h1.ms.rt.safe hs2, (ho.more hb5).safe hs2, World.ownsRow_nil _ _ _ _, h1.rch.hold hs2 (hg2.block c h1.rch.lt (fun e => by injection e with e; exact hcob e)), Blk.set_ h1.ms.out 1 vL, h1.ms.gm.trans (GrowM.two hg2), h1.ms.hob, h1.ms.hcb, h1.ms.hbs⟩, h1.ms.out⟩
  have h2 := World.ownsRow.lt h1.ms.tabs.own g hgv
  exact hg2.block g h2.2 (fun e => by injection e with e; have := h1.ms.hob; omega)
end
section
variable {p : Nat} [NeZero p]
/-- the end: all of it is put away -/
theorem rmk_fin {kk m ob rb : Nat} {s : Fin p} {e R a : Nat} {word D0 : List Int} {rows : Nat → List (List Int)} {w W2 wr : World} {v1 : Value} {A2 A5 AO AP : Option Addr} {n2 c2 n5 c5 nO cO nP cP : Nat} {xs us xo : List Value} (hp : p ≤ 2147483647)
    (hW : Below w.heap.size w W2) (hwo : w.heap.size < ob) (hcw : m < w.heap.size) (hR : R ≤ 64) (hn5 : (lastM p kk s e word D0 R).length ≤ 65536)
    (h : RPh2 W2 ob m W2.heap.size (p : Int) rows (rM p kk s e word D0) R (lastM p kk s e word D0 R) (iterP p kk (dLM p kk s e word D0 R) a) v1 (.slice A2 n2 c2) (.slice A5 n5 c5) (.slice AO nO cO) (.slice AP nP cP) xs us (plM p kk s e word D0 R a) wr)
    (hc : CopS W2.heap.size wr (.slice AO nO cO) R xo (opM p kk s e word D0 (plM p kk s e word D0 R a))) (hX : Blk W2 rb 26 #[.slice none 0 0, .slice none 0 0, .slice none 0 0]) (hrb : rb ≠ ob) (hrm : w.heap.size ≤ rb) :
    Blk wr rb 26 #[.slice none 0 0, .slice none 0 0, .slice none 0 0] ∧
    Blk (((wr.setCell ⟨rb, 0, none⟩ (.slice A2 n2 c2)).setCell ⟨rb, 1, none⟩ (.slice A5 n5 c5)).setCell ⟨rb, 2, none⟩ (.slice AO nO cO)) rb 26 #[.slice A2 n2 c2, .slice A5 n5 c5, .slice AO nO cO] ∧
    RMkIs p kk m s e R word D0 a w (.returned (.tuple #[.agg #[.slice A2 n2 c2, .slice A5 n5 c5, .slice AO nO cO], .slice AP nP cP])) (((wr.setCell ⟨rb, 0, none⟩ (.slice A2 n2 c2)).setCell ⟨rb, 1, none⟩ (.slice A5 n5 c5)).setCell ⟨rb, 2, none⟩ (.slice AO nO cO)) := by
  have hX9 : Blk wr rb 26 #[.slice none 0 0, .slice none 0 0, .slice none 0 0] := (h.gm.block _ hX.lt (by omega) hrb).trans hX
  obtain ⟨hset, hgr⟩ := blk_set3 hX9 (.slice A2 n2 c2) (.slice A5 n5 c5) (.slice AO nO cO)
  obtain ⟨wf, hwf⟩ : ∃ wf, wf = ((wr.setCell ⟨rb, 0, none⟩ (.slice A2 n2 c2)).setCell ⟨rb, 1, none⟩ (.slice A5 n5 c5)).setCell ⟨rb, 2, none⟩ (.slice AO nO cO) := ⟨_, rfl⟩
  rw [← hwf] at hset hgr ⊢
  have sA : SafeO wr wf := SafeO.one hgr hX9 (by decide) (by decide)
  refine ⟨hX9, hset, A2, n2, c2, A5, n5, c5, AO, nO, cO, _, rfl, fun w'' hk => ?_, (h.pl.more (hW.size)).safe sA.1, ?_, ?_⟩
  · exact made_fin h.rt (by simp) hR h.last hn5 (fun x hx => by
      obtain ⟨y, _, rfl⟩ := List.mem_map.1 hx
      exact i64_fv _ hp) hc w'' (sA.trans hk)
  · exact h.chn.hold sA.1 (hgr.block m h.chn.lt (fun e => by injection e with e; omega))
  · have g1 := growM_grown hW h.gm (Nat.le_of_lt hwo)
    exact grown_any g1 hgr (fun g hg => by injection hg with hg; omega)
end
end Go.Proofs.YtflkiddmakeabaaGreatDoor

/- Walks of the reference's Coefficients and Is. -/
set_option linter.unusedVariables false
namespace Go.Proofs.YtflkiddmakeabaaGreatDoor
open Go.RowKit Zp

set_option maxRecDepth 100000 in
set_option maxHeartbeats 1000000 in
theorem rcoefs_n (q : Nat) [NeZero q] (hq2 : 2 ≤ q) (hqm : q ≤ 2147483647) (n : Nat) (hn1 : 1 ≤ n) (hn : n ≤ 65536) (s r : Fin q) (A : Option Addr) (ca : Nat) (xs : List Int) (hml : xs.length = n) (hxs : ∀ x ∈ xs, I64 x) (w : World) (hs : SL w A xs) :
    Calls Tryz.prog 58 #[RDom q n (fv s) (fv r), .slice A n ca] w fun e w' => Made (fvs (trimL (coefL s r n (els q xs)))) w e w' := by
  obtain ⟨ad, rfl, ua, ub⟩ := hs.at_ (k := 0) (by omega)
  clear ua ub
  have hba : Below w.heap.size w (w.alloc (.cells #[vi q, vi n, vi (fv s), vi (fv r)] 30)) := (Below.refl _ _).alloc (Nat.le_refl _) _
  have hrd := RD.new w 30 q n (fv s) (fv r)
  have hlt : w.heap.size < (w.alloc (.cells #[vi q, vi n, vi (fv s), vi (fv r)] 30)).heap.size := by simp
  have hi1 := fun W => rinv_any q hq2 hqm (n : Int) ⟨by omega, by omega⟩ W
  have hi2 := fun W => rinv_any q hq2 hqm (fv r) (i64_fv _ hqm) W
  have hi3 := fun W => rinv_any q hq2 hqm (fv s) (i64_fv _ hqm) W
  simp only [el_fv] at hi2 hi3
  have hmulF := fun (x y : Fin q) W => rmul_any q hqm (fv x) (fv y) (i64_fv _ hqm) (i64_fv _ hqm) W
  simp only [el_fv] at hmulF
  have hmulC := fun (c : Int) (hc : I64 c) (y : Fin q) W => rmul_any q hqm c (fv y) hc (i64_fv _ hqm) W
  simp only [el_fv] at hmulC
  obtain ⟨l, hl⟩ : ∃ l, l = coefL s r n (els q xs) := ⟨_, rfl⟩
  rw [← hl]
  have hll : l.length = n := by rw [hl]; exact tab_length _ _
  obtain ⟨X, hX⟩ : ∃ X, X = els q xs := ⟨_, rfl⟩
  have hXl : X.length = n := by rw [hX, List.length_map, hml]
  have hXc : ∀ k (hk : k < xs.length) (hk' : k < X.length), X[k] = el q xs[k] := fun k hk hk' => by simp [hX]
  have hlc : ∀ k (hk : k < l.length), l[k] = ev X (pw (Zp.inv r) k) * (Zp.inv (el q (n : Int)) * pw (Zp.inv s) k) := fun k hk => by
    have hkn : k < n := by rw [← hll]; exact hk
    rw [← co_of_lt hk, hl, hX]
    unfold coefL
    rw [co_tab, if_pos hkn]
  generalize Zp.inv r = ir at hi2 hlc
  generalize Zp.inv s = is at hi3 hlc
  generalize Zp.inv (el q (n : Int)) = iN at hi1 hlc
  have HI1 := Lib.hid hi1
  have HI2 := Lib.hid hi2
  have HI3 := Lib.hid hi3
  have HMF := Lib.hid hmulF
  have HMC := Lib.hid hmulC
  have HLL := Lib.hid hll
  have HXL := Lib.hid hXl
  have HXC := Lib.hid hXc
  have HLC := Lib.hid hlc
  have HML := Lib.hid hml
  have f1 : fv (1 : Fin q) = 1 := fv_one hq2
  have HF1 := Lib.hid f1
  have HT := Lib.hid (fun B c W hB hW => rtrim_n q hqm B n c (fvs l) (by rw [List.length_map, hll]) (i64_fvsR l hqm) (by omega) hB W hW)
  have hels : els q (fvs l) = l := els_fvs l
  rw [hels] at HT
  clear hl hX hi1 hi2 hi3 hmulF hmulC hll hXl hXc hlc hml f1 hels
  go_enter Tryz.func58, Tryz.ntmps58
  go_wp2_with fail
  generalize w.alloc (.cells #[vi q, vi n, vi (fv s), vi (fv r)] 30) = w0 at hba hrd hlt ⊢
  obtain ⟨B, hB⟩ : ∃ B, B = w.heap.size := ⟨_, rfl⟩
  rw [← hB] at hrd hlt ⊢
  have HB := Lib.hid hB
  clear hB
  refine (HI1.out _).mono ?_
  rintro e w' ⟨rfl, rfl⟩
  have c0 := hrd.c0
  have c1 := hrd.c1
  have c2 := hrd.c2
  have c3 := hrd.c3
  go_wp2_with fail
  refine (HI2.out _).mono ?_
  rintro e w' ⟨rfl, rfl⟩
  go_wp2_with fail
  refine (HI3.out _).mono ?_
  rintro e w' ⟨rfl, rfl⟩
  clear c0 c1 c2 c3
  go_wp2
  go_loopw [5, 9, 10, 11, 12, 13, 14, 15, 16] (fun v tu sc i _ _ _ _ _ wr => ∃ k : Nat, k ≤ n ∧ i = vi k ∧ tu = vi (fv (pw ir k)) ∧ sc = vi (fv (iN * pw is k)) ∧ Own wr w0.heap.size v ((fvs l).take k) ∧ Below w0.heap.size w0 wr) (fun _ _ _ i _ _ _ _ _ _ => n - (intOf i).toNat)
  case atStart => exact ⟨0, Nat.zero_le _, rfl, by rw [pw_zero, HF1.out], by rw [pw_zero, mul_one_], World.ownsRow_nil _ _ _ _, Below.refl _ _⟩
  case round =>
    obtain ⟨k, hk, rfl, rfl, rfl, hown, hb⟩ := hrel
    have hrw := hrd.below hb hlt
    have c0 := hrw.c0
    have c1 := hrw.c1
    by_cases hkn : k < n
    · have hkl : k < l.length := by rw [HLL.out]; exact hkn
      have h2 := map_take_succ fv l k hkl
      rw [HLC.out k hkl] at h2
      have hm1 := fun W => HMF.out (pw ir k) ir W
      have hm2 := fun W => HMF.out (iN * pw is k) is W
      have hst1 : pw ir k * ir = pw ir (k + 1) := (pw_succ ir k).symm
      have hst2 : iN * pw is k * is = iN * pw is (k + 1) := by rw [pw_succ, mul_assoc_]
      rw [hst1] at hm1
      rw [hst2] at hm2
      have hlk : ((fvs l).take k).length < 17592186044416 := by
        have := List.length_take_le k (fvs l); omega
      have H2 := Lib.hid h2
      have HM1 := Lib.hid hm1
      have HM2 := Lib.hid hm2
      have HLK := Lib.hid hlk
      clear h2 hm1 hm2 hst1 hst2 hlk
      obtain ⟨TU', hTU⟩ : ∃ T, T = pw ir (k + 1) := ⟨_, rfl⟩
      obtain ⟨SC', hSC⟩ : ∃ T, T = iN * pw is (k + 1) := ⟨_, rfl⟩
      rw [← hTU] at HM1
      rw [← hSC] at HM2
      have HTU := Lib.hid hTU
      have HSC := Lib.hid hSC
      clear hTU hSC
      generalize pw ir k = TU at H2 HM1 ⊢
      generalize iN * pw is k = SC at H2 HM2 ⊢
      have hsW := hs.below (hba.trans (hb.mono hba.size))
      go_wp2
      go_loopw [12, 13, 14, 15] (fun po su j _ wi => ∃ (m h : Nat), m ≤ n ∧ j = vi m ∧ po = vi (fv (pw TU m)) ∧ su = vi (fv (ev (X.take m) TU)) ∧ wi = wr.drewN h) (fun _ _ j _ _ => n - (intOf j).toNat)
      case atStart => exact ⟨0, 0, Nat.zero_le _, rfl, by rw [pw_zero, HF1.out], rfl, rfl⟩
      case round =>
        obtain ⟨m, h, hm, rfl, rfl, rfl, rfl⟩ := hrel
        by_cases hmn : m < n
        · have hmx : m < xs.length := by rw [HML.out]; exact hmn
          have hmX : m < X.length := by rw [HXL.out]; exact hmn
          obtain ⟨ad2, hAD, hab, hcell⟩ := hsW.at_ hmx
          injection hAD with hAD
          subst hAD
          have hI := hxs _ (List.getElem_mem hmx)
          have hst : ev (X.take (m + 1)) TU = ev (X.take m) TU + el q xs[m] * pw TU m := by
            rw [List.take_succ_eq_append_getElem hmX, ev_snoc, HXC.out m hmx hmX, List.length_take]
            congr 3; omega
          have hpw := pw_succ TU m
          have hmul := fun W => HMC.out xs[m] hI (pw TU m) W
          have hmul2 := fun W => HMF.out (pw TU m) TU W
          rw [← hpw] at hmul2
          generalize xs[m] = c at hcell hI hst hmul
          generalize el q c * pw TU m = Z at hst hmul
          have z1 := fv_nonneg Z
          have z2 := fv_lt Z
          have z3 := fv_nonneg (ev (X.take m) TU)
          have z4 := fv_lt (ev (X.take m) TU)
          have hsum := fv_add (ev (X.take m) TU) Z
          rw [← hst] at hsum
          have HMUL := Lib.hid hmul
          have HMUL2 := Lib.hid hmul2
          have HSUM := Lib.hid hsum
          clear hmul hmul2 hsum hst hpw
          go_wp2
          go_quiet ((go_at_call 109; exact quiet_eq2 (HMUL.out _)))
          go_wp2_with fail
          refine (HMUL2.out _).mono ?_
          rintro e w' ⟨rfl, rfl⟩
          go_wp2
          go_roundw
          case rel => exact ⟨m + 1, _, by omega, by go_num, rfl, by rw [HSUM.out], rfl⟩
          case measure => simp [intOf]; omega
        · obtain rfl : m = n := by omega
          have he : X.take m = X := List.take_of_length_le (by rw [HXL.out]; exact Nat.le_refl _)
          have hmf := fun W => HMF.out (ev X TU) SC W
          have HE := Lib.hid he
          have HMV := Lib.hid hmf
          clear he hmf
          rw [HE.out]
          go_wp2_with fail
          refine (HMV.out _).mono ?_
          rintro e w' ⟨rfl, rfl⟩
          have hownh := hown.drewN h
          have hbh := below_drewN hb h
          go_wp2_with (at_builtin; refine wpList_app1 _ (fv (ev X TU * SC)) rfl _ _ rfl w0.heap.size _ _ rfl rfl hownh HLK.out hbh.size ?_; intro v' w1 hg; have hb1 := hg.below hbh hownh (Nat.le_refl _) hbh.size; have hr1 := hrd.below hb1 hlt; have d0 := hr1.c0; have d1 := hr1.c1)
          refine (HM1.out _).mono ?_
          rintro e w' ⟨rfl, rfl⟩
          go_wp2_with fail
          refine (HM2.out _).mono ?_
          rintro e w' ⟨rfl, rfl⟩
          go_wp2
          go_roundw
          case rel => exact ⟨k + 1, by omega, by go_num, by rw [HTU.out], by rw [HSC.out], by rw [← H2.out]; exact hg.own, hb1⟩
          case measure => simp [intOf]; omega
    · obtain rfl : k = n := by omega
      rw [List.take_of_length_le (by rw [List.length_map, HLL.out]; exact Nat.le_refl _)] at hown
      obtain ⟨A1, n1, c1', rfl, hl1, hc1, _, sl1⟩ := hown.shapeN
      rw [List.length_map, HLL.out] at hl1
      subst hl1
      have hbw := hba.trans (hb.mono hba.size)
      go_wp2_with fail
      refine (HT.out A1 c1' _ hc1 sl1).mono ?_
      rintro e w1 hm
      obtain ⟨v, rfl, ho1, hb1⟩ := made_boxed (by rw [← HB.out] at *; exact hbw) hm
      go_wp2
      go_ret
      exact ⟨v, rfl, ho1, hb1⟩
set_option maxHeartbeats 2000000 in
theorem ris_any (q : Nat) [NeZero q] (hq2 : 2 ≤ q) (hqm : q ≤ 2147483647) (n : Nat) (hn1 : 1 ≤ n) (hn : n ≤ 65536) (s : Fin q) (k : Int) (hk : I64 k) (A : Option Addr) (m ca : Nat) (xs : List Int) (hml : xs.length = m) (hxs : ∀ x ∈ xs, I64 x) (w : World) (hs : SL w A xs) :
    Calls Tryz.prog 15 #[RDom q n (fv s) (fv (rootI q n)), vi k, .slice A m ca] w fun e w' => SaysW (.bool (cwB q n s k xs)) w e w' := by
  obtain ⟨r, hr⟩ : ∃ r, r = rootI q (n : Int) := ⟨_, rfl⟩
  have hba : Below w.heap.size w (w.alloc (.cells #[vi q, vi n, vi (fv s), vi (fv r)] 30)) := (Below.refl _ _).alloc (Nat.le_refl _) _
  have hrd := RD.new w 30 q n (fv s) (fv r)
  have hc := fun (e : m = n) W hW => rcoefs_n q hq2 hqm n hn1 hn s r A ca xs (by rw [hml, e]) hxs W hW
  have hB1 : ∀ N : Nat, m = n → (fvs (trimL (coefL s r n (els q xs)))).length = N → (1 ≤ k ∧ k ≤ n) → cwB q n s k xs = decide ((N : Int) ≤ k) := fun N e e2 h => by
    rw [List.length_map] at e2
    unfold cwB
    rw [← hr, decide_eq_decide, e2]
    exact ⟨fun h => h.2.2, fun h' => ⟨h, by rw [hml, e], h'⟩⟩
  have hB2 : ¬ (1 ≤ k ∧ k ≤ n) → cwB q n s k xs = false := fun h => decide_eq_false (fun h' => h h'.1)
  have hB3 : ¬ m = n → cwB q n s k xs = false := fun h => decide_eq_false (fun h' => h (by rw [← hml]; exact h'.2.1))
  rw [← hr]
  generalize cwB q n s k xs = C at hB1 hB2 hB3 ⊢
  have HB1 := Lib.hid hB1
  have HB2 := Lib.hid hB2
  have HB3 := Lib.hid hB3
  have HC := Lib.hid hc
  have HML := Lib.hid hml
  clear hB1 hB2 hB3 hc hml hr
  have hsl := hs.below hba
  have d1 := hrd.c1
  by_cases h1 : k < 1
  · have t1 : decide (k < 1) = true := decide_eq_true h1
    have hC := Lib.hid (HB2.out (by omega))
    go_enter Tryz.func15, Tryz.ntmps15
    go_wp2
    go_ret
    exact ⟨ret_bool hC.out.symm, hba⟩
  · by_cases h2 : k > n
    · have t2 : decide ((n : Int) < k) = true := decide_eq_true h2
      have hC := Lib.hid (HB2.out (by omega))
      go_enter Tryz.func15, Tryz.ntmps15
      go_wp2
      go_ret
      exact ⟨ret_bool hC.out.symm, hba⟩
    · by_cases h3 : m = n
      · have H3 := Lib.hid h3
        have hB1 := Lib.hid (fun N h => HB1.out N h3 h (by omega))
        clear d1
        subst h3
        have HC2 := Lib.hid (HC.out rfl)
        clear HC
        go_enter Tryz.func15, Tryz.ntmps15
        have d0 := hrd.c0
        have d1 := hrd.c1
        have d2 := hrd.c2
        have d3 := hrd.c3
        go_wp2_with fail
        refine (HC2.out _ hsl).mono ?_
        rintro e w1 ⟨v, rfl, hown, hb1⟩
        obtain ⟨A1, n1, c1, rfl, hl1, _, _, _⟩ := hown.shapeN
        have hbw := hba.trans (hb1.mono hba.size)
        have hC := hB1.out n1 hl1
        clear hown hl1
        by_cases h4 : (n1 : Int) ≤ k
        · rw [decide_eq_true h4] at hC
          have HCC := Lib.hid hC
          clear hC
          go_wp2
          go_ret
          exact ⟨ret_bool HCC.out.symm, hbw⟩
        · have t5 : decide ((n1 : Int) ≤ k) = false := decide_eq_false h4
          rw [decide_eq_false h4] at hC
          clear h4
          have HCC := Lib.hid hC
          clear hC
          go_wp2
          go_ret
          exact ⟨ret_bool HCC.out.symm, hbw⟩
      · have hC := Lib.hid (HB3.out h3)
        have t3 : ((m : Int) != (n : Int)) = true := by rw [bne_iff_ne]; omega
        go_enter Tryz.func15, Tryz.ntmps15
        go_wp2
        go_ret
        exact ⟨ret_bool hC.out.symm, hba⟩
end Go.Proofs.YtflkiddmakeabaaGreatDoor

/- The walk of the document's Make. -/
set_option linter.unusedVariables false
namespace Go.Proofs.YtflkiddmakeabaaGreatDoor
open Go.RowKit Zp
theorem sl_stay {w w' : World} {A : Option Addr} {xs : List Int} {x : Nat} (h : SL w A xs) (hg : w.grownBy w' (some x)) (hne : ∀ ad, A = some ad → ad.block ≠ x) : SL w' A xs := by
  refine ⟨h.1, fun hn => ?_⟩
  obtain ⟨ad, e, hb, hc⟩ := h.2 hn
  exact ⟨ad, e, Nat.lt_of_lt_of_le hb hg.size, fun j u hu => (World.cell?_of_block (by rw [block_of_add]; exact hg.block _ hb (fun e' => by injection e' with e'; exact hne ad e e'))).trans (hc j u hu)⟩
theorem nils_new (w : World) : Blk (w.alloc (.cells #[.slice none 0 0, .slice none 0 0, .slice none 0 0] 70)) w.heap.size 70 #[.slice none 0 0, .slice none 0 0, .slice none 0 0] := Blk.new _ _ _
/-- what the world at the loop's head has -/
structure Hd5 (w W2 : World) (p e : Nat) [NeZero p] (s : Fin p) : Prop where
  bel : Below w.heap.size w W2
  res : Blk W2 (w.heap.size + 1) 26 #[.slice none 0 0, .slice none 0 0, .slice none 0 0]
  fst : Blk W2 (w.heap.size + 1 + 1 + 1) 30 (RDA p s e 0)
theorem Hd5.turn {w W2 W2' : World} {p e : Nat} [NeZero p] {s : Fin p} (h : Hd5 w W2 p e s) (hg : W2.grownBy W2' (some w.heap.size)) : Hd5 w W2' p e s :=
  ⟨h.bel.grown hg h.bel.size (fun x hx => by injection hx with hx; omega), Blk.grown h.res hg (fun e => by injection e with e; omega), Blk.grown h.fst hg (fun e => by injection e with e; omega)⟩
set_option maxRecDepth 100000 in
set_option maxHeartbeats 4000000 in
theorem rmake_yes (p : Nat) [NeZero p] (kk : Nat) (K : Pk p kk) (m : Nat) (D : List Int) (s : Fin p) (e j : Nat) (he : e ≤ 16) (hsz : SizeOk p (nI e 0)) (hje : j + 1 ≤ e) (hj16 : j ≤ 16) (a : Nat) (ha1 : 1 ≤ a) (ha2 : a ≤ 64)
    (word : List Int) (AW : Option Addr) (cW : Nat) (hlw : word.length = nI e 0) (hiw : ∀ x ∈ word, I64 x)
    (w : World) (hm : RCh w m p D) (hsW : SL w AW word) (hbW : ∀ ad, AW = some ad → ad.block ≠ m) :
    Calls Tryz.prog 17 #[.pointer (some ⟨m, 0, none⟩), .agg (RDA p s e 0), vi ((nI j 0 : Nat) : Int), .slice AW (nI e 0) cW, vi (a : Int)] w (RMkIs p kk m s e (rndK j) word D a w) := by
  have hqm := K.pm
  have hq3 := K.p3
  obtain ⟨W2, hW2⟩ : ∃ W2, W2 = (((w.alloc (.cells (RDA p s e 0) 30)).alloc (.cells #[.slice none 0 0, .slice none 0 0, .slice none 0 0] 26)).alloc (.cells #[.slice none 0 0, .slice none 0 0, .slice none 0 0] 26)).alloc (.cells (RDA p s e 0) 30) := ⟨_, rfl⟩
  have hb0 : Below w.heap.size w W2 := by rw [hW2]; exact ((((Below.refl _ _).alloc (Nat.le_refl _) _).alloc (by simp) _).alloc (by simp; omega) _).alloc (by simp; omega) _
  have hz : W2.heap.size = w.heap.size + 4 := by rw [hW2]; simp
  have hB6 : Blk W2 w.heap.size 30 (RDA p s e 0) := by rw [hW2]; exact (((Blk.new w _ _).alloc _).alloc _).alloc _
  have hBR : Blk W2 (w.heap.size + 1) 26 #[.slice none 0 0, .slice none 0 0, .slice none 0 0] := by
    have h := ((Blk.new (w.alloc (.cells (RDA p s e 0) 30)) 26 #[.slice none 0 0, .slice none 0 0, .slice none 0 0]).alloc (.cells #[.slice none 0 0, .slice none 0 0, .slice none 0 0] 26)).alloc (.cells (RDA p s e 0) 30)
    rw [hW2]
    simpa using h
  have hBO : Blk W2 (w.heap.size + 1 + 1) 26 #[.slice none 0 0, .slice none 0 0, .slice none 0 0] := by
    have h := (Blk.new ((w.alloc (.cells (RDA p s e 0) 30)).alloc (.cells #[.slice none 0 0, .slice none 0 0, .slice none 0 0] 26)) 26 #[.slice none 0 0, .slice none 0 0, .slice none 0 0]).alloc (.cells (RDA p s e 0) 30)
    rw [hW2]
    simpa using h
  have hB3 : Blk W2 (w.heap.size + 1 + 1 + 1) 30 (RDA p s e 0) := by
    have h := Blk.new (((w.alloc (.cells (RDA p s e 0) 30)).alloc (.cells #[.slice none 0 0, .slice none 0 0, .slice none 0 0] 26)).alloc (.cells #[.slice none 0 0, .slice none 0 0, .slice none 0 0] 26)) 30 (RDA p s e 0)
    rw [hW2]
    simpa using h
  have hmw := hm.lt
  have h0 : RTwo W2 (w.heap.size + 1 + 1) m W2.heap.size w.heap.size e s 0 (fun t => rowsL (fvs (els p (wM p kk s e word D t))) (nI e (t + 1))) (rM p kk s e word D) [] (dM p kk s e word D 0) 0 none (.slice none 0 0) (.slice none 0 0) [] [] W2 :=
    ⟨⟨SL.nil, fun ad had => (by cases had), Tabs.nil _ _ _ _, RT.nil _ _, hBO, GrowM.refl _ _ _, hBO.lt, by omega, rfl⟩, hm.below hb0, hB6, hB6, hB6.lt⟩
  have H0 := Lib.hid h0
  have HHD := Lib.hid (Hd5.mk hb0 hBR hB3)
  have HSW := Lib.hid (hsW.below hb0)
  have HBW := Lib.hid hbW
  have HW2 := Lib.hid hW2
  have HK := Lib.hid K
  have HZ := Lib.hid hz
  have HMW := Lib.hid hmw
  have HLW := Lib.hid hlw
  have HIW := Lib.hid hiw
  have HSZ := Lib.hid hsz
  have HAA := Lib.hid (And.intro ha1 ha2)
  clear h0 hb0 hBR hB3 hsW hbW hW2 K hz hmw hlw hiw hsz ha1 ha2 hm hBO hB6
  go_enter Tryz.func17, Tryz.ntmps17
  go_upto_region 4 with (fail)
  rw [← HW2.out]
  go_wp2
  go_loopw [2, 3, 13] (fun kv wd tb wr => ∃ (t : Nat) (AV : Option Addr) (cV : Nat) (v1 v2 : Value) (xs us : List Value) (W3 : World), t ≤ rndK j ∧ kv = vi ((nI j t : Nat) : Int) ∧ wd = .slice AV (nI e t) cV ∧ v1 = tb ∧ Hd5 w W3 p e s ∧ RTwo W3 (w.heap.size + 1 + 1) m W2.heap.size w.heap.size e s t (fun t => rowsL (fvs (els p (wM p kk s e word D t))) (nI e (t + 1))) (rM p kk s e word D) [] (dM p kk s e word D t) t none v1 v2 xs us wr ∧ SL wr AV (wM p kk s e word D t) ∧ ∀ ad, AV = some ad → ad.block ≠ m) (fun kv _ _ _ => (intOf kv).toNat)
  case atStart => exact ⟨0, AW, cW, _, _, _, _, W2, Nat.zero_le _, rfl, rfl, rfl, HHD.out, H0.out, HSW.out, HBW.out⟩
  case round =>
    obtain ⟨t, AV, cV, v1, v2, xs, us, W3, ht, rfl, rfl, rfl, hhd, h2, hsv, hbv⟩ := hrel
    have b0 := (h2.dom.cell 0).trans (show _ = some (vi (p : Int)) from rfl)
    have b1 := (h2.dom.cell 1).trans (show _ = some (vi ((nI e t : Nat) : Int)) from rfl)
    have b2 := (h2.dom.cell 2).trans (show _ = some (vi (fv (sqI s t))) from rfl)
    have b3 := (h2.dom.cell 3).trans (show _ = some (vi (fv (rootI p ((nI e t : Nat) : Int)))) from rfl)
    have HHD3 := Lib.hid hhd
    have HBV := Lib.hid hbv
    have H2 := Lib.hid h2
    have HWL := Lib.hid (wM_len (p := p) (k := kk) (s := s) (D := D) HLW.out t)
    have HWI := Lib.hid (wM_i64 (k := kk) (s := s) (e := e) (D := D) hqm HIW.out t)
    have HSV := Lib.hid hsv
    by_cases hlt : t < rndK j
    · have htj : t < j := by unfold rndK at hlt; omega
      have hte : t < e := by omega
      have t1 : decide ((4 : Int) < ((nI j t : Nat) : Int)) = true := decide_eq_true (by have := four_lt.2 hlt; omega)
      have hst : nI j t = 2 * nI j (t + 1) := nI_step htj
      have hpos := nI_pos j (t + 1)
      have hq : wrap64 (((nI j t : Nat) : Int) / 2) = ((nI j (t + 1) : Nat) : Int) := half_wrap hst (nI_le hj16 t)
      have HMS : Hid (nI j (t + 1) < nI j t) := Lib.hid (by omega)
      have HLT := Lib.hid hlt
      have HTE := Lib.hid hte
      have HT64 : Hid (t ≤ 16) := Lib.hid (by omega)
      have HPR := Lib.hid (rpairs_any p (by omega) hqm AV cV (nI e t) (nI e (t + 1)) (nI_step hte) (nI_le he t) (wM p kk s e word D t) HWL.out HWI.out wr hsv)
      clear hst hpos h2 hsv hbv hhd hlt hte htj
      go_wp2_with fail
      refine HPR.out.mono ?_
      rintro _ wa ⟨vl, ua, rfl, hor, hrr, hba⟩
      obtain ⟨A1, n1, c1, rfl, hun, hnc⟩ := ownR_shape hor
      have e1 : n1 = nI e (t + 1) := by rw [← hun, hrr.1, rowsL_len]
      subst e1
      have hri : ∀ x ∈ fvs (els p (wM p kk s e word D t)), I64 x := fun x hx => by
        obtain ⟨y, _, rfl⟩ := List.mem_map.1 hx
        exact i64_fv _ hqm
      have HRT := Lib.hid (rroot_any p kk HK.out (nI e (t + 1)) (nI_pos _ _) (nI_le he _) A1 c1 (rowsL (fvs (els p (wM p kk s e word D t))) (nI e (t + 1))) (rowsL_len _ _) hnc (fun l hl => by rw [rowsL_two _ _ l hl]; decide) wa (tb_own hor hrr (rowsL_i64 hri _)))
      have HRE : Hid (rootD (digL p kk) (rowF (rowsL (fvs (els p (wM p kk s e word D t))) (nI e (t + 1)))) 0 (nI e (t + 1)) = rM p kk s e word D t) := Lib.hid (rootD_els (by rw [HWL.out]; exact nI_step HTE.out) 0 _)
      rw [HRE.out] at HRT
      have HBA := Lib.hid hba
      have HOR := Lib.hid hor
      have HRR := Lib.hid hrr
      have hd := H2.out.dom.below hba H2.out.dom.lt
      have b0 := (hd.cell 0).trans (show _ = some (vi (p : Int)) from rfl)
      clear hba hor hrr hun hnc hri hd
      go_wp2_with fail
      refine HRT.out.mono ?_
      rintro _ wb ⟨g, cg, rfl, ⟨csg, hg⟩, hsr, hlr, hir, hgw, hbb⟩
      have h3 := (H2.out.below HBA.out).below hbb
      have hab := HBA.out.trans (hbb.mono HBA.out.size)
      have HST := Lib.hid (rstep_any p kk HK.out 3 ⟨by decide, by decide⟩ m _ (some ⟨g, 0, none⟩) 4 cg _ hlr hir (by omega) wb h3.rch hsr)
      have H3 := Lib.hid h3
      have HSVb := Lib.hid (HSV.out.below hab)
      have HORb := Lib.hid (HOR.out.below hbb)
      have HRRb := Lib.hid (HRR.out.below hbb)
      have HROOT := Lib.hid (And.intro hg (And.intro hsr (And.intro hlr (And.intro hir hgw))))
      have HSB := Lib.hid hab.size
      clear h3 hab hg hsr hlr hir hgw hbb
      go_wp2_with fail
      refine HST.out.mono ?_
      rintro _ w5 ⟨⟨r5, rfl⟩, hC5, hg5, _⟩
      have h5 := H3.out.step hC5 hg5
      have HDW := Lib.hid (rdraw_any p kk HK.out m _ w5 h5.rch)
      have H5 := Lib.hid h5
      have HG5 := Lib.hid hg5
      clear h5 hC5 hg5
      go_wp2_with fail
      refine HDW.out.mono ?_
      rintro _ w6 ⟨rfl, hC6, hg6, _⟩
      have h6 := H5.out.step hC6 hg6
      have hg56 := grownBy_trans HG5.out hg6
      have b0 := (h6.dom.cell 0).trans (show _ = some (vi (p : Int)) from rfl)
      have b1 := (h6.dom.cell 1).trans (show _ = some (vi ((nI e t : Nat) : Int)) from rfl)
      have b2 := (h6.dom.cell 2).trans (show _ = some (vi (fv (sqI s t))) from rfl)
      have b3 := (h6.dom.cell 3).trans (show _ = some (vi (fv (rootI p ((nI e t : Nat) : Int)))) from rfl)
      have HFO := Lib.hid (rfold_any p (by omega) hqm (nI e t) (nI e (t + 1)) (nI_step HTE.out) (nI_le he t) (sqI s t) (rootI p ((nI e t : Nat) : Int)) AV cV (wM p kk s e word D t) HWL.out HWI.out _ (i64_draw hqm kk (digL p kk (3 :: (dM p kk s e word D t ++ rM p kk s e word D t)))) w6 (sl_stay HSVb.out hg56 HBV.out))
      have H6 := Lib.hid h6
      have HG56 := Lib.hid hg56
      clear h6 hC6 hg6 hg56
      go_wp2_with fail
      refine HFO.out.mono ?_
      rintro _ w7 ⟨v7, rfl, ho7, hb7⟩
      obtain ⟨A7, n7, c7, rfl, hl7, _, _, _⟩ := ho7.shapeN
      have e7 : n7 = nI e (t + 1) := by rw [← hl7]; simp [fvs, foldL_length]
      subst e7
      have h7 := H6.out.below hb7
      have b0 := (h7.dom.cell 0).trans (show _ = some (vi (p : Int)) from rfl)
      have b1 := (h7.dom.cell 1).trans (show _ = some (vi ((nI e t : Nat) : Int)) from rfl)
      have b2 := (h7.dom.cell 2).trans (show _ = some (vi (fv (sqI s t))) from rfl)
      have b3 := (h7.dom.cell 3).trans (show _ = some (vi (fv (rootI p ((nI e t : Nat) : Int)))) from rfl)
      have HHF : Hid (Calls Tryz.prog 63 #[.agg (RDA p s e t)] w7 (GivesV (.agg (RDA p s e (t + 1))) w7)) := Lib.hid (by
        have h1 := rhalf_any p hqm (nI e t) (nI e (t + 1)) (nI_step HTE.out) (nI_le he t) (sqI s t) (rootI p ((nI e t : Nat) : Int)) w7
        have hdv : 2 * nI e (t + 1) ∣ p - 1 := by
          rw [← nI_step HTE.out]
          exact Nat.dvd_trans (by unfold nI; exact Nat.pow_dvd_pow 2 (by omega)) HSZ.out.2
        rw [show rootI p ((nI e t : Nat) : Int) * rootI p ((nI e t : Nat) : Int) = rootI p ((nI e (t + 1) : Nat) : Int) by rw [nI_step HTE.out]; exact (rootI_half (nI_pos _ _) hdv (by omega)).symm] at h1
        exact h1)
      have HO7 := Lib.hid (show Own w7 w6.heap.size (.slice A7 (nI e (t + 1)) c7) (wM p kk s e word D (t + 1)) from ho7)
      have H7 := Lib.hid h7
      have HB7 := Lib.hid hb7
      clear h7 ho7 hb7 hl7
      go_wp2_with fail
      refine HHF.out.mono ?_
      rintro _ w8 ⟨rfl, hb8⟩
      have h8 := H7.out.below hb8
      have HO8 := Lib.hid (HO7.out.below hb8)
      have hb68 := HB7.out.trans (hb8.mono HB7.out.size)
      have k0 := h8.dom.frozen 0
      have k1 := h8.dom.frozen 1
      have k2 := h8.dom.frozen 2
      have k3 := h8.dom.frozen 3
      have l0 := (h8.dom.cell 0).trans (show _ = some (vi (p : Int)) from rfl)
      have l1 := (h8.dom.cell 1).trans (show _ = some (vi ((nI e t : Nat) : Int)) from rfl)
      have l2 := (h8.dom.cell 2).trans (show _ = some (vi (fv (sqI s t))) from rfl)
      have l3 := (h8.dom.cell 3).trans (show _ = some (vi (fv (rootI p ((nI e t : Nat) : Int)))) from rfl)
      obtain ⟨W4, hz4, hg4, h9, hs9⟩ := h8.half (t + 1)
      obtain ⟨w9, hw9⟩ : ∃ w9, w9 = (((w8.setCell ⟨w.heap.size, 0, none⟩ (vi (p : Int))).setCell ⟨w.heap.size, 1, none⟩ (vi ((nI e (t + 1) : Nat) : Int))).setCell ⟨w.heap.size, 2, none⟩ (vi (fv (sqI s (t + 1))))).setCell ⟨w.heap.size, 3, none⟩ (vi (fv (rootI p ((nI e (t + 1) : Nat) : Int)))) := ⟨_, rfl⟩
      rw [← hw9] at h9 hs9
      have HW9 := Lib.hid hw9
      have HHD4 := Lib.hid (HHD3.out.turn hg4)
      have HO9 := Lib.hid (HO8.out.safe hs9)
      have HS56 : Safe wb w6 := by
        obtain ⟨gq, cq, csq, hx1, _⟩ := id H3.out.rch
        exact Safe.one HG56.out hx1 (by decide)
      have hsb9 : Safe wb w9 := (HS56.trans (Safe.of hb68)).trans hs9
      have HROW9 : Hid (OwnR w9 W2.heap.size (.slice A1 (nI e (t + 1)) c1) ua ∧ RowsOwn w9 W2.heap.size ua (rowsL (fvs (els p (wM p kk s e word D t))) (nI e (t + 1))) ∧ ∀ g, (Value.slice A1 (nI e (t + 1)) c1).ownBlock = some g → v2.ownBlock ≠ some g) := Lib.hid
        ⟨OwnR.moreB (HORb.out.safe hsb9) H2.out.ms.size, (HRRb.out.safe hsb9).more H2.out.ms.size, fun x hx hx2 => by
          have h1 := (World.ownsRow.lt HOR.out x hx).1
          have h2 := (World.ownsRow.lt H2.out.ms.rt.own x hx2).2
          omega⟩
      have HRT9 : Hid ((∃ cs, Blk w9 g 3 cs) ∧ SL w9 (some ⟨g, 0, none⟩) (rM p kk s e word D t) ∧ (rM p kk s e word D t).length = 4 ∧ ∀ x ∈ rM p kk s e word D t, I64 x) := Lib.hid
        ⟨⟨csg, (hsb9.heap HROOT.out.1).trans HROOT.out.1⟩, sl_same HROOT.out.2.1 hsb9.1 (fun ad e => by injection e with e; subst e; exact hsb9.heap HROOT.out.1), HROOT.out.2.2.1, HROOT.out.2.2.2.1⟩
      have HTB : Hid (t + 1 ≤ maxLen ∧ (t + 1) * 24 ≤ 140737488355328) := Lib.hid (by have := HT64.out; simp only [maxLen]; omega)
      have HUS : Hid (us.length + 1 ≤ maxLen ∧ (us.length + 1) * 24 ≤ 140737488355328) := Lib.hid (by
        have h1 := h9.ms.rt.us.1
        rw [List.length_map, List.length_range] at h1
        have := HT64.out; simp only [maxLen]; omega)
      have HZA : Hid (Below w9.heap.size w9 (w9.alloc (.cells #[.slice A1 (nI e (t + 1)) c1] 23))) := Lib.hid ((Below.refl _ _).alloc (Nat.le_refl _) _)
      have H9 := Lib.hid h9
      clear h8 hb68 hz4 hg4 h9 hs9 HS56 hsb9 hw9 b0 b1 b2 b3 hb8
      go_upto_region 12 with (fail)
      rw [← HW9.out]
      clear k0 k1 k2 k3 l0 l1 l2 l3
      go_upto_region 13 with (at_builtin; refine wpList_appSG 100 23 _ 1 24 Tryz.underlying100 info_tab (by rfl) (by omega) (w9.alloc (.cells #[.slice A1 (nI e (t + 1)) c1] 23)) w9.heap.size [.slice A1 (nI e (t + 1)) c1] (by rfl) (by simp [Value.oneCell']) (by rfl) _ _ (by rfl) W2.heap.size v1 t xs (by rfl) (by rfl) (newc1 w9 _ _ _ (by rfl)) (H9.out.ms.own1 HZA.out) HTB.out.1 HTB.out.2 (H9.out.ms.bs HZA.out) ?_; intro v1' w3 p1 p2 p3)
      have o0 := H9.out.ms.ob1 HZA.out p2
      have HZB : Hid (Below w3.heap.size w3 (w3.alloc (.cells #[.slice (some ⟨g, 0, none⟩) 4 cg] 22))) := Lib.hid ((Below.refl _ _).alloc (Nat.le_refl _) _)
      go_wp2_with (at_builtin; refine wpList_appSG 23 22 _ 1 24 Tryz.underlying23 info_ints (by rfl) (by omega) (w3.alloc (.cells #[.slice (some ⟨g, 0, none⟩) 4 cg] 22)) w3.heap.size [.slice (some ⟨g, 0, none⟩) 4 cg] (by rfl) (by simp [Value.oneCell']) (by rfl) _ _ (by rfl) W2.heap.size v2 us.length us (by rfl) (by rfl) (newc1 w3 _ _ _ (by rfl)) (H9.out.ms.own2 HZA.out p2 HZB.out) HUS.out.1 HUS.out.2 (H9.out.ms.bs2 HZA.out p2 HZB.out) ?_; intro v2' w4 q1 q2 q3; obtain ⟨A9, c9, hv9⟩ := row_form q1; subst hv9; have x4 := (H9.out.ms.ob2 HZA.out p2 HZB.out q2).1; have x5 := (H9.out.ms.ob2 HZA.out p2 HZB.out q2).2)
      have h10 := RTwo.app H9.out HROW9.out.1 HROW9.out.2.1 HROW9.out.2.2 HRT9.out.1.choose_spec (.inl rfl) HRT9.out.2.1 HRT9.out.2.2.1 HRT9.out.2.2.2 HZA.out p1 p2 HZB.out q1 q2 q3
      obtain ⟨h11, hz11, hk11⟩ := h10
      refine ⟨⟨t + 1, A7, c7, _, _, _, _, W4, Nat.succ_le_of_lt HLT.out, rfl, rfl, rfl, HHD4.out, h11, ?_, ?_⟩, ?_⟩
      · refine sl_same (sl_of HO9.out) hz11 (fun ad e => ?_)
        obtain ⟨cs, hcs⟩ := row_blk HO9.out (g := ad.block) (by rw [e]; rfl)
        exact hk11 _ _ hcs
      · intro ad e
        have h1 := (World.ownsRow.lt HO9.out ad.block (by rw [e]; rfl)).1
        have h2 := H6.out.rch.lt
        omega
      · show Int.toNat ((nI j (t + 1) : Nat) : Int) < Int.toNat ((nI j t : Nat) : Int)
        rw [Int.toNat_natCast, Int.toNat_natCast]
        exact HMS.out
    · have t1 : decide ((4 : Int) < ((nI j t : Nat) : Int)) = false := decide_eq_false (by have h4 : ¬ 4 < nI j t := fun h => hlt (four_lt.1 h); omega)
      have et : t = rndK j := by omega
      have HET := Lib.hid et
      have HT16 : Hid (t ≤ 16 ∧ t + 1 ≤ e) := Lib.hid (by unfold rndK at et; omega)
      have HCF := Lib.hid (rcoefs_n p (by omega) hqm (nI e t) (nI_pos _ _) (nI_le he t) (sqI s t) (rootI p ((nI e t : Nat) : Int)) AV cV (wM p kk s e word D t) HWL.out HWI.out wr hsv)
      clear h2 et hlt hsv hbv hhd
      go_wp2_with fail
      refine HCF.out.mono ?_
      rintro _ w9 ⟨vL, rfl, hoL, hb9⟩
      obtain ⟨AL, nL, cL, rfl, hlL, hcL, hmL, hsL⟩ := hoL.shapeN
      have hlast : fvs (trimL (coefL (sqI s t) (rootI p ((nI e t : Nat) : Int)) (nI e t) (els p (wM p kk s e word D t)))) = lastM p kk s e word D t := rfl
      rw [hlast] at hoL hlL hsL
      have hLi : ∀ x ∈ lastM p kk s e word D t, I64 x := fun x hx => by
        obtain ⟨y, _, rfl⟩ := List.mem_map.1 hx
        exact i64_fv _ hqm
      have hLn : nL ≤ 65536 := by
        rw [← hlL]
        unfold lastM
        rw [fvs, List.length_map]
        have h1 := trimL_length_le (coefL (sqI s t) (rootI p ((nI e t : Nat) : Int)) (nI e t) (els p (wM p kk s e word D t)))
        rw [coefL_length] at h1
        have := nI_le he t
        omega
      obtain ⟨h3, hB9⟩ := H2.out.done hb9 hoL (by have := H2.out.ms.size; omega)
      have y1 := (hB9.cell 1).trans (show _ = some (.slice none 0 0) from rfl)
      have y2 := hB9.frozen 1
      obtain ⟨w10, hw10⟩ : ∃ w10, w10 = w9.setCell ⟨w.heap.size + 1 + 1, 1, none⟩ (.slice AL nL cL) := ⟨_, rfl⟩
      rw [← hw10] at h3
      have HW10 := Lib.hid hw10
      have H3 := Lib.hid h3
      have HLL := Lib.hid (And.intro hlL (And.intro hLi hLn))
      have HTK := Lib.hid (rstep_any p kk HK.out 3 ⟨by decide, by decide⟩ m _ AL nL cL _ hlL hLi (by omega) w10 h3.chn (sl_of h3.last))
      clear h3 hB9 hoL hb9 hlL hcL hmL hsL hlast hLi hLn hw10 b0 b1 b2 b3
      go_upto_region 15 with (fail)
      rw [← HW10.out]
      have f1 := (H3.out.out.cell 1).trans (show _ = some (.slice AL nL cL) from rfl)
      clear y1 y2
      go_wp2_with fail
      refine HTK.out.mono ?_
      rintro _ w11 ⟨⟨r5, rfl⟩, hC11, hg11, _⟩
      have h4 := H3.out.chain hC11 hg11
      have H4 := Lib.hid h4
      have hB14 : Blk w11 (w.heap.size + 1 + 1 + 1) 30 (RDA p s e 0) := (h4.gm.block _ HHD3.out.fst.lt (by have := HMW.out; omega) (by omega)).trans HHD3.out.fst
      have b0 := (hB14.cell 0).trans (show _ = some (vi (p : Int)) from rfl)
      have b1 := (hB14.cell 1).trans (show _ = some (vi ((nI e 0 : Nat) : Int)) from rfl)
      have b2 := (hB14.cell 2).trans (show _ = some (vi (fv (sqI s 0))) from rfl)
      have b3 := (hB14.cell 3).trans (show _ = some (vi (fv (rootI p ((nI e 0 : Nat) : Int)))) from rfl)
      have HDR := Lib.hid (rplaces_any p kk HK.out m _ (nI e 0) (nI e 1) (nI_step (by have := HT16.out; omega)) (nI_pos _ _) (nI_le he 1) (fv (sqI s 0)) (fv (rootI p ((nI e 0 : Nat) : Int))) a (by have := HAA.out.2; omega) w11 h4.chn)
      clear h4 hC11 hg11 f1 hB14
      go_wp2_with fail
      refine HDR.out.mono ?_
      rintro _ w12 ⟨vP, rfl, hoP, hC12, hg12⟩
      have hpl : placesL p kk (digL p kk (3 :: (dM p kk s e word D t ++ lastM p kk s e word D t))) ((nI e 1 : Nat) : Int) a = plM p kk s e word D t a := rfl
      rw [hpl] at hoP
      have h5 := (H4.out.chain hC12 hg12).withPl (hoP.more H4.out.size)
      obtain ⟨AP, nP, cP, rfl, hlP, hcP, hmP, hsP⟩ := hoP.shapeN
      have eP : nP = a := by rw [← hlP]; exact placesL_len _ _ _ _ _
      subst eP
      have HPL := Lib.hid hlP
      have HPN : Hid (∀ x ∈ plM p kk s e word D t nP, 0 ≤ x) := Lib.hid fun x hx => (placesL_in p kk _ _ _ (by have := nI_pos e 1; omega) x hx).1
      obtain ⟨A1, c1, hv1⟩ := row_form h5.tabs.own
      subst hv1
      have H5 := Lib.hid h5
      clear h5 hoP hC12 hg12 hpl hlP hcP hmP hsP b0 b1 b2 b3
      go_wp2
      go_loopw [19] (fun i wq => ∃ (u : Nat) (vO : Value) (xo : List Value), u ≤ t ∧ i = vi u ∧ RPh2 W3 (w.heap.size + 1 + 1) m W2.heap.size (p : Int) (fun t => rowsL (fvs (els p (wM p kk s e word D t))) (nI e (t + 1))) (rM p kk s e word D) t (lastM p kk s e word D t) (iterP p kk (digL p kk (3 :: (dM p kk s e word D t ++ lastM p kk s e word D t))) nP) (.slice A1 t c1) v2 (.slice AL nL cL) vO (.slice AP nP cP) xs us (plM p kk s e word D t nP) wq ∧ CopS W2.heap.size wq vO u xo (opM p kk s e word D (plM p kk s e word D t nP))) (fun i _ => t - (intOf i).toNat)
      case atStart => exact ⟨0, _, [], Nat.zero_le _, rfl, H5.out, CopS.nil _ _ _⟩
      case round =>
        obtain ⟨u, vO, xo, hu, rfl, h6, hc6⟩ := hrel
        have H6 := Lib.hid h6
        have HC6 := Lib.hid hc6
        by_cases hut : u < t
        · obtain ⟨A, n, cT, ut, e1, hoT, hrT, _⟩ := h6.tabs.at_ u hut
          obtain ⟨ad, rfl, k1⟩ : ∃ ad, A1 = some ad ∧ wr.cell? (ad.add u) = some (.slice A n cT) := by
            rcases h6.tabs.own.2 with ⟨e0, h0⟩ | ⟨g, cap, cur, e0, _⟩
            · omega
            · injection e0 with e0 _ _
              subst e0
              exact ⟨_, rfl, World.ownsRow.cells h6.tabs.own (g := g) rfl _ _ e1⟩
          obtain ⟨A', n', c', e2, hun, hnc⟩ := ownR_shape hoT
          injection e2 with e2 e3 e4
          subst e2 e3 e4
          have en : n = nI e (u + 1) := by rw [← hun, hrT.1, rowsL_len]
          subst en
          have i1 : (0 : Int) ≤ (u : Int) := by omega
          have i2 : (u : Int) < (t : Int) := by omega
          have hwt : IntKind.i64.wrap ((u : Int) + 1) = (u : Int) + 1 := step_wrap (by have := HT16.out; omega)
          have HMO := Lib.hid (rmodulo5_any AP nP cP (plM p kk s e word D t nP) HPL.out HPN.out (by have := HAA.out.2; omega) (nI e (u + 1)) (nI_pos _ _) (nI_le he _) wr (sl_of h6.pl))
          have HTAB := Lib.hid (And.intro hoT hrT)
          have HNC := Lib.hid hnc
          have HUT := Lib.hid hut
          have HWLU := Lib.hid (wM_len (p := p) (k := kk) (s := s) (D := D) HLW.out u)
          clear h6 hc6 hoT hrT e1 hun hnc hut hu
          go_wp2_with fail
          refine HMO.out.mono ?_
          rintro _ w13 ⟨vM, rfl, hoM, hb13⟩
          obtain ⟨AM, nM, cM, rfl, hlM, _, _, hsM⟩ := hoM.shapeN
          have h7 := H6.out.below hb13
          have hnM : nM ≤ nP := by
            rw [← hlM]
            have h1 := onceL_length (modL (plM p kk s e word D t nP) (nI e (u + 1)))
            rw [modL_len, HPL.out] at h1
            exact h1
          have hd7 : Blk w13 w.heap.size 30 (RDA p s e t) := (h7.gm.block _ (by have := HHD3.out.res.lt; omega) (by have := HMW.out; omega) (by omega)).trans H2.out.dw
          have hri : ∀ x ∈ fvs (els p (wM p kk s e word D u)), I64 x := fun x hx => by
            obtain ⟨y, _, rfl⟩ := List.mem_map.1 hx
            exact i64_fv _ hqm
          have hin : ∀ x ∈ onceL (modL (plM p kk s e word D t nP) (nI e (u + 1))), 0 ≤ x ∧ x < ((nI e (u + 1) : Nat) : Int) := fun x hx => modL_in _ (nI_pos e (u + 1)) x ((mem_onceL x _).1 hx)
          have HOP : Hid (∀ W', Below w13.heap.size w13 W' → Calls Tryz.prog 64 #[vi (p : Int), .slice A (nI e (u + 1)) cT, .slice AM nM cM] W' (OpenedUp (opM p kk s e word D (plM p kk s e word D t nP) u).l (opM p kk s e word D (plM p kk s e word D t nP) u).rs (opM p kk s e word D (plM p kk s e word D t nP) u).ns W')) := Lib.hid fun W' hb => by
            have h1 := ropen_any p kk HK.out A (nI e (u + 1)) cT (rowsL (fvs (els p (wM p kk s e word D u))) (nI e (u + 1))) (rowsL_len _ _) (nI_pos _ _) (nI_le he _) HNC.out (fun l hl => by rw [rowsL_two _ _ l hl]; decide) AM nM cM (onceL (modL (plM p kk s e word D t nP) (nI e (u + 1)))) hlM (fun x hx => by have := hin x hx; have := nI_le he (u + 1); constructor <;> omega) (by have := HAA.out.2; omega) hin W' (hsM.below hb) (tb_own ((HTAB.out.1.below hb13).below hb) ((HTAB.out.2.below hb13).below hb) (rowsL_i64 hri _))
            rw [onceL_asc (asc_onceL _)] at h1
            have hv : (wM p kk s e word D u).length = 2 * nI e (u + 1) := by rw [HWLU.out]; exact nI_step (by have := HT16.out; have := HUT.out; omega)
            have h2 : openR p (rowsL (fvs (els p (wM p kk s e word D u))) (nI e (u + 1))) (onceL (modL (plM p kk s e word D t nP) (nI e (u + 1)))) = (opM p kk s e word D (plM p kk s e word D t nP) u).rs := openR_els hv _
            have h3 : ((hidL (onceL (modL (plM p kk s e word D t nP) (nI e (u + 1)))) 0 (nI e (u + 1))).map fun g => rootD (digL p kk) (rowF (rowsL (fvs (els p (wM p kk s e word D u))) (nI e (u + 1)))) g.1 g.2) = (opM p kk s e word D (plM p kk s e word D t nP) u).ns := List.map_congr_left fun g _ => rootD_els hv _ _
            rw [h2, h3] at h1
            exact h1
          have b0 := (hd7.cell 0).trans (show _ = some (vi (p : Int)) from rfl)
          have k2 : w13.cell? (ad.add u) = some (.slice A (nI e (u + 1)) cT) := (hb13.cell (block_lt_of_cell k1)).trans k1
          have HB13 := Lib.hid hb13
          clear h7 hoM hb13 hlM hsM hnM k1 hd7 hri hin
          go_upto_region 21 with (fail)
          go_cut [21] from 81 to 88 (fun bx wx => ∃ (g : Nat) (C0 : Option Addr) (k0 d0 : Nat) (CR : Option Addr) (kR eR : Nat) (CN : Option Addr) (kN eN : Nat), bx = .pointer (some ⟨g, 0, none⟩) ∧ Blk wx g 70 #[.slice C0 k0 d0, .slice CR kR eR, .slice CN kN eN] ∧ Below w13.heap.size w13 wx ∧ ∀ W', Safe wx W' → OpnAt W' C0 k0 d0 (opM p kk s e word D (plM p kk s e word D t nP) u).l CR kR eR (opM p kk s e word D (plM p kk s e word D t nP) u).rs CN kN eN (opM p kk s e word D (plM p kk s e word D t nP) u).ns)
          case first =>
            have k3 := (World.cell?_alloc_lt w13 (.cells #[.slice none 0 0, .slice none 0 0, .slice none 0 0] 70) _ (block_lt_of_cell k2)).trans k2
            have b0b := (World.cell?_alloc_lt w13 (.cells #[.slice none 0 0, .slice none 0 0, .slice none 0 0] 70) _ (block_lt_of_cell b0)).trans b0
            go_region_law (first
              | (go_simp; go_at_call 64; refine (HOP.out _ (bz0 w13)).mono ?_; rintro _ w14 ⟨C0, k0, d0, CR, kR, eR, CN, kN, eN, rfl, hop0, hb14, hop⟩; have hb15 := (bz0 w13).trans (hb14.mono (bz0 w13).size); have hnx := nils_new w14)
              | (go_simp; go_at_call 64; refine (HOP.out _ (bz1 w13 (.cells #[.slice none 0 0, .slice none 0 0, .slice none 0 0] 70))).mono ?_; rintro _ w14 ⟨C0, k0, d0, CR, kR, eR, CN, kN, eN, rfl, hop0, hb14, hop⟩; have hb15 := (bz1 w13 (.cells #[.slice none 0 0, .slice none 0 0, .slice none 0 0] 70)).trans (hb14.mono (bz1 w13 (.cells #[.slice none 0 0, .slice none 0 0, .slice none 0 0] 70)).size); have hnx : Blk w14 w13.heap.size 70 #[.slice none 0 0, .slice none 0 0, .slice none 0 0] := Blk.below (show Blk _ _ _ _ from Blk.new w13.drew 70 #[.slice none 0 0, .slice none 0 0, .slice none 0 0]) hb14 (by simp); have n0 := (hnx.cell 0).trans (show _ = some (.slice none 0 0) from rfl); have n1 := (hnx.cell 1).trans (show _ = some (.slice none 0 0) from rfl); have n2 := (hnx.cell 2).trans (show _ = some (.slice none 0 0) from rfl); have f0 := hnx.frozen 0; have f1 := hnx.frozen 1; have f2 := hnx.frozen 2))
            all_goals go_wp2_with fail
            all_goals go_meet
            all_goals first
              | exact ⟨w14.heap.size, C0, k0, d0, CR, kR, eR, CN, kN, eN, rfl, Blk.new w14 _ _, hb15.alloc hb15.size _, fun W' hs => hop W' ((Safe.of ((Below.refl _ _).alloc (Nat.le_refl _) _)).trans hs)⟩
              | exact ⟨w13.heap.size, C0, k0, d0, CR, kR, eR, CN, kN, eN, rfl, (blk_set3 hnx _ _ _).1, hb15.grown (blk_set3 hnx _ _ _).2 hb15.size (fun x hx => by injection hx with hx; omega), fun W' hs => hop W' ((Safe.one (blk_set3 hnx _ _ _).2 hnx (by decide)).trans hs)⟩
          case rest =>
            obtain ⟨g, C0, k0, d0, CR, kR, eR, CN, kN, eN, rfl, hBx, hb1x, hopx⟩ := hcut
            obtain ⟨w15, hw15⟩ : ∃ w15, w15 = wc := ⟨_, rfl⟩
            subst hw15
            have x0 := (hBx.cell 0).trans (show _ = some (.slice C0 k0 d0) from rfl)
            have x1 := (hBx.cell 1).trans (show _ = some (.slice CR kR eR) from rfl)
            have x2 := (hBx.cell 2).trans (show _ = some (.slice CN kN eN) from rfl)
            have hb15 := HB13.out.trans (hb1x.mono HB13.out.size)
            have h8 := H6.out.below hb15
            have hc8 := HC6.out.safeO (SafeO.of hb15)
            have f2 := (h8.out.cell 2).trans (show _ = some vO from rfl)
            have HOPX := Lib.hid hopx
            have H8 := Lib.hid h8
            have HC8 := Lib.hid hc8
            have HTB : Hid (u + 1 ≤ maxLen ∧ (u + 1) * 72 ≤ 140737488355328) := Lib.hid (by have := HT16.out; have := HUT.out; simp only [maxLen]; omega)
            clear hopx hb1x hBx hb15 h8 hc8 b0 k2
            go_wp2_with (at_builtin; refine wpList_appS 24 70 _ 3 72 Tryz.underlying24 info_opn (by rfl) (by omega) w15 _ [.slice C0 k0 d0, .slice CR kR eR, .slice CN kN eN] (by rfl) (by rfl) (by simp [Value.oneCell']) (by rfl) _ _ (by rfl) W2.heap.size vO u xo (by rfl) (by rfl) HC8.out.own HTB.out.1 HTB.out.2 H8.out.size ?_; intro v' w3 p1 p2 p3; have hB2 := (H8.out.app (Nat.le_refl _) HC8.out.own p2 (vO' := v')).2.1; have y1 := (hB2.cell 2).trans (show _ = some vO from rfl); have y2 := hB2.frozen 2; obtain ⟨A9, c9, hv9⟩ := row_form p1; subst hv9)
            obtain ⟨h9, hB9, hs9, hg9⟩ := H8.out.app (Nat.le_refl _) HC8.out.own p2 (vO' := .slice A9 (u + 1) c9)
            obtain ⟨hc9, hsf⟩ := HC8.out.app HOPX.out p1 p2
            have hcn := hc9.safeO (SafeO.one hg9 hB9 (by decide) (by decide))
            refine ⟨⟨u + 1, _, _, Nat.succ_le_of_lt HUT.out, by go_num, h9, hcn⟩, ?_⟩
            have := HUT.out
            simp [intOf]
            omega
        · obtain rfl : u = t := by omega
          have eb := h6.hbs
          rw [eb] at h6 hc6
          obtain ⟨AO, cO, hv⟩ := row_form h6.rt.own
          subst hv
          obtain ⟨AQ, cQ, hv⟩ := row_form hc6.own
          subst hv
          obtain ⟨q2, q3, q4⟩ := rmk_fin hqm HHD3.out.bel (Nat.lt_of_lt_of_le (Nat.lt_succ_self _) (Nat.le_succ _)) HMW.out (by have := HT16.out; omega) (by have := HLL.out; omega) h6 hc6 HHD3.out.res (by omega) (Nat.le_succ _)
          have o0 := (h6.out.cell 0).trans (show _ = some (.slice AO us.length cO) from rfl)
          have o1 := (h6.out.cell 1).trans (show _ = some (.slice AL nL cL) from rfl)
          have o2 := (h6.out.cell 2).trans (show _ = some (.slice AQ u cQ) from rfl)
          have x0 := (q2.cell 0).trans (show _ = some (Value.slice none 0 0) from rfl)
          have x1 := (q2.cell 1).trans (show _ = some (Value.slice none 0 0) from rfl)
          have x2 := (q2.cell 2).trans (show _ = some (Value.slice none 0 0) from rfl)
          have f0 := q2.frozen 0
          have f1 := q2.frozen 1
          have f2 := q2.frozen 2
          have y0 := (q3.cell 0).trans (show _ = some (Value.slice AO us.length cO) from rfl)
          have y1 := (q3.cell 1).trans (show _ = some (Value.slice AL nL cL) from rfl)
          have y2 := (q3.cell 2).trans (show _ = some (Value.slice AQ u cQ) from rfl)
          have HQ := Lib.hid q4
          clear q2 q3 q4 h6 hc6 eb hut hu
          go_wp2
          exact bodyPost_ret (v := .tuple #[.agg #[.slice AO us.length cO, .slice AL nL cL, .slice AQ u cQ], .slice AP nP cP]) (by simp [results, Tryz.results17, go_sem, y0, y1, y2]) rfl (HET.out ▸ HQ.out)
end Go.Proofs.YtflkiddmakeabaaGreatDoor

/- The law FoldMakes, ahead of its walk: what both Makes come to. -/
set_option linter.unusedVariables false
namespace Go.Proofs.YtflkiddmakeabaaGreatDoor
open Go.RowKit Zp
/-- what the program's Make leaves -/
def MkQ (E : Int) (f : FldI) (pl D' : List Int) (c sg : Nat) (w : World) (ee : Ending) (w' : World) : Prop :=
  ∃ (AR : Option Addr) (nR cR : Nat) (AL : Option Addr) (nL cL : Nat) (AO : Option Addr) (nO cO : Nat) (A : Option Addr) (n d : Nat), ee = .returned (.tuple #[.agg #[.slice AR nR cR, .slice AL nL cL, .slice AO nO cO], .slice A n d, errV E]) ∧
    (∀ w'', SafeO w' w'' → FAt w'' AR nR cR AL nL cL AO nO cO f) ∧ Own w' w.heap.size (.slice A n d) pl ∧ Chn w' c sg D' ∧ w.grownBy w' (some c)
/-- what the document's Make leaves -/
def RMkQ (f : FldI) (pl D' : List Int) (m : Nat) (q : Int) (w : World) (ee : Ending) (w' : World) : Prop :=
  ∃ (AR : Option Addr) (nR cR : Nat) (AL : Option Addr) (nL cL : Nat) (AO : Option Addr) (nO cO : Nat) (A : Option Addr) (n d : Nat), ee = .returned (.tuple #[.agg #[.slice AR nR cR, .slice AL nL cL, .slice AO nO cO], .slice A n d]) ∧
    (∀ w'', SafeO w' w'' → FAt w'' AR nR cR AL nL cL AO nO cO f) ∧ Own w' w.heap.size (.slice A n d) pl ∧ RCh w' m q D' ∧ w.grownBy w' (some m)
def fld0 : FldI := ⟨[], [], []⟩
theorem fat_zero (w : World) : FAt w none 0 0 none 0 0 none 0 0 fld0 :=
  ⟨rfl, rfl, rfl, by omega, by omega, by omega, fun x hx => (by cases hx), fun x hx => (by cases hx), fun k hk => absurd hk (Nat.not_lt_zero _), SL.nil, fun k hk => absurd hk (Nat.not_lt_zero _)⟩
theorem MkNo.q {E : Int} (hE : E ≠ 0) {D : List Int} {c sg : Nat} {w w' : World} {ee : Ending} (h : MkNo E w ee w') (hC : Chn w c sg D) : MkQ E fld0 [] D c sg w ee w' :=
  ⟨none, 0, 0, none, 0, 0, none, 0, 0, none, 0, 0, by rw [errV_ne hE]; exact h.1, fun w'' _ => fat_zero w'', World.ownsRow_nil _ _ _ _, hC.below h.2, grown_of_below0 h.2 _⟩
def MkAll (q kk : Nat) [NeZero q] (n : Nat) (s : Fin q) (k asked : Int) (word D : List Int) (E : Int) (f : FldI) (pl D' : List Int) : Prop :=
  ∀ (S1 b1 sg z : Nat) (oo : Nat → Nat → Fin q) (c Dd b2 S2 : Nat) (AW : Option Addr) (mW cW base : Nat) (w : World), Fld w S1 b1 q → Spg w sg b1 kk z oo → S1 ≤ c → sg < c → Chn w c sg D → Dom w S2 Dd b2 q n s → S2 ≤ c → word.length = mW → Own w base (.slice AW mW cW) word →
    Calls Tryz.prog 13 #[.pointer (some ⟨sg, 0, none⟩), .pointer (some ⟨c, 0, none⟩), .pointer (some ⟨Dd, 0, none⟩), vi k, .slice AW mW cW, vi asked] w (MkQ E f pl D' c sg w)
def RMkAll (q : Nat) [NeZero q] (n : Nat) (s : Fin q) (k asked : Int) (word D : List Int) (f : FldI) (pl D' : List Int) : Prop :=
  ∀ (m : Nat) (AW : Option Addr) (cW : Nat) (w : World), RCh w m q D → SL w AW word → (∀ ad, AW = some ad → ad.block ≠ m) →
    Calls Tryz.prog 17 #[.pointer (some ⟨m, 0, none⟩), RDom q n (fv s) (fv (rootI q (n : Int))), vi k, .slice AW n cW, vi asked] w (RMkQ f pl D' m q w)
theorem fault_cases (n : Nat) (k asked : Int) : (fmayB n k asked = true ∧ faultF n k asked = 0) ∨ (fmayB n k asked = false ∧ faultF n k asked = 2) := by
  unfold faultF
  cases h : fmayB n k asked
  · exact .inr ⟨rfl, by simp⟩
  · exact .inl ⟨rfl, by simp⟩
set_option maxHeartbeats 1000000 in
theorem makes5_both (q kk : Nat) [NeZero q] (K : Pk q kk) (n : Nat) (hsz : SizeOk q n) (s : Fin q) (k asked : Int) (hk : I64 k) (word : List Int) (hiw : ∀ x ∈ word, I64 x) (D : List Int) : ∃ E f pl D', MkAll q kk n s k asked word D E f pl D' ∧ pl.length ≤ 65536 ∧
    ((word.length ≠ n ∧ E = 2 ∧ f = fld0 ∧ pl = [] ∧ D' = D) ∨ (word.length = n ∧ faultF n k asked = 2 ∧ E = 2 ∧ f = fld0 ∧ pl = [] ∧ D' = D) ∨ (word.length = n ∧ faultF n k asked = 0 ∧ cwB q n s k word = false ∧ E = 3 ∧ f = fld0 ∧ pl = [] ∧ D' = D) ∨
      (word.length = n ∧ faultF n k asked = 0 ∧ cwB q n s k word = true ∧ E = 0 ∧ RMkAll q n s k asked word D f pl D')) := by
  by_cases hlen : word.length = n
  · rcases fault_cases n k asked with ⟨hmay, hf⟩ | ⟨hmay, hf⟩
    · cases hcw : cwB q n s k word with
      | false =>
        refine ⟨3, fld0, [], D, ?_, by simp, .inr (.inr (.inl ⟨hlen, hf, rfl, rfl, rfl, rfl, rfl⟩))⟩
        intro S1 b1 sg z oo c Dd b2 S2 AW mW cW base w F G hS1 hsc hC hd hS2 hl ho
        obtain rfl : mW = n := by omega
        exact (fmake_no3 q c sg Dd b2 S2 mW s k asked hk hsz.le AW cW word hlen hiw hmay hcw w hd (sl_of ho)).mono fun ee w' h => h.q (by decide) hC
      | true =>
        obtain ⟨e, j, a, he, rfl, rfl, hje, rfl, ha1, ha2⟩ := may_split hsz hmay
        refine ⟨0, fldM q kk s e word D (rndK j) (plM q kk s e word D (rndK j) a), plM q kk s e word D (rndK j) a, iterP q kk (dLM q kk s e word D (rndK j)) a, ?_, by unfold plM; rw [placesL_len]; omega, .inr (.inr (.inr ⟨hlen, hf, rfl, rfl, ?_⟩))⟩
        · intro S1 b1 sg z oo c Dd b2 S2 AW mW cW base w F G hS1 hsc hC hd hS2 hl ho
          obtain rfl : mW = nI e 0 := by omega
          refine (fmake_yes q S1 b1 sg kk z oo c D Dd b2 S2 s e j he hje (by omega) a ha1 ha2 hmay word AW cW hlen hiw hcw w F G hS1 hsc hC hd hS2 (sl_of ho) (fun ad e => row_blk ho (by rw [e]; rfl))).mono fun ee w' h => ?_
          obtain ⟨AR, nR, AL, nL, cL, AO, nO, v, h1, h2, _, h3, h4, h5⟩ := h
          obtain ⟨A, m, d, rfl, _⟩ := h3.shapeN
          exact ⟨AR, nR, nR, AL, nL, cL, AO, nO, nO, A, m, d, h1, h2, h3, h4, h5⟩
        · intro m AW cW w hm hs hb
          refine (rmake_yes q kk K m D s e j he hsz hje (by omega) a ha1 ha2 word AW cW hlen hiw w hm hs hb).mono fun ee w' h => ?_
          obtain ⟨AR, nR, cR, AL, nL, cL, AO, nO, cO, v, h1, h2, h3, h4, h5⟩ := h
          obtain ⟨A, m, d, rfl, _⟩ := h3.shapeN
          exact ⟨AR, nR, cR, AL, nL, cL, AO, nO, cO, A, m, d, h1, h2, h3, h4, h5⟩
    · refine ⟨2, fld0, [], D, ?_, by simp, .inr (.inl ⟨hlen, hf, rfl, rfl, rfl, rfl⟩)⟩
      intro S1 b1 sg z oo c Dd b2 S2 AW mW cW base w F G hS1 hsc hC hd hS2 hl ho
      exact (fmake_no1 c sg Dd n k asked hk hsz.le AW mW cW hmay w hd.c1).mono fun ee w' h => h.q (by decide) hC
  · refine ⟨2, fld0, [], D, ?_, by simp, .inl ⟨hlen, rfl, rfl, rfl, rfl⟩⟩
    intro S1 b1 sg z oo c Dd b2 S2 AW mW cW base w F G hS1 hsc hC hd hS2 hl ho
    rcases fault_cases n k asked with ⟨hmay, hf⟩ | ⟨hmay, hf⟩
    · exact (fmake_no2 c sg Dd n k asked hk hsz.le AW mW cW hmay (by omega) w hd.c1).mono fun ee w' h => h.q (by decide) hC
    · exact (fmake_no1 c sg Dd n k asked hk hsz.le AW mW cW hmay w hd.c1).mono fun ee w' h => h.q (by decide) hC
end Go.Proofs.YtflkiddmakeabaaGreatDoor
