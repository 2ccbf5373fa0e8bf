/- A bundle of texts: Mf5, Mf6, Tk, Sf, Lv5, LawP1. -/
import Derived.Test.YtonalbdehcmjmaaGreatQ11
import Derived.Test.YtonalbdehcmjmaaGreatQ05
import Derived.Test.YtonalbdehcmjmaaGreatQ07
import Derived.Test.YtonalbdehcmjmaaGreatQ10
import Derived.Test.YtonalbdehcmjmaaGreatQ08
import Derived.Test.YtonalbdehcmjmaaGreatQ06
import Derived.Test.YtonalbdehcmjmaaGreatQ09
import Derived.Test.YtonalbdehcmjmaaGreatQ00
import Derived.Test.YtonalbdehcmjmaaGreatQ04
/- The walk of fold.Make. -/
set_option linter.unusedVariables false
namespace Go.Proofs.YtonalbdehcmjmaaGreat
open Go.RowKit Zp
set_option maxRecDepth 100000 in
set_option maxHeartbeats 4000000 in
theorem fmake_yes (p : Nat) [NeZero p] (S1 b1 sg kk z : Nat) (oo : Nat → Nat → Fin p) (c : Nat) (D : List Int) (Dd b2 S2 : Nat) (s : Fin p) (e j : Nat) (he : e ≤ 16) (hje : j + 1 ≤ e) (hj16 : j ≤ 16) (a : Nat) (ha1 : 1 ≤ a) (ha2 : a ≤ 64) (hmay : fmayB (nI e 0) ((nI j 0 : Nat) : Int) (a : Int) = true)
    (word : List Int) (AW : Option Addr) (cW : Nat) (hlw : word.length = nI e 0) (hiw : ∀ x ∈ word, I64 x) (hcw : cwB p (nI e 0) (sqI s 0) ((nI j 0 : Nat) : Int) word = true)
    (w : World) (F : Fld w S1 b1 p) (G : Spg w sg b1 kk z oo) (hS1 : S1 ≤ c) (hsc : sg < c) (hC : Chn w c sg D) (hd : Dom w S2 Dd b2 p (nI e 0) (sqI s 0)) (hS2 : S2 ≤ c) (hsW : SL w AW word) (hbW : ∀ ad, AW = some ad → ∃ cs, Blk w ad.block 3 cs) :
    Calls Tryz.prog 9 #[.pointer (some ⟨sg, 0, none⟩), .pointer (some ⟨c, 0, none⟩), .pointer (some ⟨Dd, 0, none⟩), vi ((nI j 0 : Nat) : Int), .slice AW (nI e 0) cW, vi (a : Int)] w (MkIs p kk c sg s e (rndK j) word D a w) := by
  have hd1 := hd.c1
  obtain ⟨W0, hW0⟩ : ∃ W0, W0 = w.alloc (.cells #[.slice none 0 0, .slice none 0 0, .slice none 0 0] 40) := ⟨_, rfl⟩
  have hb0 := below_of_eq hW0
  have hB0 : Blk W0 w.heap.size 40 #[.slice none 0 0, .slice none 0 0, .slice none 0 0] := by rw [hW0]; exact Blk.new _ _ _
  have hd10 := (hb0.cell (p := ⟨Dd, 1, none⟩) (block_lt_of_cell hd1)).trans hd1
  have hf := fmay_any Dd (nI e 0) ((nI j 0 : Nat) : Int) (a : Int) (by have := nI_le hj16 0; constructor <;> omega) (nI_le he 0) W0 hd10
  rw [hmay] at hf
  have his := is_any p S2 Dd b2 (nI e 0) (sqI s 0) ((nI j 0 : Nat) : Int) AW (nI e 0) cW word hlw hiw W0 (hd.below hb0 hd.fld.le) (hsW.below hb0)
  rw [hcw] at his
  have HSZ := Lib.hid (fun W hc => size_any Dd (nI e 0) W hc)
  have HMAY := Lib.hid hf
  have HIS := Lib.hid his
  have HD10 := Lib.hid hd10
  have HW0 := Lib.hid hW0
  have HB0 := Lib.hid hb0
  have HBR := Lib.hid hB0
  have HFS := Lib.hid F
  have HGS := Lib.hid G
  have HCS := Lib.hid hC
  have HD := Lib.hid hd
  have HAA := Lib.hid (And.intro ha1 ha2)
  have HSS := Lib.hid (And.intro hS1 (And.intro hsc hS2))
  have HSW := Lib.hid hsW
  have HBW := Lib.hid hbW
  have HLW := Lib.hid hlw
  have HIW := Lib.hid hiw
  have HWZ : Hid (W0.heap.size = w.heap.size + 1) := Lib.hid (by rw [hW0]; simp)
  have t0 : (((nI e 0 : Nat) : Int) != ((nI e 0 : Nat) : Int)) = false := by simp
  clear hf his hW0 hb0 hB0 hd1 hd10 hmay hcw F G hC hd ha1 ha2 hS1 hsc hS2 hsW hbW hlw hiw
  go_enter Tryz.func9, Tryz.ntmps9
  go_upto_region 1 with (fail)
  rw [← HW0.out]
  go_wp2_with fail
  refine HMAY.out.mono ?_
  rintro _ _ ⟨rfl, rfl⟩
  go_wp2_with fail
  refine (HSZ.out _ HD10.out).mono ?_
  rintro _ _ ⟨rfl, rfl⟩
  go_wp2_with fail
  refine HIS.out.mono ?_
  rintro _ w1 ⟨rfl, hb1⟩
  obtain ⟨W2, hW2⟩ : ∃ W2, W2 = w1.alloc (.cells #[.slice none 0 0, .slice none 0 0, .slice none 0 0] 40) := ⟨_, rfl⟩
  have hb2 : Below w1.heap.size w1 W2 := by rw [hW2]; exact (Below.refl _ _).alloc (Nat.le_refl _) _
  have hB2 : Blk W2 w1.heap.size 40 #[.slice none 0 0, .slice none 0 0, .slice none 0 0] := by rw [hW2]; exact Blk.new _ _ _
  have hb02 := HB0.out.trans ((hb1.trans (hb2.mono hb1.size)).mono HB0.out.size)
  have hBR2 := Blk.below (Blk.below HBR.out hb1 HBR.out.lt) hb2 (Blk.below HBR.out hb1 HBR.out.lt).lt
  have HW2 := Lib.hid hW2
  have HB2 := Lib.hid hB2
  have HB02 := Lib.hid hb02
  have HBR2 := Lib.hid hBR2
  have HOB : Hid (w.heap.size < w1.heap.size) := Lib.hid (by have := hb1.size; have := HWZ.out; omega)
  have HCW : Hid (c < w.heap.size) := Lib.hid HCS.out.lt
  have hd2 := (HD.out.below hb02 HD.out.fld.le).upS (Nat.le_trans HD.out.fld.le hb02.size) (Nat.le_refl _)
  have hms : MS W2 w1.heap.size c W2.heap.size (fun t => rowsL (wM p kk s e word D t) (nI e (t + 1))) (rM p kk s e word D) (wM p kk s e word D 0) W2 0 0 AW (.slice none 0 0) (.slice none 0 0) (.slice none 0 0) [] [] :=
    ⟨HSW.out.below hb02, fun ad had => by obtain ⟨cs, hcs⟩ := HBW.out ad had; exact ⟨cs, hcs.below hb02 hcs.lt⟩, Tabs.nil _ _ _ _, RT.nil _ _, hB2, GrowM.refl _ _ _, hB2.lt, Nat.lt_of_lt_of_le HCW.out hb02.size, rfl⟩
  have h0 : Two2 W2 w1.heap.size c W2.heap.size sg b2 Dd (nI e 0) (sqI s 0) (fun t => rowsL (wM p kk s e word D t) (nI e (t + 1))) (rM p kk s e word D) (wM p kk s e word D 0) (dM p kk s e word D 0) 0 AW (.slice none 0 0) (.slice none 0 0) [] [] W2 :=
    ⟨hms, HCS.out.below hb02, hd2, fun g hg => by simp [Value.ownBlock] at hg, fun g hg => by simp [Value.ownBlock] at hg⟩
  have H0 := Lib.hid h0
  have HFD2 := Lib.hid (HD.out.fld.below hb02 HD.out.fld.le)
  have HF2 := Lib.hid (HFS.out.below hb02 HFS.out.le)
  have HG2 := Lib.hid (HGS.out.below hb02 (block_lt_of_cell HGS.out.c0))
  clear h0 hms hd2 hb02 hBR2 hB2 hW2 hb1 hb2 t0
  go_upto_region 6 with (fail)
  rw [← HW2.out]
  go_wp2
  go_loopw [3, 4, 16, 17] (fun kv wd tb at_ wr => ∃ (t : Nat) (AV : Option Addr) (cV Dt : Nat) (v1 v2 : Value) (xs us : List Value), t ≤ rndK j ∧ kv = vi ((nI j t : Nat) : Int) ∧ wd = .slice AV (nI e t) cV ∧ v1 = tb ∧ at_ = .pointer (some ⟨Dt, 0, none⟩) ∧ Two2 W2 w1.heap.size c W2.heap.size sg b2 Dt (nI e t) (sqI s t) (fun t => rowsL (wM p kk s e word D t) (nI e (t + 1))) (rM p kk s e word D) (wM p kk s e word D t) (dM p kk s e word D t) t AV v1 v2 xs us wr) (fun kv _ _ _ _ => (intOf kv).toNat)
  case atStart => exact ⟨0, AW, cW, Dd, _, _, _, _, Nat.zero_le _, rfl, rfl, rfl, rfl, H0.out⟩
  case round =>
    obtain ⟨t, AV, cV, Dt, v1, v2, xs, us, ht, rfl, rfl, rfl, rfl, h2⟩ := hrel
    by_cases hlt : t < rndK j
    · have htj : t < j := by unfold rndK at hlt; omega
      have hte : t < e := by omega
      have t1 : decide ((4 : Int) < ((nI j t : Nat) : Int)) = true := decide_eq_true (by have := four_lt.2 hlt; omega)
      have hst : nI j t = 2 * nI j (t + 1) := nI_step htj
      have hpos := nI_pos j (t + 1)
      have hq : wrap64 (((nI j t : Nat) : Int) / 2) = ((nI j (t + 1) : Nat) : Int) := half_wrap hst (nI_le hj16 t)
      have HMS : Hid (nI j (t + 1) < nI j t) := Lib.hid (by omega)
      have H2 := Lib.hid h2
      have HLT := Lib.hid hlt
      have HTE := Lib.hid hte
      have HT64 : Hid (t ≤ 16) := Lib.hid (by omega)
      have HWL := Lib.hid (wM_len (p := p) (k := kk) (s := s) (D := D) HLW.out t)
      have HWI := Lib.hid (wM_i64 (k := kk) (s := s) (e := e) (D := D) HFS.out.max HIW.out t)
      have HROW := Lib.hid (frows_any AV cV (nI e t) (nI e (t + 1)) (nI_step hte) (nI_le he t) (wM p kk s e word D t) HWL.out wr h2.ms.sl)
      clear hst hpos h2 hlt hte htj
      go_wp2_with fail
      refine HROW.out.mono ?_
      rintro _ wa ⟨vl, ua, rfl, hor, hrr, hba⟩
      obtain ⟨A1, n1, c1, rfl, hun, hnc⟩ := ownR_shape hor
      have e1 : n1 = nI e (t + 1) := by rw [← hun, hrr.1, rowsL_len]
      subst e1
      have HBA := Lib.hid hba
      have hBC := (H2.out.below hba).gmB (Nat.lt_trans HCW.out HOB.out)
      have HRT := Lib.hid (tRoot_yes p S1 b1 sg kk z oo A1 (nI e (t + 1)) c1 (rowsL (wM p kk s e word D t) (nI e (t + 1))) (rowsL_len _ _) (nI_pos _ _) (nI_le he _) (fun l hl => by rw [rowsL_two _ _ l hl]; decide) wa (HF2.out.below hBC HSS.out.1) (HG2.out.below hBC HSS.out.2.1) (tb_own hor hrr (rowsL_i64 HWI.out _)))
      have HOR := Lib.hid hor
      have HRR := Lib.hid hrr
      clear hba hBC hor hrr hun hnc
      go_wp2_with fail
      refine HRT.out.mono ?_
      rintro _ wb ⟨g, rfl, ⟨cg, hg⟩, hsr, hlr, hir, hgw, hbb⟩
      have hm2 := H2.out.ms.below (HBA.out.trans (hbb.mono HBA.out.size))
      have o0 := (hm2.out.cell 0).trans (show _ = some v2 from rfl)
      have HM := Lib.hid hm2
      have HBB := Lib.hid hbb
      have H2B := Lib.hid ((H2.out.below HBA.out).below hbb)
      have HROOT := Lib.hid (And.intro hg (And.intro (show SL wb (some ⟨g, 0, none⟩) (rM p kk s e word D t) from hsr) (And.intro (show (rM p kk s e word D t).length = 4 from hlr) (show ∀ x ∈ rM p kk s e word D t, I64 x from hir))))
      have HR1 : Hid (OwnR wb W2.heap.size (.slice A1 (nI e (t + 1)) c1) ua ∧ RowsOwn wb W2.heap.size ua (rowsL (wM p kk s e word D t) (nI e (t + 1))) ∧ ∀ g, (Value.slice A1 (nI e (t + 1)) c1).ownBlock = some g → v2.ownBlock ≠ some g) := Lib.hid
        ⟨OwnR.moreB (HOR.out.below hbb) (by have := H2.out.ms.size; omega), (HRR.out.below hbb).more (by have := H2.out.ms.size; omega), fun x hx hx2 => by
          have h1 := (World.ownsRow.lt HOR.out x hx).1
          have h2 := (World.ownsRow.lt H2.out.ms.rt.own x hx2).2
          omega⟩
      clear hm2 hbb hg hsr hlr hir hgw
      go_upto_region 14 with (fail)
      have z1 : Below wb.heap.size wb (wb.drew.alloc (.cells #[.slice A1 (nI e (t + 1)) c1] 37)) := bz1 wb _
      have z2 : Below wb.heap.size wb ((wb.drew.alloc (.cells #[.slice A1 (nI e (t + 1)) c1] 37)).alloc (.cells #[.slice (some ⟨g, 0, none⟩) 4 4] 22)) := bz2 wb _ _
      have z3 : Below wb.heap.size wb ((wb.drew.alloc (.cells #[.slice (some ⟨g, 0, none⟩) 4 4] 22)).alloc (.cells #[.slice A1 (nI e (t + 1)) c1] 37)) := bz2 wb _ _
      have y1 := HM.out.ob0 z1
      have y2 := HM.out.ob0 z2
      have y3 := HM.out.ob0 z3
      have y1d : ((wb.alloc (.cells #[.slice A1 (nI e (t + 1)) c1] 37)).drew).cell? ⟨w1.heap.size, 0, none⟩ = some v2 := y1
      have y2d : (((wb.alloc (.cells #[.slice A1 (nI e (t + 1)) c1] 37)).alloc (.cells #[.slice (some ⟨g, 0, none⟩) 4 4] 22)).drew).cell? ⟨w1.heap.size, 0, none⟩ = some v2 := y2
      have y3d : (((wb.alloc (.cells #[.slice (some ⟨g, 0, none⟩) 4 4] 22)).alloc (.cells #[.slice A1 (nI e (t + 1)) c1] 37)).drew).cell? ⟨w1.heap.size, 0, none⟩ = some v2 := y3
      have y4 : (wb.alloc (.cells #[.slice (some ⟨g, 0, none⟩) 4 4] 22)).cell? ⟨w1.heap.size, 0, none⟩ = some v2 := HM.out.ob0 ((Below.refl _ _).alloc (Nat.le_refl _) _)
      have HZ1 := Lib.hid z1
      have HZ2 := Lib.hid z2
      have HZ3 := Lib.hid z3
      have HTB : Hid (t + 1 ≤ maxLen ∧ (t + 1) * 24 ≤ 140737488355328) := Lib.hid (by have := HT64.out; simp only [maxLen]; omega)
      have HUS : Hid (us.length + 1 ≤ maxLen ∧ (us.length + 1) * 24 ≤ 140737488355328) := Lib.hid (by
        have h1 := HM.out.rt.us.1
        rw [List.length_map, List.length_range] at h1
        have := HT64.out; simp only [maxLen]; omega)
      have hN2 : Hid ((wb.drew.alloc (.cells #[.slice A1 (nI e (t + 1)) c1] 37)).heap.size = wb.heap.size + 1) := Lib.hid (by simp)
      have hN3 : Hid ((wb.drew.alloc (.cells #[.slice (some ⟨g, 0, none⟩) 4 4] 22)).heap.size = wb.heap.size + 1) := Lib.hid (by simp)
      clear z1 z2 z3
      go_cut [16] from 50 to 88 (fun tb wx => ∃ (v1' v2' : Value) (xs' us' : List Value), v1' = tb ∧ Two2 W2 w1.heap.size c W2.heap.size sg b2 Dt (nI e t) (sqI s t) (fun t => rowsL (wM p kk s e word D t) (nI e (t + 1))) (rM p kk s e word D) (wM p kk s e word D t) (dM p kk s e word D t) (t + 1) AV v1' v2' xs' us' wx ∧ SL wx (some ⟨g, 0, none⟩) (rM p kk s e word D t))
      case first =>
        go_region_law (first
          | (refine step_appSG 71 37 _ 1 24 Tryz.underlying71 info_tab (by rfl) (by omega) (wb.drew.alloc (.cells #[.slice A1 (nI e (t + 1)) c1] 37)) wb.heap.size [.slice A1 (nI e (t + 1)) c1] (by rfl) (by simp [Value.oneCell']) (by rfl) _ _ (by rfl) W2.heap.size v1 t xs (by rfl) (by rfl) (newc1 wb.drew _ _ _ (by rfl)) (HM.out.own1 HZ1.out) HTB.out.1 HTB.out.2 (HM.out.bs HZ1.out) ?_; intro v1' w3 p1 p2 p3; have x3 := HM.out.ob1 HZ1.out p2; have x3b := (World.cell?_alloc_lt w3 (.cells #[.slice (some ⟨g, 0, none⟩) 4 4] 22) _ (block_lt_of_cell x3)).trans x3; have hZA := HZ1.out)
          | (refine step_appSG 71 37 _ 1 24 Tryz.underlying71 info_tab (by rfl) (by omega) ((wb.drew.alloc (.cells #[.slice A1 (nI e (t + 1)) c1] 37)).alloc (.cells #[.slice (some ⟨g, 0, none⟩) 4 4] 22)) wb.heap.size [.slice A1 (nI e (t + 1)) c1] (by rfl) (by simp [Value.oneCell']) (by rfl) _ _ (by rfl) W2.heap.size v1 t xs (by rfl) (by rfl) (newc2 wb.drew _ _ _ _ (by rfl)) (HM.out.own1 HZ2.out) HTB.out.1 HTB.out.2 (HM.out.bs HZ2.out) ?_; intro v1' w3 p1 p2 p3; have x3 := HM.out.ob1 HZ2.out p2; have x3b := (World.cell?_alloc_lt w3 (.cells #[.slice (some ⟨g, 0, none⟩) 4 4] 22) _ (block_lt_of_cell x3)).trans x3; have hcb := HM.out.new2 p2 (g := wb.heap.size + 1) (by omega) (by simp) (newc1 (wb.drew.alloc (.cells #[.slice A1 (nI e (t + 1)) c1] 37)) (.slice (some ⟨g, 0, none⟩) 4 4) 22 (wb.heap.size + 1) hN2.out.symm); have hZA := HZ2.out)
          | (refine step_appSG 71 37 _ 1 24 Tryz.underlying71 info_tab (by rfl) (by omega) ((wb.drew.alloc (.cells #[.slice (some ⟨g, 0, none⟩) 4 4] 22)).alloc (.cells #[.slice A1 (nI e (t + 1)) c1] 37)) (wb.heap.size + 1) [.slice A1 (nI e (t + 1)) c1] (by rfl) (by simp [Value.oneCell']) (by rfl) _ _ (by rfl) W2.heap.size v1 t xs (by rfl) (by rfl) (newc1 (wb.drew.alloc (.cells #[.slice (some ⟨g, 0, none⟩) 4 4] 22)) _ _ _ hN3.out.symm) (HM.out.own1 HZ3.out) HTB.out.1 HTB.out.2 (HM.out.bs HZ3.out) ?_; intro v1' w3 p1 p2 p3; have x3 := HM.out.ob1 HZ3.out p2; have x3b := (World.cell?_alloc_lt w3 (.cells #[.slice (some ⟨g, 0, none⟩) 4 4] 22) _ (block_lt_of_cell x3)).trans x3; have hcb := HM.out.new2 p2 (g := wb.heap.size) (by omega) (by simp; omega) (newc2 wb.drew (.slice (some ⟨g, 0, none⟩) 4 4) 22 (.cells #[.slice A1 (nI e (t + 1)) c1] 37) wb.heap.size (by rfl)); have hZA := HZ3.out)
          | (have hZB : Below w3.heap.size w3 (w3.alloc (.cells #[.slice (some ⟨g, 0, none⟩) 4 4] 22)) := (Below.refl _ _).alloc (Nat.le_refl _) _; refine step_appSG 37 22 _ 1 24 Tryz.underlying37 info_ints (by rfl) (by omega) (w3.alloc (.cells #[.slice (some ⟨g, 0, none⟩) 4 4] 22)) w3.heap.size [.slice (some ⟨g, 0, none⟩) 4 4] (by rfl) (by simp [Value.oneCell']) (by rfl) _ _ (by rfl) W2.heap.size v2 us.length us (by rfl) (by rfl) (newc1 w3 _ _ _ (by rfl)) (HM.out.own2 hZA p2 hZB) HUS.out.1 HUS.out.2 (HM.out.bs2 hZA p2 hZB) ?_; intro v2' w4 q1 q2 q3; obtain ⟨A7, c7, hv7⟩ := row_form q1; subst hv7; have x4 := (HM.out.ob2 hZA p2 hZB q2).1; have x5 := (HM.out.ob2 hZA p2 hZB q2).2)
          | (have hZB : Below w3.heap.size w3 w3 := Below.refl _ _; refine step_appSG 37 22 _ 1 24 Tryz.underlying37 info_ints (by rfl) (by omega) w3 (wb.heap.size + 1) [.slice (some ⟨g, 0, none⟩) 4 4] (by rfl) (by simp [Value.oneCell']) (by rfl) _ _ (by rfl) W2.heap.size v2 us.length us (by rfl) (by rfl) hcb (HM.out.own2 hZA p2 hZB) HUS.out.1 HUS.out.2 (HM.out.bs2 hZA p2 hZB) ?_; intro v2' w4 q1 q2 q3; obtain ⟨A7, c7, hv7⟩ := row_form q1; subst hv7; have x4 := (HM.out.ob2 hZA p2 hZB q2).1; have x5 := (HM.out.ob2 hZA p2 hZB q2).2)
          | (have hZB : Below w3.heap.size w3 w3 := Below.refl _ _; refine step_appSG 37 22 _ 1 24 Tryz.underlying37 info_ints (by rfl) (by omega) w3 wb.heap.size [.slice (some ⟨g, 0, none⟩) 4 4] (by rfl) (by simp [Value.oneCell']) (by rfl) _ _ (by rfl) W2.heap.size v2 us.length us (by rfl) (by rfl) hcb (HM.out.own2 hZA p2 hZB) HUS.out.1 HUS.out.2 (HM.out.bs2 hZA p2 hZB) ?_; intro v2' w4 q1 q2 q3; obtain ⟨A7, c7, hv7⟩ := row_form q1; subst hv7; have x4 := (HM.out.ob2 hZA p2 hZB q2).1; have x5 := (HM.out.ob2 hZA p2 hZB q2).2))
        all_goals go_wp2_with fail
        all_goals go_meet
        all_goals
          have hfin := MS.two HM.out H2B.out.chn H2B.out.dom HFD2.out HSS.out.2.2 (Nat.lt_trans HCW.out HOB.out) H2B.out.n1 H2B.out.n2 HR1.out.1 HR1.out.2.1 HR1.out.2.2 HROOT.out.1 (.inr rfl) HROOT.out.2.1 HROOT.out.2.2.1 HROOT.out.2.2.2 hZA p1 p2 p3 hZB q1 q2 q3
          exact ⟨v1', _, _, _, rfl, hfin.1, hfin.2⟩
      case rest =>
        obtain ⟨v1', v2', xs', us', rfl, h4, hs4⟩ := hcut
        clear o0 y1 y2 y3 y1d y2d y3d y4
        have H4 := Lib.hid h4
        have HCO : Hid (c < w1.heap.size) := Lib.hid (Nat.lt_trans HCW.out HOB.out)
        have HTK := Lib.hid (chtake_any p S1 b1 sg kk z c oo _ (some ⟨g, 0, none⟩) 4 4 _ HROOT.out.2.2.1 HROOT.out.2.2.2 (by omega) wc (HF2.out.below (h4.gmB HCO.out) HSS.out.1) (HG2.out.below (h4.gmB HCO.out) HSS.out.2.1) HSS.out.1 HSS.out.2.1 h4.chn hs4)
        clear h4 hs4
        go_wp2_with fail
        refine HTK.out.mono ?_
        rintro _ w5 ⟨⟨r5, rfl⟩, hC5, hg5, _⟩
        have h5 := H4.out.chain HFD2.out HSS.out.2.2 HCO.out hC5 hg5
        have H5 := Lib.hid h5
        have HDW := Lib.hid (chdraw_any p S1 b1 sg kk z c oo _ w5 (HF2.out.below (h5.gmB HCO.out) HSS.out.1) (HG2.out.below (h5.gmB HCO.out) HSS.out.2.1) HSS.out.1 HSS.out.2.1 h5.chn)
        clear h5 hC5 hg5
        go_wp2_with fail
        refine HDW.out.mono ?_
        rintro _ w6 ⟨rfl, hC6, hg6, _⟩
        have h6 := H5.out.chain HFD2.out HSS.out.2.2 HCO.out hC6 hg6
        have H6 := Lib.hid h6
        have HFO := Lib.hid (folded_any p w6.heap.size Dt b2 (nI e t) (nI e (t + 1)) (nI_step HTE.out) (nI_pos _ _) (sqI s t) AV cV (wM p kk s e word D t) HWL.out HWI.out _ (i64_draw HFS.out.max kk (digL p kk (3 :: (dM p kk s e word D t ++ rM p kk s e word D t)))) w6 h6.dom h6.ms.sl)
        clear h6 hC6 hg6
        go_wp2_with fail
        refine HFO.out.mono ?_
        rintro _ w7 ⟨v7, rfl, ho7, hb7⟩
        obtain ⟨A7, n7, c7, rfl, hl7, _, _, _⟩ := ho7.shapeN
        have e7 : n7 = nI e (t + 1) := by rw [← hl7]; simp [fvs, foldL_length]
        subst e7
        have h7 := (H6.out.below hb7).word ho7
        have H7 := Lib.hid h7
        have HHF := Lib.hid (half_any p w7.heap.size Dt b2 (nI e t) (nI e (t + 1)) (nI_step HTE.out) (nI_pos _ _) (sqI s t) w7 h7.dom)
        clear h7 ho7 hb7 hl7
        go_wp2_with fail
        refine HHF.out.mono ?_
        rintro _ w8 ⟨D', rfl, hD', hb8, hle⟩
        rw [el_fv] at hD'
        have H8 := Lib.hid (H7.out.half hb8 hD' hle)
        clear hD' hb8 hle
        go_wp2
        go_roundw
        case rel => exact ⟨t + 1, A7, c7, D', v1', v2', xs', us', Nat.succ_le_of_lt HLT.out, by first | rfl | (rw [hq]), rfl, rfl, rfl, H8.out⟩
        case measure =>
          rw [hq]
          show Int.toNat ((nI j (t + 1) : Nat) : Int) < Int.toNat ((nI j t : Nat) : Int)
          rw [Int.toNat_natCast, Int.toNat_natCast]
          exact HMS.out
    · have t1 : decide ((4 : Int) < ((nI j t : Nat) : Int)) = false := decide_eq_false (by have h4 : ¬ 4 < nI j t := fun h => hlt (four_lt.1 h); omega)
      have et : t = rndK j := by omega
      have HET := Lib.hid et
      have HT16 : Hid (t ≤ 16 ∧ t + 1 ≤ e) := Lib.hid (by unfold rndK at et; omega)
      have H2 := Lib.hid h2
      have HWL := Lib.hid (wM_len (p := p) (k := kk) (s := s) (D := D) HLW.out t)
      have HWI := Lib.hid (wM_i64 (k := kk) (s := s) (e := e) (D := D) HFS.out.max HIW.out t)
      have HCF := Lib.hid (coefs_any p wr.heap.size Dt b2 (nI e t) (sqI s t) AV cV (wM p kk s e word D t) HWL.out HWI.out wr h2.dom h2.ms.sl)
      have HCO : Hid (c < w1.heap.size) := Lib.hid (Nat.lt_trans HCW.out HOB.out)
      have hq0 : wrap64 (((nI e 0 : Nat) : Int) / 2) = ((nI e 1 : Nat) : Int) := half_wrap (nI_step (by have := HT16.out; omega)) (nI_le he 0)
      clear h2 et hlt
      go_wp2_with fail
      refine HCF.out.mono ?_
      rintro _ w9 ⟨vL, rfl, hoL, hb9⟩
      obtain ⟨AL, nL, cL, rfl, hlL, hcL, hmL, hsL⟩ := hoL.shapeN
      have hlast : fvs (trimL (coefL (sqI s t) (rootI p ((nI e t : Nat) : Int)) (nI e t) (els p (wM p kk s e word D t)))) = lastM p kk s e word D t := rfl
      rw [hlast] at hoL hlL hsL
      have hLi : ∀ x ∈ lastM p kk s e word D t, I64 x := fun x hx => by
        obtain ⟨y, _, rfl⟩ := List.mem_map.1 hx
        exact i64_fv _ HFS.out.max
      have hLn : nL ≤ 65536 := by
        rw [← hlL]
        unfold lastM
        rw [fvs, List.length_map]
        have h1 := trimL_length_le (coefL (sqI s t) (rootI p ((nI e t : Nat) : Int)) (nI e t) (els p (wM p kk s e word D t)))
        rw [coefL_length] at h1
        have := nI_le he t
        omega
      obtain ⟨h3, hB9⟩ := H2.out.done hb9 hoL (by have := H2.out.ms.size; omega)
      have y1 := (hB9.cell 1).trans (show _ = some (.slice none 0 0) from rfl)
      have y2 := hB9.frozen 1
      obtain ⟨w10, hw10⟩ : ∃ w10, w10 = w9.setCell ⟨w1.heap.size, 1, none⟩ (.slice AL nL cL) := ⟨_, rfl⟩
      rw [← hw10] at h3
      have HW10 := Lib.hid hw10
      have H3 := Lib.hid h3
      have HLL := Lib.hid (And.intro hlL (And.intro hLi hLn))
      have HTK := Lib.hid (chtake_any p S1 b1 sg kk z c oo _ AL nL cL _ hlL hLi (by omega) w10 (HF2.out.below (h3.gmB HCO.out) HSS.out.1) (HG2.out.below (h3.gmB HCO.out) HSS.out.2.1) HSS.out.1 HSS.out.2.1 h3.chn (sl_of h3.last))
      clear h3 hB9 hoL hb9 hlL hcL hmL hsL hlast hLi hLn hw10
      go_upto_region 19 with (fail)
      rw [← HW10.out]
      have f1 := (H3.out.out.cell 1).trans (show _ = some (.slice AL nL cL) from rfl)
      clear y1 y2
      go_wp2_with fail
      refine HTK.out.mono ?_
      rintro _ w11 ⟨⟨r5, rfl⟩, hC11, hg11, _⟩
      have h4 := H3.out.chain hC11 hg11
      have H4 := Lib.hid h4
      have hd11 : w11.cell? ⟨Dd, 1, none⟩ = some (vi ((nI e 0 : Nat) : Int)) := ((h4.gmB HCO.out).cell (p := ⟨Dd, 1, none⟩) (by have := HD.out.lt; have := HSS.out.2.2; show Dd < c; omega)).trans ((HB02.out.cell (p := ⟨Dd, 1, none⟩) (block_lt_of_cell HD.out.c1)).trans HD.out.c1)
      have HDR := Lib.hid (drawn_any p S1 b1 sg kk z c oo _ ((nI e 1 : Nat) : Int) (by have := nI_pos e 1; omega) (by have := nI_le he 1; omega) a HAA.out.1 (by have := HAA.out.2; omega) w11 (HF2.out.below (h4.gmB HCO.out) HSS.out.1) (HG2.out.below (h4.gmB HCO.out) HSS.out.2.1) HSS.out.1 HSS.out.2.1 h4.chn)
      have HS11 := Lib.hid (HSZ.out _ hd11)
      clear h4 hC11 hg11 hd11 f1
      go_wp2_with fail
      refine HS11.out.mono ?_
      rintro _ _ ⟨rfl, rfl⟩
      go_wp2_with fail
      refine HDR.out.mono ?_
      rintro _ w12 ⟨vP, rfl, hoP, hC12, hg12⟩
      have hpl : placesL p kk (digL p kk (3 :: (dM p kk s e word D t ++ lastM p kk s e word D t))) ((nI e 1 : Nat) : Int) a = plM p kk s e word D t a := rfl
      rw [hpl] at hoP
      have h5 := (H4.out.chain hC12 hg12).withPl (hoP.more H4.out.size)
      obtain ⟨AP, nP, cP, rfl, hlP, hcP, hmP, hsP⟩ := hoP.shapeN
      have eP : nP = a := by rw [← hlP]; exact placesL_len _ _ _ _ _
      subst eP
      have HPL := Lib.hid hlP
      have HPN : Hid (∀ x ∈ plM p kk s e word D t nP, 0 ≤ x) := Lib.hid fun x hx => (placesL_in p kk _ _ _ (by have := nI_pos e 1; omega) x hx).1
      obtain ⟨A1, c1, hv1⟩ := row_form h5.tabs.own
      subst hv1
      have H5 := Lib.hid h5
      clear h5 hoP hC12 hg12 hpl hlP hcP hmP hsP
      go_wp2
      go_loopw [108] (fun i wq => ∃ (u : Nat) (vO : Value) (xo : List Value), u ≤ t ∧ i = vi u ∧ Ph2 W2 w1.heap.size c W2.heap.size sg (fun t => rowsL (wM p kk s e word D t) (nI e (t + 1))) (rM p kk s e word D) t (lastM p kk s e word D t) (iterP p kk (digL p kk (3 :: (dM p kk s e word D t ++ lastM p kk s e word D t))) nP) (.slice A1 t c1) v2 (.slice AL nL cL) vO (.slice AP nP cP) xs us (plM p kk s e word D t nP) wq ∧ CopS W2.heap.size wq vO u xo (opM p kk s e word D (plM p kk s e word D t nP))) (fun i _ => t - (intOf i).toNat)
      case atStart => exact ⟨0, _, [], Nat.zero_le _, rfl, H5.out, CopS.nil _ _ _⟩
      case round =>
        obtain ⟨u, vO, xo, hu, rfl, h6, hc6⟩ := hrel
        have H6 := Lib.hid h6
        have HC6 := Lib.hid hc6
        by_cases hut : u < t
        · obtain ⟨A, n, cT, ut, e1, hoT, hrT, _⟩ := h6.tabs.at_ u hut
          obtain ⟨ad, rfl, k1⟩ : ∃ ad, A1 = some ad ∧ wr.cell? (ad.add u) = some (.slice A n cT) := by
            rcases h6.tabs.own.2 with ⟨e0, h0⟩ | ⟨g, cap, cur, e0, _⟩
            · omega
            · injection e0 with e0 _ _
              subst e0
              exact ⟨_, rfl, World.ownsRow.cells h6.tabs.own (g := g) rfl _ _ e1⟩
          obtain ⟨A', n', c', e2, hun, hnc⟩ := ownR_shape hoT
          injection e2 with e2 e3 e4
          subst e2 e3 e4
          have en : n = nI e (u + 1) := by rw [← hun, hrT.1, rowsL_len]
          subst en
          have i1 : (0 : Int) ≤ (u : Int) := by omega
          have i2 : (u : Int) < (t : Int) := by omega
          have hwt : IntKind.i64.wrap ((u : Int) + 1) = (u : Int) + 1 := step_wrap (by have := HT16.out; omega)
          have HMO := Lib.hid (fmodulo_any AP nP cP (plM p kk s e word D t nP) HPL.out HPN.out (by have := HAA.out.2; omega) (nI e (u + 1)) (nI_pos _ _) (nI_le he _) wr (sl_of h6.pl))
          have HTAB := Lib.hid (And.intro hoT hrT)
          have HUT := Lib.hid hut
          have HWIU := Lib.hid (wM_i64 (k := kk) (s := s) (e := e) (D := D) HFS.out.max HIW.out u)
          clear h6 hc6 hoT hrT e1 hun hnc hut hu
          go_wp2_with fail
          refine HMO.out.mono ?_
          rintro _ w13 ⟨vM, rfl, hoM, hb13⟩
          obtain ⟨AM, nM, cM, rfl, hlM, _, _, hsM⟩ := hoM.shapeN
          have h7 := H6.out.below hb13
          have hnM : nM = nP := by rw [← hlM, modL_len]; exact HPL.out
          have HOP := Lib.hid (topen_sf p S1 b1 sg kk z oo A (nI e (u + 1)) cT (rowsL (wM p kk s e word D u) (nI e (u + 1))) (rowsL_len _ _) (nI_pos _ _) (nI_le he _) (fun l hl => by rw [rowsL_two _ _ l hl]; decide) AM nM cM (modL (plM p kk s e word D t nP) (nI e (u + 1))) hlM (by have := HAA.out.2; omega) (List.any_eq_false.2 fun x hx => by
            have := modL_in (plM p kk s e word D t nP) (nI_pos e (u + 1)) x hx
            unfold outB
            simp only [decide_eq_true_eq, Classical.not_not]
            exact this) w13 (HF2.out.below (h7.gmB HCO.out) HSS.out.1) (HG2.out.below (h7.gmB HCO.out) HSS.out.2.1) hsM (tb_own (HTAB.out.1.below hb13) (HTAB.out.2.below hb13) (rowsL_i64 HWIU.out _)))
          have HB13 := Lib.hid hb13
          clear h7 hoM hb13 hlM hsM hnM k1
          go_wp2_with fail
          refine HOP.out.mono ?_
          rintro _ w14 ⟨C0, k0, d0, CR, kR, eR, CN, kN, eN, rfl, hop, hb14⟩
          obtain ⟨w15, hw15⟩ : ∃ w15, w15 = w14.alloc (.cells #[.slice C0 k0 d0, .slice CR kR eR, .slice CN kN eN] 79) := ⟨_, rfl⟩
          have hbx : Below w14.heap.size w14 w15 := by rw [hw15]; exact (Below.refl _ _).alloc (Nat.le_refl _) _
          have hBx : Blk w15 w14.heap.size 79 #[.slice C0 k0 d0, .slice CR kR eR, .slice CN kN eN] := by rw [hw15]; exact Blk.new _ _ _
          have x0 := (hBx.cell 0).trans (show _ = some (.slice C0 k0 d0) from rfl)
          have x1 := (hBx.cell 1).trans (show _ = some (.slice CR kR eR) from rfl)
          have x2 := (hBx.cell 2).trans (show _ = some (.slice CN kN eN) from rfl)
          have hb15 := HB13.out.trans ((hb14.trans (hbx.mono hb14.size)).mono HB13.out.size)
          have h8 := H6.out.below hb15
          have hc8 := HC6.out.safeO (SafeO.of hb15)
          have f2 := (h8.out.cell 2).trans (show _ = some vO from rfl)
          have HOPX := Lib.hid (fun w'' (hk : Safe w15 w'') => hop w'' ((Safe.of hbx).trans hk))
          have HW15 := Lib.hid hw15
          have H8 := Lib.hid h8
          have HC8 := Lib.hid hc8
          have HTB : Hid (u + 1 ≤ maxLen ∧ (u + 1) * 72 ≤ 140737488355328) := Lib.hid (by have := HT16.out; have := HUT.out; simp only [maxLen]; omega)
          clear hop hb14 hbx hBx hb15 h8 hc8 hw15
          go_upto_region 25 with (fail)
          rw [← HW15.out]
          go_upto_region 28 with (at_builtin; refine wpList_appS 38 79 _ 3 72 Tryz.underlying38 info_opn (by rfl) (by omega) w15 _ [.slice C0 k0 d0, .slice CR kR eR, .slice CN kN eN] (by rfl) (by rfl) (by simp [Value.oneCell']) (by rfl) _ _ (by rfl) W2.heap.size vO u xo (by rfl) (by rfl) HC8.out.own HTB.out.1 HTB.out.2 H8.out.size ?_; intro v' w3 p1 p2 p3; have hB2 := (H8.out.app (Nat.le_refl _) HC8.out.own p2 (vO' := v')).2.1; have y1 := (hB2.cell 2).trans (show _ = some vO from rfl); have y2 := hB2.frozen 2; obtain ⟨A9, c9, hv9⟩ := row_form p1; subst hv9)
          obtain ⟨h9, hB9, hs9, hg9⟩ := H8.out.app (Nat.le_refl _) HC8.out.own p2 (vO' := .slice A9 (u + 1) c9)
          obtain ⟨hc9, hsf⟩ := HC8.out.app HOPX.out p1 p2
          obtain ⟨wn, hwn⟩ : ∃ wn, wn = w3.setCell ⟨w1.heap.size, 2, none⟩ (.slice A9 (u + 1) c9) := ⟨_, rfl⟩
          rw [← hwn] at h9 hg9
          have hcn := hc9.safeO (SafeO.one hg9 hB9 (by decide) (by decide))
          have HN := Lib.hid (And.intro h9 hcn)
          have HWN := Lib.hid hwn
          clear hwn h9 hcn hg9 hs9 hB9 hc9 hsf p1 p2 p3 hB2 x0 x1 x2 f2
          rw [← HWN.out]
          clear y1 y2
          go_wp2
          go_roundw
          case rel => exact ⟨u + 1, _, _, Nat.succ_le_of_lt HUT.out, by go_num, HN.out.1, HN.out.2⟩
          case measure => have := HUT.out; simp [intOf]; omega
        · obtain rfl : u = t := by omega
          obtain ⟨AO, cO, hv⟩ := row_form h6.rt.own
          subst hv
          obtain ⟨AQ, cQ, hv⟩ := row_form hc6.own
          subst hv
          have r1 := row_cap h6.rt.own
          have r2 := row_cap hc6.own
          have HCR := Lib.hid (fun W => clipR_any AO us.length cO r1.2.1 W r1.2.2.2)
          have HCQ := Lib.hid (fun W => clipO_any AQ u cQ r2.2.1 (by have := r2.2.2.1; simp only [maxLen] at this; omega) W)
          have HFIN := Lib.hid (mk_fin HFS.out.max HB02.out HOB.out HCW.out (by have := HT16.out; omega) (by have := HLL.out; omega) h6 hc6 HBR2.out)
          have o0 := (h6.out.cell 0).trans (show _ = some (.slice AO us.length cO) from rfl)
          have o2 := (h6.out.cell 2).trans (show _ = some (.slice AQ u cQ) from rfl)
          have z0 := h6.out.frozen 0
          have z2 := h6.out.frozen 2
          clear h6 hc6 r1 r2 hut hu
          go_wp2
          go_region_law (first
            | (go_simp; go_at_call 38; refine (HCR.out _).mono ?_; rintro _ _ ⟨rfl, rfl⟩)
            | (go_simp; go_at_call 39; refine (HCQ.out _).mono ?_; rintro _ _ ⟨rfl, rfl⟩))
          all_goals
            obtain ⟨q1, q2, q3, q4⟩ := HFIN.out
            obtain ⟨w9, hw9⟩ : ∃ w9, w9 = (wr.setCell ⟨w1.heap.size, 0, none⟩ (.slice AO us.length us.length)).setCell ⟨w1.heap.size, 2, none⟩ (.slice AQ u u) := ⟨_, rfl⟩
            rw [← hw9] at q1 q2 q3 q4
            have e0 := (q1.cell 0).trans (show _ = some (Value.slice AO us.length us.length) from rfl)
            have e1 := (q1.cell 1).trans (show _ = some (Value.slice AL nL cL) from rfl)
            have e2 := (q1.cell 2).trans (show _ = some (Value.slice AQ u u) from rfl)
            have x0 := (q2.cell 0).trans (show _ = some (Value.slice none 0 0) from rfl)
            have x1 := (q2.cell 1).trans (show _ = some (Value.slice none 0 0) from rfl)
            have x2 := (q2.cell 2).trans (show _ = some (Value.slice none 0 0) from rfl)
            have f0 := q2.frozen 0
            have f1 := q2.frozen 1
            have f2 := q2.frozen 2
            have y0 := (q3.cell 0).trans (show _ = some (Value.slice AO us.length us.length) from rfl)
            have y1 := (q3.cell 1).trans (show _ = some (Value.slice AL nL cL) from rfl)
            have y2 := (q3.cell 2).trans (show _ = some (Value.slice AQ u u) from rfl)
            have HQ := Lib.hid q4
            rw [← hw9]
            clear q1 q2 q3 q4 hw9 o0 o2 z0 z2
            go_wp2
            exact bodyPost_ret (v := .tuple #[.agg #[.slice AO us.length us.length, .slice AL nL cL, .slice AQ u u], .slice AP nP cP, .nilIface]) (by simp [results, Tryz.results9, go_sem, y0, y1, y2]) rfl (HET.out ▸ HQ.out)
end Go.Proofs.YtonalbdehcmjmaaGreat

/- fold.Make where nothing is shown. -/
set_option linter.unusedVariables false
namespace Go.Proofs.YtonalbdehcmjmaaGreat
open Go.RowKit Zp
/-- nothing is handed back, and why -/
def MkNo (k : Int) (w : World) (e : Ending) (w' : World) : Prop := e = .returned (.tuple #[.agg #[.slice none 0 0, .slice none 0 0, .slice none 0 0], .slice none 0 0, .iface 55 (vi k)]) ∧ Below w.heap.size w w'
set_option maxRecDepth 100000 in
set_option maxHeartbeats 2000000 in
theorem fmake_no1 (c sg Dd n : Nat) (k asked : Int) (hk : I64 k) (hn : n ≤ 65536) (A : Option Addr) (m cA : Nat) (hmay : fmayB n k asked = false) (w : World) (hd1 : w.cell? ⟨Dd, 1, none⟩ = some (vi n)) :
    Calls Tryz.prog 9 #[.pointer (some ⟨sg, 0, none⟩), .pointer (some ⟨c, 0, none⟩), .pointer (some ⟨Dd, 0, none⟩), vi k, .slice A m cA, vi asked] w (MkNo 2 w) := by
  obtain ⟨W0, hW0⟩ : ∃ W0, W0 = w.alloc (.cells #[.slice none 0 0, .slice none 0 0, .slice none 0 0] 40) := ⟨_, rfl⟩
  have hb0 := below_of_eq hW0
  have hB0 : Blk W0 w.heap.size 40 #[.slice none 0 0, .slice none 0 0, .slice none 0 0] := by rw [hW0]; exact Blk.new _ _ _
  have hd10 := (hb0.cell (p := ⟨Dd, 1, none⟩) (block_lt_of_cell hd1)).trans hd1
  have hf := fmay_any Dd n k asked hk hn W0 hd10
  rw [hmay] at hf
  have HMAY := Lib.hid hf
  have HSZ := Lib.hid (size_any Dd n W0 hd10)
  have HW0 := Lib.hid hW0
  have HB0 := Lib.hid hb0
  clear hf hW0 hd10
  have f0 := (hB0.cell 0).trans (show _ = some (.slice none 0 0) from rfl)
  have f1 := (hB0.cell 1).trans (show _ = some (.slice none 0 0) from rfl)
  have f2 := (hB0.cell 2).trans (show _ = some (.slice none 0 0) from rfl)
  have z0 := hB0.frozen 0
  have z1 := hB0.frozen 1
  have z2 := hB0.frozen 2
  obtain ⟨hset, hgr⟩ := blk_set3 hB0 (.slice none 0 0) (.slice none 0 0) (.slice none 0 0)
  have HB := Lib.hid (hb0.grown hgr hb0.size (fun x hx => by injection hx with hx; omega))
  have q0 := (hset.cell 0).trans (show _ = some (.slice none 0 0) from rfl)
  have q1 := (hset.cell 1).trans (show _ = some (.slice none 0 0) from rfl)
  have q2 := (hset.cell 2).trans (show _ = some (.slice none 0 0) from rfl)
  clear hset hgr hb0 hB0
  clear hmay hk hn hd1
  go_enter Tryz.func9, Tryz.ntmps9
  go_upto_region 1 with (fail)
  rw [← HW0.out]
  go_wp2_with fail
  refine HMAY.out.mono ?_
  rintro _ _ ⟨rfl, rfl⟩
  go_wp2
  exact bodyPost_ret (v := .tuple #[.agg #[.slice none 0 0, .slice none 0 0, .slice none 0 0], .slice none 0 0, .iface 55 (vi 2)]) (by simp [results, Tryz.results9, go_sem, q0, q1, q2]) rfl ⟨rfl, HB.out⟩
set_option maxRecDepth 100000 in
set_option maxHeartbeats 2000000 in
theorem fmake_no3 (p : Nat) [NeZero p] (c sg Dd b2 S2 n : Nat) (s : Fin p) (k asked : Int) (hk : I64 k) (hn : n ≤ 65536) (A : Option Addr) (cA : Nat) (word : List Int) (hlw : word.length = n) (hiw : ∀ x ∈ word, I64 x) (hmay : fmayB n k asked = true) (hcw : cwB p n s k word = false) (w : World) (hd : Dom w S2 Dd b2 p n s) (hsW : SL w A word) :
    Calls Tryz.prog 9 #[.pointer (some ⟨sg, 0, none⟩), .pointer (some ⟨c, 0, none⟩), .pointer (some ⟨Dd, 0, none⟩), vi k, .slice A n cA, vi asked] w (MkNo 3 w) := by
  have hd1 := hd.c1
  obtain ⟨W0, hW0⟩ : ∃ W0, W0 = w.alloc (.cells #[.slice none 0 0, .slice none 0 0, .slice none 0 0] 40) := ⟨_, rfl⟩
  have hb0 := below_of_eq hW0
  have hB0 : Blk W0 w.heap.size 40 #[.slice none 0 0, .slice none 0 0, .slice none 0 0] := by rw [hW0]; exact Blk.new _ _ _
  have hd10 := (hb0.cell (p := ⟨Dd, 1, none⟩) (block_lt_of_cell hd1)).trans hd1
  have hf := fmay_any Dd n k asked hk hn W0 hd10
  rw [hmay] at hf
  have HMAY := Lib.hid hf
  have HSZ := Lib.hid (size_any Dd n W0 hd10)
  have HW0 := Lib.hid hW0
  have HB0 := Lib.hid hb0
  clear hf hW0 hd10
  have his := is_any p S2 Dd b2 n s k A n cA word hlw hiw W0 (hd.below hb0 hd.fld.le) (hsW.below hb0)
  rw [hcw] at his
  have HIS := Lib.hid his
  have HBX := Lib.hid hB0
  have HBE := Lib.hid hb0
  have t2 : ((n : Int) != (n : Int)) = false := by simp
  clear hmay hk hn hd1 his hd hsW hlw hiw hcw hB0 hb0
  go_enter Tryz.func9, Tryz.ntmps9
  go_upto_region 1 with (fail)
  rw [← HW0.out]
  go_wp2_with fail
  refine HMAY.out.mono ?_
  rintro _ _ ⟨rfl, rfl⟩
  go_wp2_with fail
  refine HSZ.out.mono ?_
  rintro _ _ ⟨rfl, rfl⟩
  go_wp2_with fail
  refine HIS.out.mono ?_
  rintro _ w1 ⟨rfl, hb1⟩
  have hB0 := Blk.below HBX.out hb1 HBX.out.lt
  have hb0 := HBE.out.trans (hb1.mono HBE.out.size)
  clear hb1
  have f0 := (hB0.cell 0).trans (show _ = some (.slice none 0 0) from rfl)
  have f1 := (hB0.cell 1).trans (show _ = some (.slice none 0 0) from rfl)
  have f2 := (hB0.cell 2).trans (show _ = some (.slice none 0 0) from rfl)
  have z0 := hB0.frozen 0
  have z1 := hB0.frozen 1
  have z2 := hB0.frozen 2
  obtain ⟨hset, hgr⟩ := blk_set3 hB0 (.slice none 0 0) (.slice none 0 0) (.slice none 0 0)
  have HB := Lib.hid (hb0.grown hgr hb0.size (fun x hx => by injection hx with hx; omega))
  have q0 := (hset.cell 0).trans (show _ = some (.slice none 0 0) from rfl)
  have q1 := (hset.cell 1).trans (show _ = some (.slice none 0 0) from rfl)
  have q2 := (hset.cell 2).trans (show _ = some (.slice none 0 0) from rfl)
  clear hset hgr hb0 hB0
  go_wp2
  exact bodyPost_ret (v := .tuple #[.agg #[.slice none 0 0, .slice none 0 0, .slice none 0 0], .slice none 0 0, .iface 55 (vi 3)]) (by simp [results, Tryz.results9, go_sem, q0, q1, q2]) rfl ⟨rfl, HB.out⟩
end Go.Proofs.YtonalbdehcmjmaaGreat

/- Plain: what is opened is taken. -/
set_option linter.unusedVariables false
namespace Go.Proofs.YtonalbdehcmjmaaGreat
open Go.RowKit Zp
section
variable {p k : Nat} [NeZero p]
/-- a digest asks for a list's elements alone -/
theorem digL_congrT {l m : List Int} (h : els p l = els p m) : digL p k l = digL p k m := by
  have hl : l.length = m.length := by
    have := congrArg List.length h
    simpa [els] using this
  unfold digL digE
  have e : padE p l = padE p m := by funext j; unfold padE; rw [h]
  rw [e, hl]
theorem els_cons (x : Int) (l : List Int) : els p (x :: l) = el p x :: els p l := by simp [els]
theorem digL_els (x : Int) (l : List Int) : digL p k (x :: fvs (els p l)) = digL p k (x :: l) := digL_congrT (by rw [els_cons, els_cons, els_fvs])
/-- digests are elements -/
theorem els_digL (l : List Int) : fvs (els p (digL p k l)) = digL p k l := by
  unfold digL
  simp only [fvs, els, List.map_map]
  congr 1
  funext j
  simp [el_fv]
theorem els_rootD (r : Nat → List Int) (a n : Nat) : fvs (els p (rootD (digL p k) r a n)) = rootD (digL p k) r a n := by
  by_cases h : 2 ≤ n
  · rw [rootD_two _ _ _ h, els_digL]
  · rw [rootD_one _ _ _ h, els_digL]
theorem rowAt_opened (ls : List (List Int)) {T : List Int} (hT : Asc T) {a : Nat} (hs : shownB T a 1 = true) : rowAt T (openR p ls T) a = fvs (els p (rowF ls a)) := by
  obtain ⟨h1, h2⟩ := shown_one hT a hs
  unfold rowAt openR
  rw [List.getD_eq_getElem?_getD, List.getElem?_map, h2]
  simp
theorem taken_opened (ls : List (List Int)) (l : List Int) (N : Nat) (h1 : 1 ≤ N) (hN : N ≤ 65536) (hin : ∀ x ∈ l, 0 ≤ x ∧ x < (N : Int)) :
    TakenP p k (onceL l) (openR p ls (onceL l)) ((hidL (onceL l) 0 N).map fun g => rootD (digL p k) (rowF ls) g.1 g.2) (rootD (digL p k) (rowF ls) 0 N) N := by
  have hT := asc_onceL l
  have hc := climb_root (digL p k) (fun x => fvs (els p x)) (fun i => fvs (els p (rowAt (onceL l) (openR p ls (onceL l)) i))) (rowF ls) (onceL l) els_digL (fun a n hs _ => by
    rw [rowAt_opened ls hT hs, els_fvs, digL_els]) N 0 [] h1
  rw [List.append_nil] at hc
  refine ⟨⟨by omega, by omega⟩, rootD_len p k _ _ _, openR_len p ls _, ⟨hT, fun x hx => hin x ((mem_onceL x l).1 hx)⟩, by simp, fun x hx => ?_, ?_⟩
  · obtain ⟨g, _, rfl⟩ := List.mem_map.1 hx
    exact rootD_len p k _ _ _
  · rw [Int.toNat_natCast, hc, els_rootD]
end
end Go.Proofs.YtonalbdehcmjmaaGreat

/- Plain: a low degree is shown: what Make makes is taken. -/
set_option linter.unusedVariables false
namespace Go.Proofs.YtonalbdehcmjmaaGreat
open Go.RowKit Zp
section
variable {p kk : Nat} [NeZero p] {s : Fin p} {e j : Nat} {word D : List Int}
theorem dgR_made (R : Nat) : ∀ t, t ≤ R → dgR p kk D ((List.range R).map (rM p kk s e word D)) t = dM p kk s e word D t := by
  intro t
  induction t with
  | zero => intro _; rfl
  | succ t ih =>
    intro ht
    show drawnL p kk (digL p kk (3 :: (dgR p kk D ((List.range R).map (rM p kk s e word D)) t ++ ((List.range R).map (rM p kk s e word D)).getD t []))) = _
    rw [ih (by omega), List.getD_eq_getElem?_getD, List.getElem?_map, List.getElem?_range (by omega)]
    rfl
theorem drR_made (R t : Nat) (ht : t < R) : drR p kk D ((List.range R).map (rM p kk s e word D)) t = (dM p kk s e word D (t + 1)).getD 0 0 := by
  unfold drR
  rw [dgR_made R (t + 1) ht]
theorem dgL_made (R : Nat) : dgL p kk D ((List.range R).map (rM p kk s e word D)) (lastM p kk s e word D R) = dLM p kk s e word D R := by
  unfold dgL dLM
  rw [List.length_map, List.length_range, dgR_made R R (Nat.le_refl _)]
/-- what Make goes by -/
structure Sh (p : Nat) [NeZero p] (s : Fin p) (e : Nat) (word : List Int) : Prop where
  pr : IsPrime p
  p3 : 3 ≤ p
  sz : SizeOk p (nI e 0)
  s0 : s ≠ 0
  len : word.length = nI e 0
section
variable (h : Sh p s e word)
include h
theorem Sh.dvd (t : Nat) : nI e t ∣ p - 1 := Nat.dvd_trans (by unfold nI; exact Nat.pow_dvd_pow 2 (by omega)) h.sz.2
theorem Sh.root (t : Nat) : Ord (rootI p ((nI e t : Nat) : Int)) (nI e t) := rootI_ord h.pr (nI_pos e t) (h.dvd t)
theorem Sh.sq0 (t : Nat) : sqI s t ≠ 0 := by
  induction t with
  | zero => exact h.s0
  | succ t ih => exact mul_ne_zero h.pr ih ih
theorem Sh.half {t : Nat} (ht : t < e) : rootI p ((nI e (t + 1) : Nat) : Int) = rootI p ((nI e t : Nat) : Int) * rootI p ((nI e t : Nat) : Int) := by
  have h1 := h.dvd t
  rw [nI_step ht] at h1 ⊢
  exact rootI_half (nI_pos _ _) h1 (by have := h.p3; omega)
omit h in
theorem wM_els {t : Nat} : els p (wM p kk s e word D (t + 1)) = foldL (sqI s t) (rootI p ((nI e t : Nat) : Int)) (nI e (t + 1)) (Zp.els p (wM p kk s e word D t)) (el p ((dM p kk s e word D (t + 1)).getD 0 0)) := by
  rw [wM_succ, els_fvs]
theorem Sh.low_step {t : Nat} (ht : t < e) : trimL (coefL (sqI s (t + 1)) (rootI p ((nI e (t + 1) : Nat) : Int)) (nI e (t + 1)) (Zp.els p (wM p kk s e word D (t + 1)))) = trimL (foldP (el p ((dM p kk s e word D (t + 1)).getD 0 0)) (coefL (sqI s t) (rootI p ((nI e t : Nat) : Int)) (nI e t) (Zp.els p (wM p kk s e word D t)))) := by
  have h1 := fold_coef h.pr h.p3 (s := sqI s t) (r := rootI p ((nI e t : Nat) : Int)) (m := nI e (t + 1)) (nI_pos _ _) (by rw [← nI_step ht]; exact h.dvd t) (h.sq0 t) (by rw [← nI_step ht]; exact h.root t) (l := Zp.els p (wM p kk s e word D t)) (by rw [← nI_step ht, Zp.els, List.length_map]; exact wM_len h.len t) (el p ((dM p kk s e word D (t + 1)).getD 0 0))
  rw [wM_els, h.half ht]
  rw [← nI_step ht] at h1
  exact h1
theorem Sh.low (h0 : (trimL (coefL (sqI s 0) (rootI p ((nI e 0 : Nat) : Int)) (nI e 0) (Zp.els p word))).length ≤ nI j 0) (hje : j + 1 ≤ e) : ∀ t, t ≤ j → (trimL (coefL (sqI s t) (rootI p ((nI e t : Nat) : Int)) (nI e t) (Zp.els p (wM p kk s e word D t)))).length ≤ nI j t := by
  intro t
  induction t with
  | zero => intro _; exact h0
  | succ t ih =>
    intro ht
    rw [h.low_step (by omega)]
    refine folds_low ?_ _
    rw [← nI_step (show t < j by omega)]
    exact ih (by omega)
end
/-- the row that is shown at a place -/
theorem rowO_made {R t : Nat} (ht : t < R) {places : List Int} {x : Int} (hx : x ∈ places) : rowO (opnO ((List.range R).map (opM p kk s e word D places)) t) (x % ((nI e (t + 1) : Nat) : Int)) = fvs (els p (rowF (rowsL (wM p kk s e word D t) (nI e (t + 1))) (x % ((nI e (t + 1) : Nat) : Int)).toNat)) := by
  have eo : opnO ((List.range R).map (opM p kk s e word D places)) t = opM p kk s e word D places t := by
    unfold opnO
    rw [List.getD_eq_getElem?_getD, List.getElem?_map, List.getElem?_range ht]
    rfl
  rw [eo]
  have hm : x % ((nI e (t + 1) : Nat) : Int) ∈ onceL (modL places (nI e (t + 1))) := (mem_onceL _ _).2 (List.mem_map.2 ⟨x, hx, rfl⟩)
  obtain ⟨h1, h2⟩ := lowB_mem (asc_onceL _) hm
  show (openR p (rowsL (wM p kk s e word D t) (nI e (t + 1))) (onceL (modL places (nI e (t + 1))))).getD (lowB (onceL (modL places (nI e (t + 1)))) (x % ((nI e (t + 1) : Nat) : Int))) [] = _
  unfold openR
  rw [List.getD_eq_getElem?_getD, List.getElem?_map, h2]
  rfl
theorem getD_fvs_els (l : List Int) (i : Nat) : el p ((fvs (els p l)).getD i 0) = el p (l.getD i 0) := by
  rw [List.getD_eq_getElem?_getD, List.getD_eq_getElem?_getD]
  rcases h : l[i]? with _ | y
  · simp [fvs, els, h]
  · simp [fvs, els, h, el_fv]
theorem place_lt (x : Int) (n : Nat) (hn : 1 ≤ n) : 0 ≤ x % (n : Int) ∧ (x % (n : Int)).toNat < n := by
  have h1 := Int.emod_nonneg x (show (n : Int) ≠ 0 by omega)
  have h2 := Int.emod_lt_of_pos x (show (0 : Int) < n by omega)
  omega
/-- what stands at a place, when it was folded -/
theorem Sh.is (h : Sh p s e word) {R t : Nat} (ht : t < R) {places : List Int} {x : Int} (hx : x ∈ places) : isO p s e ((List.range R).map (opM p kk s e word D places)) (drR p kk D ((List.range R).map (rM p kk s e word D))) t x = co (Zp.els p (wM p kk s e word D (t + 1))) (x % ((nI e (t + 1) : Nat) : Int)).toNat := by
  have hp := place_lt x (nI e (t + 1)) (nI_pos _ _)
  unfold isO
  simp only
  rw [rowO_made ht hx, rowF_rowsL, if_pos hp.2, drR_made R t ht, wM_els]
  unfold foldL
  rw [co_tab, if_pos hp.2, getD_fvs_els, getD_fvs_els, co_els, co_els]
  rfl
theorem Sh.want (h : Sh p s e word) {R t : Nat} (ht : t < R) (hRe : R < e) {places : List Int} {x : Int} (hx : x ∈ places) : wantO p s e ((List.range R).map (opM p kk s e word D places)) (lastM p kk s e word D R) R t x = co (Zp.els p (wM p kk s e word D (t + 1))) (x % ((nI e (t + 1) : Nat) : Int)).toNat := by
  have hp := place_lt x (nI e (t + 1)) (nI_pos _ _)
  unfold wantO
  simp only
  by_cases hR : t + 1 = R
  · rw [if_pos hR]
    subst hR
    unfold lastM
    rw [els_fvs, ev_trim]
    exact val_coef h.pr (nI_pos _ _) (h.dvd _) (h.root _) (h.sq0 _) (by rw [Zp.els, List.length_map]; exact wM_len h.len _) hp.2
  · rw [if_neg hR]
    have hst : nI e (t + 1) = 2 * nI e (t + 2) := nI_step (show t + 1 < e by omega)
    have h2 := nI_pos e (t + 2)
    have hmm : x % ((nI e (t + 1) : Nat) : Int) % ((nI e (t + 2) : Nat) : Int) = x % ((nI e (t + 1 + 1) : Nat) : Int) := Int.emod_emod_of_dvd _ ⟨2, by rw [hst]; omega⟩
    rw [hmm, rowO_made (show t + 1 < R by omega) hx, getD_fvs_els, rowF_rowsL]
    have hp2 := place_lt x (nI e (t + 1 + 1)) (nI_pos _ _)
    rw [if_pos hp2.2, co_els]
    congr 1
    obtain ⟨y, hy⟩ : ∃ y : Nat, (y : Int) = x % ((nI e (t + 1) : Nat) : Int) := ⟨_, Int.toNat_of_nonneg hp.1⟩
    have hy2 : x % ((nI e (t + 1 + 1) : Nat) : Int) = ((y % nI e (t + 2) : Nat) : Int) := by rw [← hmm, ← hy, Int.natCast_emod]
    rw [hy2, ← hy, Int.toNat_natCast, Int.toNat_natCast]
    have hyl : y < 2 * nI e (t + 2) := by rw [← hst]; have := hp.2; rw [← hy, Int.toNat_natCast] at this; exact this
    rw [show (y : Int) / ((nI e (t + 2) : Nat) : Int) = ((y / nI e (t + 2) : Nat) : Int) by rw [Int.natCast_ediv], Int.toNat_natCast]
    have hdm := Nat.div_add_mod y (nI e (t + 2))
    have hd2 : y / nI e (t + 2) < 2 := Nat.div_lt_of_lt_mul (by rw [Nat.mul_comm]; exact hyl)
    by_cases hc : y / nI e (t + 2) = 0
    · rw [hc] at hdm ⊢
      have : y % nI e (t + 2) = y := by omega
      rw [this]
      rfl
    · have h1 : y / nI e (t + 2) = 1 := by
        have a1 := hd2
        have a2 := hc
        revert a1 a2
        generalize y / nI e (t + 2) = d
        omega
      rw [h1] at hdm ⊢
      have : y % nI e (t + 2) + nI e (t + 1 + 1) = y := by show y % nI e (t + 2) + nI e (t + 2) = y; omega
      show (List.getD [_, (wM p kk s e word D (t + 1)).getD (y % nI e (t + 2) + nI e (t + 1 + 1)) 0] 1 0) = _
      rw [this]
      rfl
/-- what Make makes is taken -/
theorem okO_made (h : Sh p s e word) (hje : j + 1 ≤ e) (he : e ≤ 16) (h0 : (trimL (coefL (sqI s 0) (rootI p ((nI e 0 : Nat) : Int)) (nI e 0) (Zp.els p word))).length ≤ nI j 0) (a : Nat) :
    okO p kk s e j (fldM p kk s e word D (rndK j) (placesL p kk (dLM p kk s e word D (rndK j)) ((nI e 1 : Nat) : Int) a)) D a = true := by
  have hRj : rndK j ≤ j := by unfold rndK; omega
  have hdl : dgL p kk D (fldM p kk s e word D (rndK j) (placesL p kk (dLM p kk s e word D (rndK j)) ((nI e 1 : Nat) : Int) a)).roots (fldM p kk s e word D (rndK j) (placesL p kk (dLM p kk s e word D (rndK j)) ((nI e 1 : Nat) : Int) a)).last = dLM p kk s e word D (rndK j) := dgL_made (rndK j)
  have hN : 1 ≤ ((nI e 1 : Nat) : Int) := by have := nI_pos e 1; omega
  refine okO_true (by simp [fldM]) ?_ (fun u hu => ?_) (fun x hx => ?_)
  · show degL (Zp.els p (lastM p kk s e word D (rndK j))) < _
    unfold lastM degL
    rw [els_fvs, trimL_trim]
    have := h.low (kk := kk) (D := D) h0 hje (rndK j) hRj
    omega
  · rw [hdl]
    have eo : opnO (fldM p kk s e word D (rndK j) (placesL p kk (dLM p kk s e word D (rndK j)) ((nI e 1 : Nat) : Int) a)).opens u = opM p kk s e word D (placesL p kk (dLM p kk s e word D (rndK j)) ((nI e 1 : Nat) : Int) a) u := by
      show opnO ((List.range (rndK j)).map _) u = _
      unfold opnO
      rw [List.getD_eq_getElem?_getD, List.getElem?_map, List.getElem?_range hu]
      rfl
    have er : (fldM p kk s e word D (rndK j) (placesL p kk (dLM p kk s e word D (rndK j)) ((nI e 1 : Nat) : Int) a)).roots.getD u [] = rM p kk s e word D u := by
      show ((List.range (rndK j)).map _).getD u [] = _
      rw [List.getD_eq_getElem?_getD, List.getElem?_map, List.getElem?_range hu]
      rfl
    rw [eo, er]
    unfold showF
    rw [Bool.and_eq_true, Bool.and_eq_true]
    refine ⟨decide_eq_true rfl, List.all_eq_true.2 fun r hr => ?_, takenB_iff.2 ?_⟩
    · obtain ⟨i, hi, rfl⟩ := List.mem_map.1 (show r ∈ openR p (rowsL (wM p kk s e word D u) (nI e (u + 1))) (onceL (modL (placesL p kk (dLM p kk s e word D (rndK j)) ((nI e 1 : Nat) : Int) a) (nI e (u + 1)))) from hr)
      have h1 := modL_in _ (nI_pos e (u + 1)) i ((mem_onceL i _).1 hi)
      rw [decide_eq_true_iff, fvs, List.length_map, Zp.els, List.length_map, rowF_rowsL, if_pos (by omega)]
      rfl
    · exact taken_opened (rowsL (wM p kk s e word D u) (nI e (u + 1))) (modL (placesL p kk (dLM p kk s e word D (rndK j)) ((nI e 1 : Nat) : Int) a) (nI e (u + 1))) (nI e (u + 1)) (nI_pos _ _) (nI_le he _) (modL_in _ (nI_pos _ _))
  · rw [hdl] at hx
    unfold goesO
    rw [List.all_eq_true]
    intro i hi
    have hi' := List.mem_range.1 hi
    rw [decide_eq_true_iff]
    exact (h.is hi' hx).trans (h.want hi' (by unfold rndK at hi' ⊢; omega) hx).symm
end
end Go.Proofs.YtonalbdehcmjmaaGreat

/- Walks: attestlaw5's plain and lives. -/
set_option linter.unusedVariables false
namespace Go.Proofs.YtonalbdehcmjmaaGreat
open Go.RowKit Zp

/-- is there a domain that can be halved? -/
def HasHalf (p size t : Int) : Prop := HasField p ∧ ∃ h : Nat, 0 < h ∧ size = ((2 * h : Nat) : Int) ∧ SizeOk p.toNat (2 * h) ∧ ¬ t % p = 0
theorem HasHalf.parts {p size t : Int} (h : HasHalf p size t) : ∃ q m : Nat, p = q ∧ 0 < m ∧ size = ((2 * m : Nat) : Int) ∧ 3 ≤ q ∧ q ≤ 2147483647 ∧ IsPrime q ∧ SizeOk q (2 * m) ∧ ¬ t % (q : Int) = 0 := by
  obtain ⟨⟨h3, hm, hpr⟩, m, hm0, rfl, hs, h0⟩ := h
  obtain ⟨q, rfl⟩ := Int.eq_ofNat_of_zero_le (a := p) (by omega)
  rw [Int.toNat_natCast] at hpr hs
  exact ⟨q, m, rfl, hm0, rfl, by omega, by omega, hpr, hs, h0⟩
theorem sizeOk_cases {p n : Nat} (h : SizeOk p n) : n = 1 ∨ ∃ m, 0 < m ∧ n = 2 * m := by
  obtain ⟨⟨k, _, e⟩, _⟩ := h
  cases k with
  | zero => exact .inl e
  | succ k => exact .inr ⟨2 ^ k, Nat.pow_pos (by omega), by rw [e, Nat.pow_succ, Nat.mul_comm]⟩

/-- no domain, or one of a point alone -/
theorem noHalf_cases {p size t : Int} (h : ¬ HasHalf p size t) : ¬ HasField p ∨ (HasField p ∧ ¬ ∃ n : Nat, size = n ∧ SizeOk p.toNat n ∧ ¬ t % p = 0) ∨ (HasField p ∧ size = 1 ∧ SizeOk p.toNat 1 ∧ ¬ t % p = 0) := by
  by_cases hF : HasField p
  · by_cases hD : ∃ n : Nat, size = n ∧ SizeOk p.toNat n ∧ ¬ t % p = 0
    · obtain ⟨n, rfl, hs, h0⟩ := hD
      rcases sizeOk_cases hs with h1 | ⟨m, hm, rfl⟩
      · exact .inr (.inr ⟨hF, by rw [h1]; rfl, by rw [← h1]; exact hs, h0⟩)
      · exact absurd ⟨hF, m, hm, rfl, hs, h0⟩ h
    · exact .inr (.inl ⟨hF, hD⟩)
  · exact .inl hF

abbrev Nil3 : Value := .tuple #[.pointer none, .pointer none, .pointer none]
set_option maxHeartbeats 2000000 in
theorem plain5_no (p size t : Int) (hs : I64 size) (ht : I64 t) (h : ¬ HasHalf p size t) (w : World) :
    Calls Tryz.prog 5 #[vi p, vi size, vi t] w fun e w' => SaysW Nil3 w e w' := by
  rcases noHalf_cases h with hF | ⟨hF, h'⟩ | ⟨hF, h1, hs1, h0⟩
  · have hn := fun w => new_none p w hF
    have HN := Lib.hid hn
    clear hn hF h
    go_enter Tryz.func5, Tryz.ntmps5
    go_wp2_with fail
    refine (HN.out _).mono ?_
    rintro e w1 ⟨rfl, rfl⟩
    go_wp2
    go_ret3
    exact ⟨rfl, Below.refl _ _⟩
  · obtain ⟨h3, hm, hpr⟩ := hF
    obtain ⟨q, rfl⟩ := Int.eq_ofNat_of_zero_le (a := p) (by omega)
    rw [Int.toNat_natCast] at hpr h'
    haveI := hpr.ne
    have hn := fun w => new_prime q w (by omega) (by omega) hpr
    have HN := Lib.hid hn
    have H' := Lib.hid h'
    clear hn hm h3 h h'
    go_enter Tryz.func5, Tryz.ntmps5
    go_wp2_with fail
    refine (HN.out _).mono ?_
    rintro e w1 ⟨b, rfl, F, hbel, _⟩
    go_wp2_with fail
    refine (dnew_none q _ b size t hs ht _ F H'.out).mono ?_
    rintro e w2 ⟨rfl | rfl, rfl⟩
    · go_wp2
      go_ret3
      exact ⟨rfl, hbel⟩
    · go_wp2
      go_ret3
      exact ⟨rfl, hbel⟩
  · obtain ⟨h3, hm, hpr⟩ := hF
    obtain ⟨q, rfl⟩ := Int.eq_ofNat_of_zero_le (a := p) (by omega)
    rw [Int.toNat_natCast] at hpr hs1
    haveI := hpr.ne
    have hn := fun w => new_prime q w (by omega) (by omega) hpr
    have hd := fun w S b F => dnew_ok q S b 1 t ht hs1 (fun h => h0 (el_eq_zero.1 h)) w F
    have HN := Lib.hid hn
    have HD := Lib.hid hd
    clear hn hm h3 h hd h0 hs1 hs
    rw [h1]
    clear h1
    go_enter Tryz.func5, Tryz.ntmps5
    go_wp2_with fail
    refine (HN.out _).mono ?_
    rintro e w1 ⟨b, rfl, F, hbel, _⟩
    go_wp2_with fail
    refine (HD.out _ _ b F).mono ?_
    rintro e w2 ⟨D, rfl, hDm, hb2, _⟩
    go_wp2_with fail
    refine (half_one q _ D b _ _ hDm).mono ?_
    rintro e w3 ⟨rfl, rfl⟩
    go_wp2
    go_ret3
    exact ⟨rfl, hbel.trans (hb2.mono hbel.size)⟩

def PlainHalf (q m : Nat) [NeZero q] (t : Int) (w : World) (e : Ending) (w' : World) : Prop :=
  ∃ b D H : Nat, e = .returned (.tuple #[.pointer (some ⟨b, 0, none⟩), .pointer (some ⟨D, 0, none⟩), .pointer (some ⟨H, 0, none⟩)]) ∧ Dom w' w'.heap.size D b q (2 * m) (el q t) ∧ Dom w' w'.heap.size H b q m (el q t * el q t) ∧ Below w.heap.size w w'
theorem Dom.moreS {w : World} {S S' D b p n : Nat} [NeZero p] {s : Fin p} (h : Dom w S D b p n s) (h1 : S ≤ S') (h2 : S' ≤ w.heap.size) : Dom w S' D b p n s := by
  obtain ⟨F, l, c0, c1, c2, c3, s0, sz⟩ := h
  obtain ⟨A, c, fs, f1, f2, f3, f4⟩ := F.c1
  exact ⟨⟨F.prime, F.three, F.max, Nat.lt_of_lt_of_le F.lt h1, h2, F.c0, ⟨A, c, fs, f1, f2, f3, f4.more h1⟩, F.c2⟩, Nat.lt_of_lt_of_le l h1, c0, c1, c2, c3, s0, sz⟩
set_option maxHeartbeats 1000000 in
theorem plain5_yes (q m : Nat) [NeZero q] (t : Int) (ht : I64 t) (hq : IsPrime q) (h3 : 3 ≤ q) (hm : q ≤ 2147483647) (hm0 : 0 < m) (hn : SizeOk q (2 * m)) (h0 : ¬ t % (q : Int) = 0) (w : World) :
    Calls Tryz.prog 5 #[vi q, vi ((2 * m : Nat) : Int), vi t] w fun e w' => PlainHalf q m t w e w' := by
  have hn1 := fun w => new_prime q w h3 hm hq
  have hd := fun w S b F => dnew_ok q S b (2 * m) t ht hn (fun h => h0 (el_eq_zero.1 h)) w F
  have hh := fun w S D b hD => half_any q S D b (2 * m) m rfl hm0 (el q t) w hD
  have HN := Lib.hid hn1
  have HD := Lib.hid hd
  have HH := Lib.hid hh
  clear hn1 hd h0 hn hh
  obtain ⟨n, hnn⟩ : ∃ n, n = 2 * m := ⟨_, rfl⟩
  rw [← hnn] at HD HH ⊢
  have HNN := Lib.hid hnn
  clear hnn
  go_enter Tryz.func5, Tryz.ntmps5
  go_wp2_with fail
  refine (HN.out _).mono ?_
  rintro e w1 ⟨b, rfl, F, hbel, _⟩
  go_wp2_with fail
  refine (HD.out _ _ b F).mono ?_
  rintro e w2 ⟨D, rfl, hDm, hb2, _⟩
  go_wp2_with fail
  refine (HH.out _ _ D b hDm).mono ?_
  rintro e w3 ⟨H, rfl, hHm, hb3, _⟩
  go_wp2
  go_ret3
  rw [el_fv] at hHm
  have hb12 := hbel.trans (hb2.mono hbel.size)
  refine ⟨b, D, H, rfl, ?_, hHm, hb12.trans (hb3.mono hb12.size)⟩
  rw [← HNN.out]
  exact (hDm.below hb3 (Nat.le_refl _)).moreS hb3.size (Nat.le_refl _)

theorem fold17 : fvs (foldL (el 17 3) (rootI 17 ((4 : Nat) : Int)) 2 (els 17 [4, 6, 15, 13]) (el 17 2)) = [3, 3] := by
  rw [root17]
  decide

set_option maxRecDepth 100000 in
set_option maxHeartbeats 2000000 in
theorem lives5_any (w : World) : Calls Tryz.prog 4 #[] w fun e w' => SaysW (.bool true) w e w' := by
  have hpl := plain5_yes 17 2 3 (by constructor <;> omega) prime17 (by omega) (by omega) (by omega) size4 (by decide) w
  have HP := Lib.hid hpl
  clear hpl
  go_enter Tryz.func4, Tryz.ntmps4
  go_wp2_with fail
  refine (HP.out).mono ?_
  rintro e w1 ⟨b, D, H, rfl, hD, hH, hb1⟩
  have hv := values_any 17 w1.heap.size D b 4 (el 17 3) (some ⟨w1.heap.size, 0, none⟩) 2 [1, 1] (by decide) (by decide) _ (hD.alloc _) (sl_lit w1 [1, 1])
  rw [vals17] at hv
  have HV := Lib.hid hv
  clear hv
  go_wp2_with fail
  refine (HV.out).mono ?_
  rintro e w2 ⟨A, c, rfl, _, _, hs, hb2⟩
  have hb3 : Below w.heap.size w w2 := (hb1.alloc hb1.size _).trans (hb2.mono (by simp; have := hb1.size; omega))
  have hD2 := (hD.alloc _).below hb2 (by simp)
  have hf := fold_any 17 w1.heap.size D b 4 2 rfl (by omega) (el 17 3) A c [4, 6, 15, 13] rfl (by decide) 2 (by constructor <;> omega) w2 hD2 hs
  rw [fold17] at hf
  have HF := Lib.hid hf
  clear hf
  go_wp2_with fail
  refine (HF.out).mono ?_
  rintro e w3 ⟨v, rfl, hown, hb4⟩
  obtain ⟨g, c4, rfl, _, _⟩ := hown.block (by simp)
  have hc0 := hown.at_ rfl 0 (by simp)
  have hc1 := hown.at_ rfl 1 (by simp)
  go_wp2
  go_ret
  exact ⟨rfl, hb3.trans (hb4.mono hb3.size)⟩
end Go.Proofs.YtonalbdehcmjmaaGreat

/- The walk of the law FoldShows. -/
set_option linter.unusedVariables false
namespace Go.Proofs.YtonalbdehcmjmaaGreat
open Go.RowKit Zp
/-- which degrees and places may be -/
theorem may_splitS {q n : Nat} {k asked : Int} (hs : SizeOk q n) (h : fmayB n k asked = true) : ∃ e j a : Nat, e ≤ 16 ∧ n = nI e 0 ∧ k = ((nI j 0 : Nat) : Int) ∧ j + 1 ≤ e ∧ asked = (a : Int) ∧ 1 ≤ a ∧ a ≤ 64 := by
  unfold fmayB at h
  obtain ⟨h1, h2, h3, h4, h5, h6⟩ := of_decide_eq_true h
  obtain ⟨⟨e, he, hn⟩, _⟩ := hs
  obtain ⟨j, hj⟩ := (two_pow_iff k.toNat (by omega)).1 h3
  refine ⟨e, j, asked.toNat, he, hn, by unfold nI; rw [Nat.sub_zero, ← hj]; omega, ?_, by omega, by omega, by omega⟩
  have h7 : 2 ^ (j + 1) ≤ 2 ^ e := by rw [Nat.pow_succ, ← hj, ← hn]; omega
  exact (Nat.pow_le_pow_iff_right (by omega)).1 h7
/-- what Make leaves, when all of it is shown -/
def ShQ (f : FldI) (pl D' : List Int) (c sg : Nat) (w : World) (ee : Ending) (w' : World) : Prop :=
  ∃ (AR : Option Addr) (nR cR : Nat) (AL : Option Addr) (nL cL : Nat) (AO : Option Addr) (nO cO : Nat) (A : Option Addr) (n d : Nat), ee = .returned (.tuple #[.agg #[.slice AR nR cR, .slice AL nL cL, .slice AO nO cO], .slice A n d, .nilIface]) ∧
    (∀ w'', SafeO w' w'' → FAt w'' AR nR cR AL nL cL AO nO cO f) ∧
    (∀ k, k < f.opens.length → ∃ (ao : Addr) (A0 : Option Addr) (n0 c0 : Nat) (BR : Option Addr) (mR dR : Nat) (BN : Option Addr) (mN dN : Nat), AO = some ao ∧ ∀ w'', SafeO w' w'' → w''.cell? (ao.add (k * 3)) = some (.slice A0 n0 c0) ∧ w''.cell? ⟨(ao.add (k * 3)).block, (ao.add (k * 3)).off + 1, none⟩ = some (.slice BR mR dR) ∧ w''.cell? ⟨(ao.add (k * 3)).block, (ao.add (k * 3)).off + 2, none⟩ = some (.slice BN mN dN) ∧ OpnAt w'' A0 n0 c0 (opnO f.opens k).l BR mR dR (opnO f.opens k).rs BN mN dN (opnO f.opens k).ns) ∧
    Own w' w.heap.size (.slice A n d) pl ∧ Chn w' c sg D' ∧ w.grownBy w' (some c)
/-- what Check leaves, when it is taken -/
def ShC (l D' : List Int) (c sg : Nat) (w : World) (ee : Ending) (w' : World) : Prop := CkIs true l w ee w' ∧ Chn w' c sg D' ∧ w.grownBy w' (some c)
def ShMk (q kk : Nat) [NeZero q] (n : Nat) (s : Fin q) (k asked : Int) (word D : List Int) (f : FldI) (pl D' : List Int) : Prop :=
  ∀ (S1 b1 sg z : Nat) (oo : Nat → Nat → Fin q) (c Dd b2 S2 : Nat) (AW : Option Addr) (cW : Nat) (w : World), Fld w S1 b1 q → Spg w sg b1 kk z oo → S1 ≤ c → sg < c → Chn w c sg D → Dom w S2 Dd b2 q n s → S2 ≤ c → SL w AW word → (∀ ad, AW = some ad → ∃ cs, Blk w ad.block 3 cs) →
    Calls Tryz.prog 9 #[.pointer (some ⟨sg, 0, none⟩), .pointer (some ⟨c, 0, none⟩), .pointer (some ⟨Dd, 0, none⟩), vi k, .slice AW n cW, vi asked] w (ShQ f pl D' c sg w)
def ShCk (q kk : Nat) [NeZero q] (n : Nat) (s : Fin q) (k asked : Int) (f : FldI) (D pl D' : List Int) : Prop :=
  ∀ (S1 b1 sg z : Nat) (oo : Nat → Nat → Fin q) (c Dd b2 S2 : Nat) (AR : Option Addr) (nR cR : Nat) (AL : Option Addr) (nL cL : Nat) (AO : Option Addr) (nO cO : Nat) (w : World), Fld w S1 b1 q → Spg w sg b1 kk z oo → S1 ≤ c → sg < c → Chn w c sg D → Dom w S2 Dd b2 q n s → S2 ≤ c →
    (∀ w', w.grownBy w' (some c) → FAt w' AR nR cR AL nL cL AO nO cO f) → (∀ k, k < f.opens.length → OKeep w c AO k (opnO f.opens k)) →
    Calls Tryz.prog 10 #[.pointer (some ⟨sg, 0, none⟩), .pointer (some ⟨c, 0, none⟩), .pointer (some ⟨Dd, 0, none⟩), vi k, vi asked, .agg #[.slice AR nR cR, .slice AL nL cL, .slice AO nO cO]] w (ShC pl D' c sg w)
set_option maxHeartbeats 1000000 in
theorem shows5 (q kk : Nat) [NeZero q] (hpr : IsPrime q) (h3 : 3 ≤ q) (n : Nat) (hsz : SizeOk q n) (s : Fin q) (s0 : s ≠ 0) (k asked : Int) (hk : I64 k) (word : List Int) (hlen : word.length = n) (hiw : ∀ x ∈ word, I64 x) (D : List Int) :
    (∃ E : Int, E ≠ 0 ∧ ∀ (c sg Dd b2 S2 : Nat) (AW : Option Addr) (cW : Nat) (w : World), Dom w S2 Dd b2 q n s → SL w AW word → Calls Tryz.prog 9 #[.pointer (some ⟨sg, 0, none⟩), .pointer (some ⟨c, 0, none⟩), .pointer (some ⟨Dd, 0, none⟩), vi k, .slice AW n cW, vi asked] w (MkNo E w)) ∨
    (∃ f pl D', asked = (pl.length : Int) ∧ pl.length ≤ 64 ∧ ShMk q kk n s k asked word D f pl D' ∧ ShCk q kk n s k asked f D pl D') := by
  cases hmay : fmayB n k asked with
  | false => exact .inl ⟨2, by decide, fun c sg Dd b2 S2 AW cW w hd hs => fmake_no1 c sg Dd n k asked hk hsz.le AW n cW hmay w hd.c1⟩
  | true =>
    cases hcw : cwB q n s k word with
    | false => exact .inl ⟨3, by decide, fun c sg Dd b2 S2 AW cW w hd hs => fmake_no3 q c sg Dd b2 S2 n s k asked hk hsz.le AW cW word hlen hiw hmay hcw w hd hs⟩
    | true =>
      obtain ⟨e, j, a, he, rfl, rfl, hje, rfl, ha1, ha2⟩ := may_splitS hsz hmay
      have hSh : Sh q s e word := ⟨hpr, h3, hsz, s0, hlen⟩
      have h0 : (trimL (coefL (sqI s 0) (rootI q ((nI e 0 : Nat) : Int)) (nI e 0) (Zp.els q word))).length ≤ nI j 0 := by
        unfold cwB at hcw
        have := (of_decide_eq_true hcw).2.2
        exact_mod_cast this
      have hok := okO_made (kk := kk) (D := D) hSh hje he h0 a
      refine .inr ⟨fldM q kk s e word D (rndK j) (plM q kk s e word D (rndK j) a), plM q kk s e word D (rndK j) a, iterP q kk (dLM q kk s e word D (rndK j)) a, by unfold plM; rw [placesL_len], by unfold plM; rw [placesL_len]; exact ha2, ?_, ?_⟩
      · intro S1 b1 sg z oo c Dd b2 S2 AW cW w F G hS1 hsc hC hd hS2 hs hb
        refine (fmake_yes q S1 b1 sg kk z oo c D Dd b2 S2 s e j he hje (by omega) a ha1 ha2 hmay word AW cW hlen hiw hcw w F G hS1 hsc hC hd hS2 hs hb).mono fun ee w' h => ?_
        obtain ⟨AR, nR, AL, nL, cL, AO, nO, v, h1, h2, hk2, h3, h4, h5⟩ := h
        obtain ⟨A, m, d, rfl, _⟩ := h3.shapeN
        refine ⟨AR, nR, nR, AL, nL, cL, AO, nO, nO, A, m, d, h1, h2, fun k hk => ?_, h3, h4, h5⟩
        have hkR : k < rndK j := by simpa [fldM] using hk
        have eo : opnO (fldM q kk s e word D (rndK j) (plM q kk s e word D (rndK j) a)).opens k = opM q kk s e word D (plM q kk s e word D (rndK j) a) k := by
          show opnO ((List.range (rndK j)).map _) k = _
          unfold opnO
          rw [List.getD_eq_getElem?_getD, List.getElem?_map, List.getElem?_range hkR]
          rfl
        rw [eo]
        exact hk2 k hkR
      · intro S1 b1 sg z oo c Dd b2 S2 AR nR cR AL nL cL AO nO cO w F G hS1 hsc hC hd hS2 hO hOE
        refine (fck_yes q S1 b1 sg kk z oo c D Dd b2 S2 s e j he hje (by omega) a ha1 ha2 hmay (fldM q kk s e word D (rndK j) (plM q kk s e word D (rndK j) a)) (by simp [fldM]) w F G hS1 hsc hC hd hS2 hO hOE).mono fun ee w' h => ?_
        have hdl : dgL q kk D (fldM q kk s e word D (rndK j) (plM q kk s e word D (rndK j) a)).roots (fldM q kk s e word D (rndK j) (plM q kk s e word D (rndK j) a)).last = dLM q kk s e word D (rndK j) := dgL_made (rndK j)
        unfold CkP at h
        rw [show okO q kk s e j (fldM q kk s e word D (rndK j) (plM q kk s e word D (rndK j) a)) D a = true from hok, if_pos rfl, hdl] at h
        exact h
theorem grown_chn {w w' : World} {x s : Nat} {D : List Int} (h : Chn w x s D) (hg : w.grownBy w' (some x)) : SafeO w w' := by
  obtain ⟨v, hv⟩ := h.obj
  exact SafeO.one hg hv (by decide) (by decide)
theorem Chn.two {w w' : World} {c x s s' : Nat} {D D' : List Int} (h : Chn w c s D) (hx : Chn w x s' D') (hg : w.grownBy w' (some x)) (hne : c ≠ x) : Chn w' c s D := h.hold (grown_chn hx hg).1 (hg.block c h.lt (fun e => by injection e with e; exact hne e))
set_option maxRecDepth 100000 in
set_option maxHeartbeats 4000000 in
theorem fshows_walk (w : World) (p : Int) (hp : I64 p) (size : Int) (hs : I64 size) (t : Int) (ht : I64 t) (k : Int) (hk : I64 k) (A : Option Addr) (na ca : Nat) (xs : List Int) (ha : ArgS w A na ca xs) (asked : Int) (hka : I64 asked) (AB : Option Addr) (nB cB : Nat) (label : List Int) (hB : ArgS w AB nB cB label) :
    Calls Tryz.prog 3 #[vi p, vi size, vi t, vi k, .slice A na ca, vi asked, .slice AB nB cB] w fun e w' => SaysW (.bool true) w e w' := by
  by_cases hF : HasHalf p size t
  · obtain ⟨q, m, rfl, hm0, rfl, h3, hm, hpr, hsn, h0⟩ := hF.parts
    haveI := hpr.ne
    have HPL := Lib.hid (fun w => plain5_yes q m t ht hpr h3 hm hm0 hsn h0 w)
    obtain ⟨n, hnn⟩ : ∃ n, n = 2 * m := ⟨_, rfl⟩
    rw [← hnn] at HPL hsn ⊢
    have HNN := Lib.hid hnn
    have HSZ := Lib.hid hsn
    have HA := Lib.hid ha
    have HB := Lib.hid hB
    have HK := Lib.hid hk
    have HPR := Lib.hid hpr
    have HS0 : Hid (el q t ≠ 0) := Lib.hid (fun h => h0 (el_eq_zero.1 h))
    clear hF hnn hsn ha hB hk hpr h0 hp hs ht hka
    go_enter Tryz.func3, Tryz.ntmps3
    go_wp2_with fail
    refine (lives5_any _).mono ?_
    rintro _ w1 ⟨rfl, hb1⟩
    go_wp2_with fail
    refine (HPL.out _).mono ?_
    rintro _ w2 ⟨b, Dd, H, rfl, hD, _, hb2⟩
    rw [← HNN.out] at hD
    have hb02 := hb1.trans (hb2.mono hb1.size)
    have HD2 := Lib.hid hD
    have HB02 := Lib.hid hb02
    have hFd := hD.fld
    by_cases h23 : q < 23
    · have HSP := Lib.hid (spnew_none q w2.heap.size b h23 w2 hFd)
      clear hb1 hb2 hD hFd hb02
      go_wp2_with fail
      refine HSP.out.mono ?_
      rintro _ _ ⟨rfl, rfl⟩
      go_wp2
      go_ret
      exact ⟨rfl, HB02.out⟩
    · have HSP := Lib.hid (spnew_any q w2.heap.size b (by omega) w2 hFd)
      clear hb1 hb2 hD hFd hb02
      go_wp2_with fail
      refine HSP.out.mono ?_
      rintro _ w3 ⟨rfl, ⟨kk, z, oo, G⟩, hb3⟩
      have hb03 := HB02.out.trans (hb3.mono HB02.out.size)
      have hD3 := HD2.out.below hb3 (Nat.le_refl _)
      have HG3 := Lib.hid G
      have HD3 := Lib.hid hD3
      have HB03 := Lib.hid hb03
      have HSG : Hid (w2.heap.size < w3.heap.size) := Lib.hid (block_lt_of_cell G.c0)
      have hsa := HA.out.sl.below hb03
      by_cases hok : (1 ≤ k ∧ k ≤ n) ∧ degL (els q xs) < k
      · have HEN := Lib.hid (encode_blk q w2.heap.size Dd b n (el q t) k hok.1 A na ca xs HA.out.len HA.out.i64 (by have := HA.out.r8; have := HA.out.len; omega) w3 hD3 hsa hok.2)
        clear G hb3 hb03 hD3 hsa hok
        go_wp2_with fail
        refine HEN.out.mono ?_
        rintro _ w4 ⟨AW, cW, hlw, rfl, hcw1, hcw2, hsw, hb4, hbw⟩
        obtain ⟨word, hwd⟩ : ∃ l, l = fvs (valL (el q t) (rootI q (n : Int)) n (els q xs)) := ⟨_, rfl⟩
        rw [← hwd] at hlw hsw
        have hiw : ∀ x ∈ word, I64 x := fun x hx => by
          rw [hwd] at hx
          obtain ⟨y, _, rfl⟩ := List.mem_map.1 hx
          exact i64_fv _ hm
        have hb04 := HB03.out.trans (hb4.mono HB03.out.size)
        have hF4 := (HD3.out.fld).below hb4 HD3.out.fld.le
        have hG4 := HG3.out.below hb4 HSG.out
        have HCN := Lib.hid (fun (W : World) (hb : Below w4.heap.size w4 W) => chnew_any q w2.heap.size b w2.heap.size kk z oo AB nB cB label HB.out.len HB.out.i64 (by have := HB.out.reach; have := HB.out.cap; omega) W (hF4.below hb hF4.le) (hG4.below hb (block_lt_of_cell hG4.c0)) ((HB.out.sl.below hb04).below hb))
        have hS5 := shows5 q kk HPR.out h3 n HSZ.out (el q t) HS0.out k asked HK.out word hlw hiw (digL q kk (2 :: label))
        have HF4 := Lib.hid hF4
        have HG4 := Lib.hid hG4
        have HD4 := Lib.hid (HD3.out.below hb4 HD3.out.fld.le)
        have HB04 := Lib.hid hb04
        have HSW := Lib.hid hsw
        have HBW := Lib.hid hbw
        have HLE : Hid (w2.heap.size ≤ w4.heap.size ∧ w2.heap.size < w4.heap.size) := Lib.hid (by have := HSG.out; have := hb4.size; omega)
        clear hF4 hG4 hb04 hsw hbw hb4 hiw hwd hlw hcw1 hcw2
        go_wp2_with fail
        refine (HCN.out w4 (Below.refl _ _)).mono ?_
        rintro _ w5 ⟨rfl, hC5, hb5⟩
        have HC5 := Lib.hid hC5
        have HB5 := Lib.hid hb5
        clear hC5 hb5
        go_wp2_with fail
        refine (HCN.out w5 HB5.out).mono ?_
        rintro _ w6 ⟨rfl, hE6, hb6⟩
        have hb46 := HB5.out.trans (hb6.mono HB5.out.size)
        have HC6 := Lib.hid (HC5.out.below hb6)
        have HE6 := Lib.hid hE6
        have HB46 := Lib.hid hb46
        have HL5 : Hid (w4.heap.size < w5.heap.size) := Lib.hid HC5.out.lt
        have HB06 := Lib.hid (HB04.out.trans (hb46.mono HB04.out.size))
        clear hE6 hb6 hb46
        rcases hS5 with ⟨E, hE0, hmk⟩ | ⟨f, pl, D', hpl, hpl2, hmk, hck⟩
        · have HMK := Lib.hid (hmk w4.heap.size w2.heap.size Dd b w2.heap.size AW cW w6 (HD4.out.below HB46.out HD4.out.fld.le) (HSW.out.below HB46.out))
          clear hmk
          go_wp2_with fail
          refine HMK.out.mono ?_
          rintro _ w7 ⟨rfl, hb7⟩
          have hb07 := HB06.out.trans (hb7.mono HB06.out.size)
          have HBF := Lib.hid (hb07.alloc hb07.size (.cells #[.slice none 0 0, .slice none 0 0, .slice none 0 0] 40))
          clear hb7 hE0 hb07
          go_wp2
          go_ret
          exact ⟨rfl, HBF.out⟩
        · have HMK := Lib.hid (hmk w2.heap.size b w2.heap.size z oo w4.heap.size Dd b w2.heap.size AW cW w6 (HF4.out.below HB46.out HF4.out.le) (HG4.out.below HB46.out (block_lt_of_cell HG4.out.c0)) HLE.out.1 HLE.out.2 HC6.out (HD4.out.below HB46.out HD4.out.fld.le) HLE.out.1 (HSW.out.below HB46.out) (fun ad e => by obtain ⟨cs, hcs⟩ := HBW.out ad e; exact ⟨cs, hcs.below HB46.out hcs.lt⟩))
          have HCK := Lib.hid hck
          have HPLL := Lib.hid (And.intro hpl hpl2)
          clear hmk hck hpl hpl2
          go_wp2_with fail
          refine HMK.out.mono ?_
          rintro _ w7 ⟨CR, kR, eR, CL, kL, eL, CO, kO, eO, A5, n5, c5, rfl, hf7, hk7, ho7, hC7, hg7⟩
          obtain ⟨w8, hw8⟩ : ∃ w8, w8 = w7.alloc (.cells #[.slice CR kR eR, .slice CL kL eL, .slice CO kO eO] 40) := ⟨_, rfl⟩
          have hb78 : Below w7.heap.size w7 w8 := by rw [hw8]; exact (Below.refl _ _).alloc (Nat.le_refl _) _
          have hBO : Blk w8 w7.heap.size 40 #[.slice CR kR eR, .slice CL kL eL, .slice CO kO eO] := by rw [hw8]; exact Blk.new _ _ _
          have hb07 : Below w.heap.size w w7 := HB06.out.grown hg7 HB06.out.size (fun x hx => by injection hx with hx; have := HB04.out.size; omega)
          have hb08 := hb07.trans (hb78.mono hb07.size)
          have hE7 := HE6.out.two HC6.out hg7 (by have := HL5.out; omega)
          have hlc : w4.heap.size ≤ w6.heap.size := HB46.out.size
          have hb68 : Below w4.heap.size w6 w8 := by
            have h1 : Below w4.heap.size w6 w7 := grown_below hg7 hlc
            exact h1.trans (hb78.mono (Nat.le_trans hlc h1.size))
          have hF8 := ((HF4.out.below HB46.out HF4.out.le).below hb68 HLE.out.1)
          have hG8 := ((HG4.out.below HB46.out (block_lt_of_cell HG4.out.c0)).below hb68 HLE.out.2)
          have hD8 := ((HD4.out.below HB46.out HD4.out.fld.le).below hb68 HLE.out.1)
          have hs78 : SafeO w7 w8 := SafeO.of hb78
          have hE8 := hE7.below hb78
          have HCC := Lib.hid (HCK.out w2.heap.size b w2.heap.size z oo w5.heap.size Dd b w2.heap.size CR kR eR CL kL eL CO kO eO w8 hF8 hG8 (by have := HLE.out; have := HL5.out; omega) (by have := HLE.out; have := HL5.out; omega) hE8 hD8 (by have := HLE.out; have := HL5.out; omega)
            (fun w' hg => hf7 w' (hs78.trans (grown_chn hE8 hg))) (fun u hu => by
              obtain ⟨ao, A0, n0, c0, BR, mR, dR, BN, mN, dN, e1, e2⟩ := hk7 u hu
              exact ⟨ao, A0, n0, c0, BR, mR, dR, BN, mN, dN, e1, fun w' hg => e2 w' (hs78.trans (grown_chn hE8 hg))⟩))
          have x0 := (hBO.cell 0).trans (show _ = some (.slice CR kR eR) from rfl)
          have x1 := (hBO.cell 1).trans (show _ = some (.slice CL kL eL) from rfl)
          have x2 := (hBO.cell 2).trans (show _ = some (.slice CO kO eO) from rfl)
          have HC8 := Lib.hid (hC7.below hb78)
          have HE8 := Lib.hid hE8
          have HO8 := Lib.hid (ho7.safe hs78.1)
          have HF8 := Lib.hid hF8
          have HG8 := Lib.hid hG8
          have HB08 := Lib.hid hb08
          have HW8 := Lib.hid hw8
          have HL48 : Hid (w4.heap.size ≤ w8.heap.size ∧ w5.heap.size ≤ w8.heap.size) := Lib.hid (by have := hb68.size; have := hE8.lt; omega)
          have HC4 := HLE.out
          clear hb78 hBO hb07 hb08 hE7 hlc hb68 hF8 hG8 hD8 hs78 hE8 hf7 hk7 ho7 hC7 hg7 hw8
          go_upto_region 20 with (fail)
          rw [← HW8.out]
          go_wp2_with fail
          refine HCC.out.mono ?_
          rintro _ w9 ⟨⟨B1, n1, c1, rfl, hl1, hr1, sl1, hi1, hlo1⟩, hE9, hg9⟩
          have hC9 := HC8.out.two HE8.out hg9 (by have := HL5.out; omega)
          have hO9 := HO8.out.safe (grown_chn HE8.out hg9).1
          have hb09 : Below w.heap.size w w9 := HB08.out.grown hg9 HB08.out.size (fun x hx => by injection hx with hx; have := HB04.out.size; have := HL5.out; omega)
          have hb89 : Below w5.heap.size w8 w9 := grown_below hg9 HL48.out.2
          have hl5 : pl.length = n5 := by
            obtain ⟨A', n', c', e, hl, _⟩ := hO9.shapeN
            injection e with _ e2 _
            rw [e2]; exact hl
          have HIS := Lib.hid (ints_sameH A5 B1 n5 c5 n1 c1 pl pl hl5 hl1 rfl (by have := HPLL.out; omega) w9 (sl_of hO9) sl1)
          have HF9 := Lib.hid (HF8.out.below hb89 (by have := HLE.out; have := HL5.out; omega))
          have HG9 := Lib.hid (HG8.out.below hb89 (by have := HLE.out; have := HL5.out; omega))
          have HC9 := Lib.hid hC9
          have HE9 := Lib.hid hE9
          have HB09 := Lib.hid hb09
          have HN5 : Hid ((n5 : Int) = asked) := Lib.hid (by rw [HPLL.out.1, hl5])
          have HL9 : Hid (w4.heap.size ≤ w9.heap.size) := Lib.hid (Nat.le_trans HL48.out.1 hb89.size)
          clear hC9 hO9 hb09 hb89 hl1 hr1 sl1 hi1 hlo1 hE9 hg9 hl5 x0 x1 x2
          go_wp2_with fail
          refine HIS.out.mono ?_
          rintro _ _ ⟨rfl, k1, rfl⟩
          have HD1 := Lib.hid (chdraw_any q w2.heap.size b w2.heap.size kk z w4.heap.size oo D' (w9.drewN k1) (HF9.out.below (below_drewN (Below.refl _ _) k1) HF9.out.le) (HG9.out.below (below_drewN (Below.refl _ _) k1) (block_lt_of_cell HG9.out.c0)) HLE.out.1 HLE.out.2 (HC9.out.drewN k1))
          go_wp2_with fail
          refine HD1.out.mono ?_
          rintro _ w10 ⟨rfl, _, hg10, _⟩
          have hg10' : w9.grownBy w10 (some w4.heap.size) := grownBy_trans (grown_of_below (below_drewN (Below.refl _ _) k1) (some w4.heap.size)) hg10
          have hb910 : Below w4.heap.size w9 w10 := grown_below hg10' HL9.out
          have hE10 := HE9.out.two HC9.out hg10' (by have := HL5.out; omega)
          have HD2' := Lib.hid (chdraw_any q w2.heap.size b w2.heap.size kk z w5.heap.size oo D' w10 (HF9.out.below hb910 HLE.out.1) (HG9.out.below hb910 HLE.out.2) (by have := HLE.out; have := HL5.out; omega) (by have := HLE.out; have := HL5.out; omega) hE10)
          have HB010 : Hid (Below w.heap.size w w10) := Lib.hid (HB09.out.grown hg10' HB09.out.size (fun x hx => by injection hx with hx; have := HB04.out.size; omega))
          clear hg10 hg10' hb910 hE10
          go_wp2_with fail
          refine HD2'.out.mono ?_
          rintro _ w11 ⟨rfl, _, hg11, _⟩
          have HBF : Hid (Below w.heap.size w w11) := Lib.hid (HB010.out.grown hg11 HB010.out.size (fun x hx => by injection hx with hx; have := HB04.out.size; have := HL5.out; omega))
          have tl : ((n5 : Int) == asked) = true := by rw [HN5.out]; simp
          clear hg11
          go_wp2
          go_ret
          exact ⟨rfl, HBF.out⟩
      · have HEN := Lib.hid (encode_all q w2.heap.size Dd b n (el q t) k A na ca xs HA.out.len HA.out.i64 (by have := HA.out.r8; have := HA.out.len; omega) w3 hD3 hsa)
        have HOK := Lib.hid hok
        clear G hb3 hb03 hD3 hsa hok
        go_wp2_with fail
        refine HEN.out.mono ?_
        rintro _ w4 hen
        rcases hen with ⟨_, hee, rfl⟩ | ⟨h, _⟩
        · rcases hee with rfl | rfl
          · go_wp2
            go_ret
            exact ⟨rfl, HB03.out⟩
          · go_wp2
            go_ret
            exact ⟨rfl, HB03.out⟩
        · exact absurd h HOK.out
  · have HPN := Lib.hid (fun w => plain5_no p size t hs ht hF w)
    clear hF hp hs ht hk hka ha hB
    go_enter Tryz.func3, Tryz.ntmps3
    go_wp2_with fail
    refine (lives5_any _).mono ?_
    rintro _ w1 ⟨rfl, hb1⟩
    go_wp2_with fail
    refine (HPN.out _).mono ?_
    rintro _ w2 ⟨rfl, hb2⟩
    have HBF := Lib.hid (hb1.trans (hb2.mono hb1.size))
    clear hb1 hb2
    go_wp2
    go_ret
    exact ⟨rfl, HBF.out⟩
end Go.Proofs.YtonalbdehcmjmaaGreat
