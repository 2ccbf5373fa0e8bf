/- A bundle of texts: Fl, Rp, Rq, Lv2, Md, Coef, LawG3, Spo, Qp, Sp, Ph, Rk5, Rk6, Shl, Srt, Eq. -/
import Derived.Test.YtonalbdehcmjmaaGreatQ07
import Derived.Test.YtonalbdehcmjmaaGreatQ03
import Derived.Test.YtonalbdehcmjmaaGreatQ01
import Derived.Test.YtonalbdehcmjmaaGreatQ02
import Derived.Test.YtonalbdehcmjmaaGreatQ00
import Derived.Test.YtonalbdehcmjmaaGreatQ04
import Derived.RegionTactic
import Derived.ChangeAlike
import Derived.Deep.RegionHeld3
import Derived.Deep.DeepCutAuto
import Derived.Test.YtonalbdehcmjmaaGreatQ05
import Derived.Test.YtonalbdehcmjmaaGreatChecked
import Derived.Shelf.SlicesG.CompactI
import Derived.Shelf.SlicesG.Equal
import Derived.Shelf.SortM.Plain
import Derived.Shelf.SortM.SortNone
/- The walk of fold.follows. -/
set_option linter.unusedVariables false
namespace Go.Proofs.YtonalbdehcmjmaaGreat
open Go.RowKit Zp
/-- a round at place i of a table -/
def RndE (w : World) (ad : Addr) (i : Nat) (D : Nat) (dr : Int) (o : OpnI) : Prop :=
  ∃ A0 n0 c0 AR nR cR AN nN cN, w.cell? (ad.add (i * 5)) = some (.pointer (some ⟨D, 0, none⟩)) ∧ w.cell? (ad.add (i * 5 + 1)) = some (vi dr) ∧ w.cell? (ad.add (i * 5 + 2)) = some (.slice A0 n0 c0) ∧ w.cell? (ad.add (i * 5 + 3)) = some (.slice AR nR cR) ∧ w.cell? (ad.add (i * 5 + 4)) = some (.slice AN nN cN) ∧ OpnAt w A0 n0 c0 o.l AR nR cR o.rs AN nN cN o.ns
theorem RndE.below {w w' : World} {ad : Addr} {i D : Nat} {dr : Int} {o : OpnI} (h : RndE w ad i D dr o) (hb : Below w.heap.size w w') : RndE w' ad i D dr o := by
  obtain ⟨A0, n0, c0, AR, nR, cR, AN, nN, cN, h1, h2, h3, h4, h5, h6⟩ := h
  exact ⟨A0, n0, c0, AR, nR, cR, AN, nN, cN, (hb.cell (block_lt_of_cell h1)).trans h1, (hb.cell (block_lt_of_cell h2)).trans h2, (hb.cell (block_lt_of_cell h3)).trans h3, (hb.cell (block_lt_of_cell h4)).trans h4, (hb.cell (block_lt_of_cell h5)).trans h5, h6.below hb⟩
theorem ad_off (ad : Addr) (m j : Nat) (hj : 0 < j) : ad.add (m + j) = ⟨(ad.add m).block, (ad.add m).off + j, none⟩ := by
  rw [← add_of_add]
  simp only [Addr.add]
  rw [if_neg (by omega)]
theorem RndE.cells {w : World} {ad : Addr} {i D : Nat} {dr : Int} {o : OpnI} (h : RndE w ad i D dr o) : ∃ A0 n0 c0 AR nR cR AN nN cN, w.cell? (ad.add (i * 5)) = some (.pointer (some ⟨D, 0, none⟩)) ∧ w.cell? ⟨(ad.add (i * 5)).block, (ad.add (i * 5)).off + 1, none⟩ = some (vi dr) ∧ w.cell? ⟨(ad.add (i * 5)).block, (ad.add (i * 5)).off + 2, none⟩ = some (.slice A0 n0 c0) ∧ w.cell? ⟨(ad.add (i * 5)).block, (ad.add (i * 5)).off + 3, none⟩ = some (.slice AR nR cR) ∧ w.cell? ⟨(ad.add (i * 5)).block, (ad.add (i * 5)).off + 4, none⟩ = some (.slice AN nN cN) ∧ OpnAt w A0 n0 c0 o.l AR nR cR o.rs AN nN cN o.ns := by
  obtain ⟨A0, n0, c0, AR, nR, cR, AN, nN, cN, h1, h2, h3, h4, h5, h6⟩ := h
  exact ⟨A0, n0, c0, AR, nR, cR, AN, nN, cN, h1, by rw [← ad_off _ _ _ (by omega)]; exact h2, by rw [← ad_off _ _ _ (by omega)]; exact h3, by rw [← ad_off _ _ _ (by omega)]; exact h4, by rw [← ad_off _ _ _ (by omega)]; exact h5, h6⟩
section
variable {p : Nat} [NeZero p] {s : Fin p} {e : Nat} {opens : List OpnI} {dr : Nat → Int} {last : List Int} {R : Nat} {place : Int}
theorem goesO_true (h : ∀ u, u < R → isO p s e opens dr u place = wantO p s e opens last R u place) : goesO p s e opens dr last R place = true := by
  unfold goesO
  rw [List.all_eq_true]
  intro i hi
  exact decide_eq_true (h i (List.mem_range.1 hi))
theorem goesO_false {u : Nat} (hu : u < R) (h : isO p s e opens dr u place ≠ wantO p s e opens last R u place) : goesO p s e opens dr last R place = false := by
  unfold goesO
  rw [List.all_eq_false]
  exact ⟨u, List.mem_range.2 hu, by simpa using h⟩
end
theorem nz_of {n : Nat} (h : 1 ≤ n) : ¬ n = 0 ∧ ¬ (n : Int) = 0 ∧ ((n : Int) == 0) = false := ⟨by omega, by omega, by rw [beq_eq_false_iff_ne]; omega⟩
theorem lt_two {d : Nat} (h : d < 2) : wrap64 (d : Int) = (d : Int) ∧ IntKind.i64.wrap (d : Int) = (d : Int) ∧ (0 : Int) ≤ (d : Int) ∧ (d : Int) < 2 := ⟨IntWalk.wrap64_in _ (by omega), IntWalk.i64_in _ (by omega), by omega, by omega⟩
theorem step_lt {t R : Nat} (h : t + 1 < R) : (0 : Int) ≤ (t : Int) + 1 ∧ (t : Int) + 1 < (R : Int) ∧ ((t : Int) + 1).toNat = t + 1 := ⟨by omega, by omega, by omega⟩
set_option maxRecDepth 100000 in
set_option maxHeartbeats 4000000 in
theorem follows_any (p S b : Nat) [NeZero p] (s : Fin p) (e : Nat) (he : e ≤ 16) (Ds : Nat → Nat) (opens : List OpnI) (dr : Nat → Int) (last : List Int) (R : Nat) (hRe : R ≤ e) (A : Option Addr) (cA : Nat)
    (AL : Option Addr) (nL cL : Nat) (hlL : last.length = nL) (hLi : ∀ x ∈ last, I64 x) (hLb : nL * 8 ≤ 140737488351232) (place : Int) (hp0 : 0 ≤ place) (hpI : place ≤ 65536) (hok : ∀ i, i < R → OkO (opnO opens i) (place % (nI e (i + 1) : Int))) (hdr : ∀ i, I64 (dr i))
    (w : World) (hD : ∀ i, i ≤ R → Dom w S (Ds i) b p (nI e i) (sqI s i)) (hT : ∀ i, i < R → ∃ ad, A = some ad ∧ RndE w ad i (Ds i) (dr i) (opnO opens i)) (sL : SL w AL last) :
    Calls Tryz.prog 43 #[.slice A R cA, .pointer (some ⟨Ds R, 0, none⟩), .slice AL nL cL, vi place] w fun e' w' => SaysW (.bool (goesO p s e opens dr last R place)) w e' w' := by
  have HD := Lib.hid hD
  have HT := Lib.hid hT
  have HSL := Lib.hid sL
  have HL := Lib.hid (And.intro hlL (And.intro hLi hLb))
  have HOK := Lib.hid hok
  have HDR := Lib.hid hdr
  have HS := Lib.hid (hD R (Nat.le_refl _)).fld.le
  have HP2 := Lib.hid (hD R (Nat.le_refl _)).fld.max
  clear hD hT sL hlL hLi hLb hok hdr
  go_enter Tryz.func43, Tryz.ntmps43
  go_wp2
  go_loopw [18] (fun i wr => ∃ t : Nat, t ≤ R ∧ i = vi t ∧ Below w.heap.size w wr ∧ ∀ u, u < t → isO p s e opens dr u place = wantO p s e opens last R u place) (fun i _ => R - (intOf i).toNat)
  case atStart => exact ⟨0, Nat.zero_le _, rfl, Below.refl _ _, fun u hu => absurd hu (Nat.not_lt_zero _)⟩
  case round =>
    obtain ⟨t, ht, rfl, hb, hall⟩ := hrel
    have HALL := Lib.hid hall
    have HB := Lib.hid hb
    clear hall hb
    by_cases hlt : t < R
    · obtain ⟨ad, rfl, hE⟩ := HT.out t hlt
      obtain ⟨A0, n0, c0, AR, nR, cR, AN, nN, cN, q0, q1, q2, q3, q4, hop⟩ := (hE.below HB.out).cells
      have hok := HOK.out t hlt
      have i1 : (0 : Int) ≤ (t : Int) := by omega
      have i2 : (t : Int) < (R : Int) := by omega
      have hwt : IntKind.i64.wrap ((t : Int) + 1) = (t : Int) + 1 := IntWalk.i64_in _ (by omega)
      obtain ⟨n, hn⟩ : ∃ n, n = nI e t := ⟨_, rfl⟩
      obtain ⟨h, hh⟩ : ∃ h, h = nI e (t + 1) := ⟨_, rfl⟩
      have hn2 : n = 2 * h := by rw [hn, hh]; exact nI_step (by omega)
      have hh1 : 1 ≤ h := by rw [hh]; exact nI_pos _ _
      have hnm : n ≤ 65536 := by rw [hn]; exact nI_le he t
      have hq : wrap64 ((n : Int) / 2) = (h : Int) := by rw [IntWalk.wrap64_in _ (by omega)]; omega
      have hz : ((h : Int) == 0) = false := by simp; omega
      have hz1 : ¬ (h : Int) = 0 := by omega
      have hz2 : ¬ h = 0 := by omega
      rw [← hh] at hok
      obtain ⟨m, hm⟩ := Int.eq_ofNat_of_zero_le (Int.emod_nonneg place (show (h : Int) ≠ 0 by omega))
      have hmh : m < h := by have := Int.emod_lt_of_pos place (show (0 : Int) < (h : Int) by omega); omega
      have htm : place.tmod (h : Int) = (m : Int) := by rw [Int.tmod_eq_emod_of_nonneg hp0, hm]
      rw [hm] at hok
      obtain ⟨hjR, hrow, hlen2⟩ := hok.at_
      obtain ⟨w3, hw3⟩ : ∃ w3, w3 = wr.alloc (.cells #[.pointer (some ⟨Ds t, 0, none⟩), vi (dr t), .slice A0 n0 c0, .slice AR nR cR, .slice AN nN cN] 87) := ⟨_, rfl⟩
      have hb3 : Below wr.heap.size wr w3 := below_of_eq hw3
      have HB3 := Lib.hid (HB.out.trans (hb3.mono HB.out.size))
      have HG3 := Lib.hid (Blk.of_eq hw3)
      have HW3 := Lib.hid hw3
      have hsz := fun W (hb : Below w.heap.size w W) => size_any (Ds t) n W (by rw [hn]; exact ((HD.out t (by omega)).below hb HS.out).c1)
      have HSZ := Lib.hid hsz
      have HRW := Lib.hid (roundrow_any (Ds t) (dr t) A0 n0 c0 (opnO opens t).l hop.l0 (by have := hop.l0; have := hok.max; omega) hok.asc AR nR cR (opnO opens t).rs hop.lR (.slice AN nN cN) (m : Int) hjR w3 (hop.s0.below hb3) (hop.tR.below hb3))
      obtain ⟨x, y, hxy⟩ := two_of hlen2
      rw [hxy] at HRW
      have HOP := Lib.hid hop
      have HN := Lib.hid (And.intro hn (And.intro hh (And.intro hn2 (And.intro hh1 hnm))))
      have HM := Lib.hid (And.intro hm hmh)
      have HROW : Hid (rowO (opnO opens t) (m : Int) = [x, y]) := Lib.hid (by rw [hrow, hxy])
      clear hw3 hb3 hsz hop hE hn hh hn2 hh1 hnm hm hmh hrow hxy hlen2 hok
      go_upto_region 4 with (fail)
      rw [← HW3.out]
      clear q0 q1 q2 q3 q4
      have g0 := (HG3.out.cell 0).trans (show _ = some (.pointer (some ⟨Ds t, 0, none⟩)) from rfl)
      have g1 := (HG3.out.cell 1).trans (show _ = some (vi (dr t)) from rfl)
      have g2 := (HG3.out.cell 2).trans (show _ = some (.slice A0 n0 c0) from rfl)
      have g3 := (HG3.out.cell 3).trans (show _ = some (.slice AR nR cR) from rfl)
      have g4 := (HG3.out.cell 4).trans (show _ = some (.slice AN nN cN) from rfl)
      go_wp2_with fail
      refine (HSZ.out _ HB3.out).mono ?_
      rintro _ _ ⟨rfl, rfl⟩
      go_wp2_with fail
      refine HRW.out.mono ?_
      rintro _ w4 ⟨A1, n1, c1, rfl, hl1, hn1, hs1, hi1, hb4⟩
      have e2 : n1 = 2 := by rw [← hl1]; rfl
      subst e2
      obtain ⟨ad1, rfl, _, hc0⟩ := hs1.at_ (k := 0) (by simp)
      obtain ⟨ad1', hade, _, hc1⟩ := hs1.at_ (k := 1) (by simp)
      injection hade with hade
      subst hade
      simp only [List.getElem_cons_zero, List.getElem_cons_succ] at hc0 hc1
      have hc0' : w4.cell? ad1 = some (vi x) := by rw [← hc0]; simp [Addr.add]
      have hc1' : w4.cell? ⟨ad1.block, ad1.off + 1, none⟩ = some (vi y) := by rw [← hc1]; simp [Addr.add]
      have hx := hi1 x (by simp)
      have hy := hi1 y (by simp)
      have HB4 := Lib.hid (HB3.out.trans (hb4.mono HB3.out.size))
      have hG4 := Blk.below HG3.out hb4 HG3.out.lt
      have HG4 := Lib.hid hG4
      have HONE : Hid (∀ q, Calls Tryz.prog 59 #[.pointer (some ⟨Ds t, 0, none⟩), vi (m : Int), vi x, vi y, vi (dr t)] (w4.drewN q) fun e' w' => e' = .returned (vi (fv (isO p s e opens dr t place))) ∧ ∃ k, w' = w4.drewN k) := Lib.hid fun q => by
        have hd := (HD.out t (by omega)).below (below_drewN HB4.out q) HS.out
        have h1 := one_any p S (Ds t) b (nI e t) (sqI s t) m (by have := HM.out; have := HN.out; omega) x y (dr t) hx hy (HDR.out t) (w4.drewN q) hd
        have ev : isO p s e opens dr t place = foldE (el p x) (el p y) (el p (dr t)) (sqI s t * pw (rootI p ((nI e t : Nat) : Int)) m) := by
          unfold isO
          simp only
          rw [← HN.out.2.1, HM.out.1, HROW.out]
          rfl
        rw [ev]
        exact h1.mono fun e' w' h => ⟨h.1, by obtain ⟨k, rfl⟩ := h.2; exact ⟨_, World.drewN_drewN _ _ _⟩⟩
      clear hb4 hs1 hi1 hl1 hn1 hx hy hG4
      have g0 := (HG4.out.cell 0).trans (show _ = some (.pointer (some ⟨Ds t, 0, none⟩)) from rfl)
      have g1 := (HG4.out.cell 1).trans (show _ = some (vi (dr t)) from rfl)
      go_wp2
      go_quiet ((go_at_call 59; exact HONE.out _))
      obtain ⟨w5, hw5⟩ : ∃ w5, w5 = w4.drewN nq := ⟨_, rfl⟩
      have HB5 := Lib.hid (show Below w.heap.size w w5 by rw [hw5]; exact below_drewN HB4.out _)
      have HG5 := Lib.hid (show Blk w5 wr.heap.size 87 #[.pointer (some ⟨Ds t, 0, none⟩), vi (dr t), .slice A0 n0 c0, .slice AR nR cR, .slice AN nN cN] by rw [hw5]; exact HG4.out)
      rw [← hw5]
      clear hw5 hc0 hc0' hc1 hc1' g0 g1 HONE
      by_cases hlast : t + 1 = R
      · have te : (((t : Int) + 1) == (R : Int)) = true := by rw [← hlast]; simp
        have hD5 := (HD.out R (Nat.le_refl _)).below HB5.out HS.out
        have HFI := Lib.hid (fun W (hb : Below w.heap.size w W) => dfield_any (Ds R) b W ((HD.out R (Nat.le_refl _)).below hb HS.out).c0)
        have HPT : Hid (∀ W, Below w.heap.size w W → Calls Tryz.prog 78 #[.pointer (some ⟨Ds R, 0, none⟩), vi (m : Int)] W fun e' w' => e' = .returned (vi (fv (sqI s R * pw (rootI p ((nI e R : Nat) : Int)) m))) ∧ ∃ k, w' = W.drewN k) := Lib.hid fun W hb => by
          have h1 := point_any p S (Ds R) b (nI e R) (sqI s R) (m : Int) (by constructor <;> (have := HM.out.2; have := HN.out; omega)) W ((HD.out R (Nat.le_refl _)).below hb HS.out)
          rw [Int.emod_eq_of_lt (by omega) (by have := HM.out.2; have h2 := HN.out.2.1; rw [hlast] at h2; omega), Int.toNat_natCast] at h1
          exact h1
        obtain ⟨u2, hu2⟩ : ∃ u2, u2 = ev (els p last) (sqI s R * pw (rootI p ((nI e R : Nat) : Int)) m) := ⟨_, rfl⟩
        have HEV : Hid (∀ W, Below w.heap.size w W → Calls Tryz.prog 77 #[.pointer (some ⟨b, 0, none⟩), .slice AL nL cL, vi (fv (sqI s R * pw (rootI p ((nI e R : Nat) : Int)) m))] W fun e' w' => e' = .returned (vi (fv u2)) ∧ Below W.heap.size W w') := Lib.hid fun W hb => by
          have h1 := eval_any p S b AL cL last HL.out.2.1 (by have := HL.out; omega) (fv (sqI s R * pw (rootI p ((nI e R : Nat) : Int)) m)) (i64_fv _ HP2.out) W ((HD.out R (Nat.le_refl _)).below hb HS.out).fld (HSL.out.below hb)
          rw [HL.out.1, el_fv] at h1
          rw [hu2]
          exact h1
        have hwv : wantO p s e opens last R t place = u2 := by
          unfold wantO
          simp only
          rw [if_pos hlast, ← HN.out.2.1, HM.out.1, hu2]
          rfl
        have HGT : Hid (isO p s e opens dr t place = u2 → goesO p s e opens dr last R place = true) := Lib.hid fun h => goesO_true fun u hu => by
          by_cases hut : u < t
          · exact HALL.out u hut
          · obtain rfl : u = t := by omega
            rw [hwv]; exact h
        have HGF : Hid (isO p s e opens dr t place ≠ u2 → goesO p s e opens dr last R place = false) := Lib.hid fun h => goesO_false hlt (by rw [hwv]; exact h)
        clear hu2 hwv hD5
        generalize isO p s e opens dr t place = vv at HGT HGF ⊢
        by_cases hv : vv = u2
        · have tv : (fv vv == fv u2) = true := by rw [hv]; simp
          have HG := Lib.hid (HGT.out hv)
          clear hv
          go_wp2_with fail
          refine (HFI.out _ HB5.out).mono ?_
          rintro _ _ ⟨rfl, rfl⟩
          go_wp2_with fail
          refine (HPT.out _ HB5.out).mono ?_
          rintro _ _ ⟨rfl, kp, rfl⟩
          go_wp2_with fail
          refine (HEV.out _ (below_drewN HB5.out _)).mono ?_
          rintro _ w6 ⟨rfl, hb6⟩
          have HB6 := Lib.hid ((below_drewN HB5.out kp).trans (hb6.mono (below_drewN HB5.out kp).size))
          go_wp2
          go_ret
          exact ⟨ret_bool HG.out.symm, HB6.out⟩
        · have tv : (fv vv == fv u2) = false := by rw [beq_eq_false_iff_ne]; exact fun h => hv (fv_inj h)
          have HG := Lib.hid (HGF.out hv)
          clear hv
          go_wp2_with fail
          refine (HFI.out _ HB5.out).mono ?_
          rintro _ _ ⟨rfl, rfl⟩
          go_wp2_with fail
          refine (HPT.out _ HB5.out).mono ?_
          rintro _ _ ⟨rfl, kp, rfl⟩
          go_wp2_with fail
          refine (HEV.out _ (below_drewN HB5.out _)).mono ?_
          rintro _ w6 ⟨rfl, hb6⟩
          have HB6 := Lib.hid ((below_drewN HB5.out kp).trans (hb6.mono (below_drewN HB5.out kp).size))
          go_wp2
          go_ret
          exact ⟨ret_bool HG.out.symm, HB6.out⟩
      · have te : (((t : Int) + 1) == (R : Int)) = false := by rw [beq_eq_false_iff_ne]; omega
        have hlt1 : t + 1 < R := by omega
        obtain ⟨ad', hade, hE'⟩ := HT.out (t + 1) hlt1
        injection hade with hade
        subst hade
        obtain ⟨B0, m0, d0, BR, mR, dR, BN, mN, dN, q0, q1, q2, q3, q4, hop'⟩ := (hE'.below HB5.out).cells
        have hok := HOK.out (t + 1) hlt1
        obtain ⟨h2, hh2⟩ : ∃ h2, h2 = nI e (t + 1 + 1) := ⟨_, rfl⟩
        have hhn : h = 2 * h2 := by rw [HN.out.2.1, hh2]; exact nI_step (by omega)
        have hh21 : 1 ≤ h2 := by rw [hh2]; exact nI_pos _ _
        rw [← hh2] at hok
        obtain ⟨m2, hm2⟩ : ∃ m2, m2 = m % h2 := ⟨_, rfl⟩
        obtain ⟨d2, hd2⟩ : ∃ d2, d2 = m / h2 := ⟨_, rfl⟩
        have hmm : place % (h2 : Int) = (m2 : Int) := by
          rw [hm2, Int.natCast_emod, ← HM.out.1, hhn, Int.emod_emod_of_dvd]
          exact ⟨2, by rw [Int.natCast_mul]; omega⟩
        rw [hmm] at hok
        obtain ⟨hjR, hrow, hlen2⟩ := hok.at_
        obtain ⟨u0, u1, hu⟩ := two_of hlen2
        have hd22 : d2 < 2 := by rw [hd2]; exact Nat.div_lt_of_lt_mul (by have := HM.out.2; omega)
        obtain ⟨y2, hy2⟩ : ∃ y2, y2 = [u0, u1].getD d2 0 := ⟨_, rfl⟩
        have hwv : wantO p s e opens last R t place = el p y2 := by
          unfold wantO
          simp only
          rw [if_neg hlast, ← HN.out.2.1, HM.out.1, ← hh2]
          rw [show (m : Int) % (h2 : Int) = (m2 : Int) by rw [hm2, Int.natCast_emod], show ((m : Int) / (h2 : Int)).toNat = d2 by rw [hd2, ← Int.natCast_ediv, Int.toNat_natCast], hrow, hu, hy2]
        have hm2l : m2 < h2 := by rw [hm2]; exact Nat.mod_lt _ (by omega)
        have HD2 := Lib.hid (And.intro hh2 (And.intro hhn (And.intro hh21 (And.intro hm2l hd22))))
        have HRW2 : Hid (∀ W, Below w5.heap.size w5 W → Calls Tryz.prog 76 #[.agg #[.pointer (some ⟨Ds (t + 1), 0, none⟩), vi (dr (t + 1)), .slice B0 m0 d0, .slice BR mR dR, .slice BN mN dN], vi (m2 : Int)] W (RowIs [u0, u1] W)) := Lib.hid fun W hb => by
          have h1 := roundrow_any (Ds (t + 1)) (dr (t + 1)) B0 m0 d0 (opnO opens (t + 1)).l hop'.l0 (by have := hop'.l0; have := hok.max; omega) hok.asc BR mR dR (opnO opens (t + 1)).rs hop'.lR (.slice BN mN dN) (m2 : Int) hjR W (hop'.s0.below hb) (hop'.tR.below hb)
          rw [hu] at h1
          exact h1
        have HSZ2 := Lib.hid (fun W (hb : Below w.heap.size w W) => size_any (Ds (t + 1)) h W (by rw [HN.out.2.1]; exact ((HD.out (t + 1) (by omega)).below hb HS.out).c1))
        have hq2 : wrap64 ((h : Int) / 2) = (h2 : Int) := by rw [IntWalk.wrap64_in _ (by have := HN.out; omega)]; omega
        have htm2 : (m : Int).tmod (h2 : Int) = (m2 : Int) := by rw [Int.tmod_eq_emod_of_nonneg (Int.natCast_nonneg m), hm2, Int.natCast_emod]
        have htd2 : (m : Int).tdiv (h2 : Int) = (d2 : Int) := by rw [Int.tdiv_eq_ediv_of_nonneg (Int.natCast_nonneg m), hd2, Int.natCast_ediv]
        have htd3 : (m : Int) / (h2 : Int) = (d2 : Int) := by rw [hd2, Int.natCast_ediv]
        have HY2 := Lib.hid hy2
        have HWV := Lib.hid hwv
        clear hm2 hd2 hmm hrow hlen2 hu hwv hy2 hE' hop' hok hjR
        obtain ⟨hz5, hz4, hz3⟩ := nz_of hh21
        obtain ⟨htw, htw2, j1, j2⟩ := lt_two hd22
        obtain ⟨k1, k2, hto⟩ := step_lt hlt1
        clear hh2 hhn hh21 hm2l hd22
        go_wp2_with fail
        refine (HSZ2.out _ HB5.out).mono ?_
        rintro _ _ ⟨rfl, rfl⟩
        go_upto_region 10 with (fail)
        rw [hq2]
        have HGG : Hid (∀ W, Below w5.heap.size w5 W → W.cell? ⟨wr.heap.size, 0, none⟩ = some (.pointer (some ⟨Ds t, 0, none⟩)) ∧ W.cell? ⟨Ds t, 0, none⟩ = some (.pointer (some ⟨b, 0, none⟩)) ∧ W.cell? ⟨b, 0, none⟩ = some (vi p)) := Lib.hid fun W hb => by
          have hd := (HD.out t (by omega)).below (HB5.out.trans (hb.mono HB5.out.size)) HS.out
          exact ⟨((Blk.below HG5.out hb HG5.out.lt).cell 0).trans rfl, hd.c0, hd.fld.c0⟩
        have HD22 := Lib.hid (show d2 < [u0, u1].length from HD2.out.2.2.2.2)
        have HYV : Hid ([u0, u1][d2]'HD22.out = y2) := Lib.hid (by rw [HY2.out, List.getD_eq_getElem?_getD, List.getElem?_eq_getElem HD22.out, Option.getD_some])
        go_region_law (first
          | (go_simp; go_at_call 76; refine (HRW2.out _ (by first | exact below_drewN (Below.refl _ _) 1 | exact Below.refl _ _)).mono ?_; rintro _ w9 ⟨A9, n9, c9, rfl, hl9, hn9, hs9, hi9, hb9'⟩; have hb9 : Below w5.heap.size w5 w9 := ⟨hb9'.os, hb9'.tape, hb9'.output, hb9'.size, hb9'.block⟩; obtain rfl : n9 = 2 := hl9.symm; obtain ⟨ad9, rfl, _, hcy⟩ := hs9.at_ HD22.out; rw [HYV.out] at hcy; have hi9y : I64 y2 := (by rw [← HYV.out]; exact hi9 _ (List.getElem_mem HD22.out))))
        all_goals
          have HB9 := Lib.hid (HB5.out.trans (hb9.mono HB5.out.size))
          obtain ⟨g0, z0, z1⟩ := HGG.out w9 hb9
          have HOF := Lib.hid (of_el p HP2.out b y2 hi9y w9 z1)
          clear hb9 hb9' hl9 hn9 hs9 hi9 hcy hi9y z1 q0 q1 q2 q3 q4
          generalize hvv : isO p s e opens dr t place = vv
          have HVV := Lib.hid hvv
          clear hvv
          by_cases hv : vv = el p y2
          · have tv : (fv vv != fv (el p y2)) = false := by rw [hv]; simp
            have HALL2 : Hid (∀ u, u < t + 1 → isO p s e opens dr u place = wantO p s e opens last R u place) := Lib.hid fun u hu => by
              by_cases hut : u < t
              · exact HALL.out u hut
              · obtain rfl : u = t := by omega
                rw [HVV.out, HWV.out]; exact hv
            clear hv
            go_wp2_with fail
            refine HOF.out.mono ?_
            rintro _ _ ⟨rfl, rfl⟩
            go_wp2
            go_roundw
            case rel => exact ⟨t + 1, by omega, by go_num, HB9.out, HALL2.out⟩
            case measure => simp [intOf]; omega
          · have tv : (fv vv != fv (el p y2)) = true := by rw [bne_iff_ne]; exact fun h => hv (fv_inj h)
            have HG : Hid (goesO p s e opens dr last R place = false) := Lib.hid (goesO_false hlt (by rw [HVV.out, HWV.out]; exact hv))
            clear hv
            go_wp2_with fail
            refine HOF.out.mono ?_
            rintro _ _ ⟨rfl, rfl⟩
            go_wp2
            go_ret
            exact ⟨ret_bool HG.out.symm, HB9.out⟩
    · have et : t = R := by omega
      have HG : Hid (goesO p s e opens dr last R place = true) := Lib.hid (goesO_true (fun u hu => HALL.out u (by omega)))
      clear ht
      go_wp2
      go_ret
      exact ⟨ret_bool HG.out.symm, HB.out⟩
end Go.Proofs.YtonalbdehcmjmaaGreat

/- Walks of the reference's polynomials: Degree, Trim, At, Plus, Scaled, Times, Eval. -/
set_option linter.unusedVariables false
namespace Go.Proofs.YtonalbdehcmjmaaGreat
open Go.RowKit Zp

theorem SL.take {w : World} {A : Option Addr} {xs : List Int} (h : SL w A xs) (k : Nat) : SL w A (xs.take k) := by
  refine ⟨by simp, fun hn => ?_⟩
  have hl : (xs.take k).length = min k xs.length := List.length_take
  obtain ⟨ad, e, hb, hc⟩ := h.2 (by omega)
  refine ⟨ad, e, hb, fun j u hu => hc j u ?_⟩
  rw [List.map_take, List.getElem?_take] at hu
  split at hu
  · exact hu
  · cases hu




end Go.Proofs.YtonalbdehcmjmaaGreat

/- Walks of the reference's polynomials: Plus, Scaled, Minus, Times, Eval. -/
set_option linter.unusedVariables false
namespace Go.Proofs.YtonalbdehcmjmaaGreat
open Go.RowKit Zp

end Go.Proofs.YtonalbdehcmjmaaGreat

/- Walks: attestlaw2's plain and lives. -/
set_option linter.unusedVariables false
namespace Go.Proofs.YtonalbdehcmjmaaGreat
open Go.RowKit Zp

/-- is there a domain? -/
def HasDom (p size t : Int) : Prop := HasField p ∧ ∃ n : Nat, size = n ∧ SizeOk p.toNat n ∧ ¬ t % p = 0

/-- domain.New where there is no domain of this field -/
def NoDomE (w : World) (e : Ending) (w' : World) : Prop := (e = NoDom 2 ∨ e = NoDom 3) ∧ w = w'
theorem dnew_none (q S b : Nat) [NeZero q] (size t : Int) (hs : I64 size) (ht : I64 t) (w : World) (F : Fld w S b q) (h : ¬ ∃ n : Nat, size = n ∧ SizeOk q n ∧ ¬ t % (q : Int) = 0) :
    Calls Tryz.prog 16 #[.pointer (some ⟨b, 0, none⟩), vi size, vi t] w fun e w' => NoDomE w e w' := by
  have hc := F.c0
  by_cases h1 : size < 1 ∨ 65536 < size
  · exact (dnew_size1 b size t h1 w).mono fun e w' ⟨h1, h2⟩ => ⟨.inl h1, h2⟩
  · obtain ⟨n, rfl⟩ := Int.eq_ofNat_of_zero_le (a := size) (by omega)
    by_cases h2 : SizeOk q n
    · have h3 : el q t = 0 := by
        false_or_by_contra
        rename_i h3
        exact h ⟨n, rfl, h2, fun h4 => h3 (el_eq_zero.2 h4)⟩
      exact (dnew_shift q b n t ht F.two F.max h2 h3 w hc).mono fun e w' ⟨h1, h2⟩ => ⟨.inr h1, h2⟩
    · exact (dnew_size2 q b n t (by omega) (by omega) F.two F.max h2 w hc).mono fun e w' ⟨h1, h2⟩ => ⟨.inl h1, h2⟩


/-- the parts of HasDom -/
theorem HasDom.parts {p size t : Int} (h : HasDom p size t) : ∃ q n : Nat, p = q ∧ size = n ∧ 3 ≤ q ∧ q ≤ 2147483647 ∧ IsPrime q ∧ SizeOk q n ∧ ¬ t % (q : Int) = 0 := by
  obtain ⟨⟨h3, hm, hpr⟩, n, rfl, hs, h0⟩ := h
  obtain ⟨q, rfl⟩ := Int.eq_ofNat_of_zero_le (a := p) (by omega)
  rw [Int.toNat_natCast] at hpr hs
  exact ⟨q, n, rfl, rfl, by omega, by omega, hpr, hs, h0⟩

/-- a list written out reads as it is -/
theorem sl_lit (w : World) (xs : List Int) : SL (w.alloc (.cells (xs.map vi).toArray 3)) (some ⟨w.heap.size, 0, none⟩) xs := by
  refine ⟨by simp, fun hn => ⟨_, rfl, by simp, fun j u hu => ?_⟩⟩
  have e : (⟨w.heap.size, 0, none⟩ : Addr).add j = ⟨w.heap.size, j, none⟩ := by simp [Addr.add]; intro h; exact h.symm
  rw [e, (Blk.new w 3 (xs.map vi).toArray).cell]
  simpa using hu

theorem size4 : SizeOk 17 4 := ⟨⟨2, by omega, rfl⟩, ⟨4, rfl⟩⟩
theorem root17 : rootI 17 ((4 : Nat) : Int) = el 17 13 := by
  rw [rootI_nat (by omega) (by decide) (by omega), gen17]
  decide
theorem vals17 : fvs (valL (el 17 3) (rootI 17 ((4 : Nat) : Int)) 4 (els 17 [1, 1])) = [4, 6, 15, 13] := by
  rw [root17]
  decide

end Go.Proofs.YtonalbdehcmjmaaGreat

/- Walk: law2.made. -/
set_option linter.unusedVariables false
namespace Go.Proofs.YtonalbdehcmjmaaGreat
open Go.RowKit Zp

theorem Dom.upS {w : World} {S S' D b p n : Nat} [NeZero p] {s : Fin p} (h : Dom w S D b p n s) (h1 : S ≤ S') (h2 : S' ≤ w.heap.size) : Dom w S' D b p n s :=
  ⟨h.fld.moreS h1 h2, Nat.lt_of_lt_of_le h.lt h1, h.c0, h.c1, h.c2, h.c3, h.s0, h.size⟩
end Go.Proofs.YtonalbdehcmjmaaGreat

/- Walks: powers, Coefficients, code.Is. -/
set_option linter.unusedVariables false
namespace Go.Proofs.YtonalbdehcmjmaaGreat
open Go.RowKit Zp

theorem mul_one_ {p : Nat} [NeZero p] (a : Fin p) : a * 1 = a := by grind
theorem mul_assoc_ {p : Nat} [NeZero p] (a b c : Fin p) : a * b * c = a * (b * c) := by grind

/-- x, x y, x y^2 .. -/
def powL {p : Nat} [NeZero p] (x y : Fin p) (n : Nat) : List (Fin p) := tab n (fun i => x * pw y i)
theorem powL_length {p : Nat} [NeZero p] (x y : Fin p) (n : Nat) : (powL x y n).length = n := tab_length _ _
def PowRel {p : Nat} [NeZero p] (x y : Fin p) (n : Nat) (w : World) (v c : Value) (wr : World) : Prop := ∃ k g : Nat, k ≤ n ∧ c = vi (fv (x * pw y k)) ∧ v = .slice (some ⟨g, 0, none⟩) k n ∧ Own wr w.heap.size v (fvs (powL x y k)) ∧ Below w.heap.size w wr
def lenOf : Value → Nat
  | .slice _ n _ => n
  | _ => 0

set_option maxRecDepth 100000 in
set_option maxHeartbeats 1000000 in
theorem powers_any (p S D b : Nat) [NeZero p] (n : Nat) (s : Fin p) (x y : Fin p) (w : World) (hD : Dom w S D b p n s) :
    Calls Tryz.prog 61 #[.pointer (some ⟨D, 0, none⟩), vi (fv x), vi (fv y)] w fun e w' => Made (fvs (powL x y n)) w e w' := by
  have hp2 := hD.fld.max
  have hn1 := hD.size.le
  have hd1 := hD.c1
  have hDle := hD.le
  have hmk := make_ints0 n (by omega)
  go_enter Tryz.func61, Tryz.ntmps61
  go_wp2
  go_loopw [7, 8] (fun v c wr => PowRel x y n w v c wr) (fun v _ _ => n - lenOf v)
  case atStart => exact ⟨0, w.heap.size, Nat.zero_le _, by rw [pw_zero, mul_one_], rfl, own_made0 w _ n (Nat.le_refl _) (by omega), (Below.refl _ _).alloc (Nat.le_refl _) _⟩
  case round =>
    obtain ⟨k, g, hk, rfl, rfl, hown, hb⟩ := hrel
    have hDr := hD.below hb hDle
    have hd1 := hDr.c1
    have hd0 := hDr.c0
    have hcb := hDr.fld.c0
    by_cases hkn : k < n
    · have hlk : (fvs (powL x y k)).length = k := by simp [powL_length]
      have hts : powL x y (k + 1) = powL x y k ++ [x * pw y k] := tab_succ _ _
      have hX1 : x * pw y k * y = x * pw y (k + 1) := by rw [pw_succ]; exact mul_assoc_ _ _ _
      obtain ⟨X, hX⟩ : ∃ X, X = x * pw y k := ⟨_, rfl⟩
      rw [← hX] at hts hX1 ⊢
      obtain ⟨X2, hX2⟩ : ∃ X2, X2 = x * pw y (k + 1) := ⟨_, rfl⟩
      rw [← hX2] at hX1
      have hmul := fun W hc => mul_any p hp2 b (fv X) (fv y) (i64_fv _ hp2) (i64_fv _ hp2) W hc
      rw [el_fv, el_fv, hX1] at hmul
      have HMUL := Lib.hid hmul
      have HTS := Lib.hid hts
      have HLK := Lib.hid hlk
      have HX2 := Lib.hid hX2
      clear hmul hts hlk hX hX1 hX2
      have hgl := (hown.lt g rfl).1
      have hDne : some D ≠ some g := by intro e; injection e with e; have := hD.lt; omega
      have hbne : some b ≠ some g := by intro e; injection e with e; have := hD.fld.lt; omega
      go_wp2_with (at_builtin; refine wpList_app1_fits wr (fv X) rfl _ _ rfl w.heap.size g k n _ rfl rfl hown HLK.out.symm hkn ?_; intro w1 hown1 hg; have hd0' := hg.cell hd0 hDne; have hcb' := hg.cell hcb hbne)
      refine (HMUL.out _ hcb').mono ?_
      rintro e w' ⟨rfl, k5, rfl⟩
      go_wp2
      go_roundw
      case rel => exact ⟨k + 1, g, by omega, by rw [HX2.out], rfl, by rw [HTS.out, fvs, List.map_append]; exact hown1, below_drewN (hb.grown hg hb.size (fun j hj => by injection hj with hj; subst hj; exact hgl)) k5⟩
      case measure => simp [lenOf]; omega
    · obtain rfl : k = n := by omega
      go_wp2
      go_ret
      exact ⟨_, rfl, hown, hb⟩
theorem coefs_bad (D n : Nat) (A : Option Addr) (m cap : Nat) (h : m ≠ n) (w : World) (hc : w.cell? ⟨D, 1, none⟩ = some (vi n)) :
    Calls Tryz.prog 34 #[.pointer (some ⟨D, 0, none⟩), .slice A m cap] w fun e w' => e = .returned (.tuple #[.slice none 0 0, .iface 55 (.int .i64 2)]) ∧ w = w' := by
  have t1 : ((m : Int) != (n : Int)) = true := by rw [bne_iff_ne]; omega
  clear h
  go_enter Tryz.func34, Tryz.ntmps34
  go_wp2
  go_ret2
  exact ⟨rfl, rfl⟩

/-- a word of the call's own, and no error -/
def MadeC (xs : List Int) (w : World) (e : Ending) (w' : World) : Prop := ∃ v, e = .returned (.tuple #[v, .nilIface]) ∧ Own w' w.heap.size v xs ∧ Below w.heap.size w w'
/-- behind spread -/
def Cut3 (p n : Nat) [NeZero p] (r : Fin p) (l : List (Fin p)) (w : World) (v : Value) (wx : World) : Prop := ∃ ys, Own wx w.heap.size v ys ∧ (∀ y ∈ ys, I64 y) ∧ els p ys = dft r n l ∧ Below w.heap.size w wx
/-- behind powers -/
def Cut4 (p n : Nat) [NeZero p] (x y : Fin p) (w2 : World) (v ln c : Value) (wx : World) : Prop := ∃ g3 cc, v = .slice (some ⟨g3, 0, none⟩) n cc ∧ ln = vi n ∧ c = .int .i64 0 ∧ Own wx w2.heap.size (.slice (some ⟨g3, 0, none⟩) n cc) (fvs (powL x y n)) ∧ w2.heap.size ≤ g3 ∧ Below w2.heap.size w2 wx

def CoefRel (p n : Nat) [NeZero p] (r x y : Fin p) (l : List (Fin p)) (w : World) (g c : Nat) (i : Value) (wr : World) : Prop := ∃ (k : Nat) (ys : List Int), k ≤ n ∧ i = vi k ∧ ys.length = n ∧ Own wr w.heap.size (.slice (some ⟨g, 0, none⟩) n c) ys ∧ (∀ y ∈ ys, I64 y) ∧
  (∀ j, j < n → co (els p ys) j = if j < k then co (dft r n l) j * (x * pw y j) else co (dft r n l) j) ∧ Below w.heap.size w wr

set_option maxRecDepth 100000 in
set_option maxHeartbeats 1000000 in
theorem coefs_any (p S D b : Nat) [NeZero p] (n : Nat) (s : Fin p) (A : Option Addr) (cap : Nat) (xs : List Int) (hml : xs.length = n) (hxs : ∀ x ∈ xs, I64 x) (w : World) (hD : Dom w S D b p n s) (hs : SL w A xs) :
    Calls Tryz.prog 34 #[.pointer (some ⟨D, 0, none⟩), .slice A n cap] w fun e w' => MadeC (fvs (trimL (coefL s (rootI p n) n (els p xs)))) w e w' := by
  have hp1 := hD.fld.two
  have hp2 := hD.fld.max
  have hpr := hD.fld.prime
  have hn0 := hD.size.pos
  have hn1 := hD.size.le
  have hDle := hD.le
  have hd0 := hD.c0
  have hd1 := hD.c1
  have hd3 := hD.c3
  have hcb := hD.fld.c0
  have hDl : D < w.heap.size := Nat.lt_of_lt_of_le hD.lt hD.le
  have hbl : b < w.heap.size := Nat.lt_of_lt_of_le hD.fld.lt hD.le
  have t1 : ((n : Int) != (n : Int)) = false := by simp
  have hord := ord_inv hpr (rootI_ord hpr hn0 hD.size.2) hn0
  have hcond := root_cond hpr hD.size hord
  obtain ⟨R, hR⟩ : ∃ R, R = rootI p n := ⟨_, rfl⟩
  rw [← hR] at hd3 hcond ⊢
  have hclone := fun k => clone_any A n cap xs hml (by omega) (w.drewN k) (hs.drewN k)
  have HCLONE := Lib.hid hclone
  have hsp : SpreadSpec p S D b n s n := by
    obtain ⟨⟨kk, hkk, hnk⟩, _⟩ := hD.size
    have h := spread_any p S D b n s kk hkk
    rwa [← hnk] at h
  have HSP := Lib.hid hsp
  have HML := Lib.hid hml
  have HCOND := Lib.hid hcond
  have HR := Lib.hid hR
  clear hclone hord hcond hsp hml hR
  go_enter Tryz.func34, Tryz.ntmps34
  go_upto_region 3 with (fail)
  go_cut [6] (fun v wx => Cut3 p n (Zp.inv R) (els p xs) w v wx)
  case first =>
    go_region_held3 (fun w' => w'.cell? ⟨D, 0, none⟩ = some (.pointer (some ⟨b, 0, none⟩)) ∧ w'.cell? ⟨D, 3, none⟩ = some (vi (fv R)) ∧ w'.cell? ⟨b, 0, none⟩ = some (vi p)) (first | exact ⟨hd0, hd3, hcb⟩ | exact ⟨(hb1.cell (p := ⟨D, 0, none⟩) hDl).trans hd0, (hb1.cell (p := ⟨D, 3, none⟩) hDl).trans hd3, (hb1.cell (p := ⟨b, 0, none⟩) hbl).trans hcb⟩ | exact ⟨(hbel2.cell (p := ⟨D, 0, none⟩) hDl).trans hd0, (hbel2.cell (p := ⟨D, 3, none⟩) hDl).trans hd3, (hbel2.cell (p := ⟨b, 0, none⟩) hbl).trans hcb⟩) ((first | (go_at_call 60; refine (HCLONE.out _).mono ?_; rintro e w1 ⟨v1, rfl, hown1, hb1⟩) | (go_at_call 21; refine (inv_any p hp1 hp2 b _ (i64_fv _ hp2) _ (by first | exact hcb | exact (hb1.cell (p := ⟨b, 0, none⟩) hbl).trans hcb)).mono ?_; rintro e w' ⟨rfl, rfl⟩) | (go_at_call 47; refine (HSP.out _ w.heap.size _ xs _ HML.out hxs (i64_fv _ hp2) (by rw [el_fv, el_fv]; exact HCOND.out) ((hD.drewN _).below hb1 hDle) hown1 hb1.size).mono ?_; rintro e w2 ⟨v2, ys, rfl, hown2, hys, hysd, _, _, hb2⟩; have hbel2 : Below w.heap.size w w2 := ((below_drewN (Below.refl _ w) _).trans hb1).trans (hb2.mono hb1.size))))
    all_goals go_wp2_with fail
    all_goals go_meet
    all_goals (rw [el_fv, el_fv] at hysd; exact ⟨ys, hown2, hys, hysd, hbel2⟩)
  case rest =>
    obtain ⟨ys, hown2, hys, hysd, hb2⟩ := hcut
    have hysl : ys.length = n := by have := congrArg List.length hysd; rw [dft_length] at this; simpa using this
    obtain ⟨g, c, hv, hg1, hg2⟩ := hown2.block (by omega)
    rw [hysl] at hv
    subst hv
    obtain ⟨w2, hw2⟩ : ∃ W, W = wc := ⟨_, rfl⟩
    subst hw2
    have hD2 := hD.below hb2 hDle
    have hd0 := hD2.c0
    have hd1 := hD2.c1
    have hd2 := hD2.c2
    have hcb2 := hD2.fld.c0
    have hnI : I64 (n : Int) := ⟨by omega, by omega⟩
    have hDl2 : D < w2.heap.size := Nat.lt_of_lt_of_le hDl hb2.size
    have hbl2 : b < w2.heap.size := Nat.lt_of_lt_of_le hbl hb2.size
    have HYS := Lib.hid hysd
    have HYL := Lib.hid hysl
    clear hysd hysl hd3 hcb
    have hpw := fun k => powers_any p S D b n s (Zp.inv (el p (n : Int))) (Zp.inv (el p (fv s))) (w2.drewN k) (hD2.drewN k)
    have HPW := Lib.hid hpw
    clear hpw
    go_upto_region 4 with (fail)
    go_cut [49, 50, 51] (fun v ln c wx => Cut4 p n (Zp.inv (el p (n : Int))) (Zp.inv (el p (fv s))) w2 v ln c wx)
    case first =>
      go_region_held3 (fun w' => w'.cell? ⟨D, 0, none⟩ = some (.pointer (some ⟨b, 0, none⟩)) ∧ w'.cell? ⟨D, 1, none⟩ = some (vi n) ∧ w'.cell? ⟨D, 2, none⟩ = some (vi (fv s))) (first | exact ⟨hd0, hd1, hd2⟩ | exact ⟨(hb3.cell (p := ⟨D, 0, none⟩) hDl2).trans hd0, (hb3.cell (p := ⟨D, 1, none⟩) hDl2).trans hd1, (hb3.cell (p := ⟨D, 2, none⟩) hDl2).trans hd2⟩) ((first | (go_at_call 21; refine (inv_any p hp1 hp2 b _ (by first | exact hnI | exact i64_fv _ hp2) _ (by exact hcb2)).mono ?_; rintro e w' ⟨rfl, rfl⟩) | (go_at_call 61; refine (HPW.out _).mono ?_; rintro e w3 ⟨v3, rfl, hown3, hb3⟩; obtain ⟨g3, c3, hv3, hg3, _⟩ := hown3.block (by simp [powL_length]; omega); rw [List.length_map, powL_length] at hv3; subst hv3)))
      all_goals go_wp2_with fail
      all_goals go_meet
      all_goals exact ⟨g3, c3, rfl, rfl, rfl, hown3, hg3, (below_drewN (Below.refl _ w2) _).trans hb3⟩
    case rest =>
      obtain ⟨g3, c3, rfl, rfl, rfl, hown3, hg3, hb3⟩ := hcut
      have hlp : (fvs (powL (Zp.inv (el p (n : Int))) (Zp.inv (el p (fv s))) n)).length = n := by rw [List.length_map, powL_length]
      have HLP := Lib.hid hlp
      clear hlp
      have hoa := hown2.below hb3
      have hbw := hb2.trans (hb3.mono hb2.size)
      go_wp2_with fail
      go_loopw [51] (fun i wr => CoefRel p n (Zp.inv R) (Zp.inv (el p (n : Int))) (Zp.inv (el p (fv s))) (els p xs) w g c i wr ∧ Own wr w2.heap.size (.slice (some ⟨g3, 0, none⟩) n c3) (fvs (powL (Zp.inv (el p (n : Int))) (Zp.inv (el p (fv s))) n))) (fun i _ => n - (intOf i).toNat)
      case atStart => exact ⟨⟨0, ys, Nat.zero_le _, rfl, HYL.out, hoa, hys, fun j _ => by rw [HYS.out, if_neg (by omega)], hbw⟩, hown3⟩
      case round =>
        obtain ⟨⟨k, zs, hk, rfl, hzl, hoz, hzs, hzc, hbz⟩, hop⟩ := hrel
        have HZL := Lib.hid hzl
        have HZC := Lib.hid hzc
        clear hzl hzc
        have hDr := hD.below hbz hDle
        have hd0 := hDr.c0
        have hcb := hDr.fld.c0
        by_cases hkn : k < n
        · have hkz : k < zs.length := by rw [HZL.out]; exact hkn
          have hca := hoz.at_ HZL.out.symm k hkz
          have hfa := hoz.frozen_ HZL.out.symm k
          have hcp := hop.at_ HLP.out.symm k (by rw [HLP.out]; exact hkn)
          have iz := hzs _ (List.getElem_mem hkz)
          have e1 : (fvs (powL (Zp.inv (el p (n : Int))) (Zp.inv (el p (fv s))) n))[k]'(by rw [HLP.out]; exact hkn) = fv (Zp.inv (el p (n : Int)) * pw (Zp.inv (el p (fv s))) k) := by
            rw [List.getElem_map]; exact congrArg fv (tab_get _ _ _ _)
          rw [e1] at hcp
          have hzk : co (els p zs) k = el p zs[k] := by rw [co_of_lt (by simpa using hkz)]; simp
          obtain ⟨z, hz⟩ : ∃ z, z = zs[k] := ⟨_, rfl⟩
          rw [← hz] at hca iz hzk
          obtain ⟨X, hX⟩ : ∃ X, X = Zp.inv (el p (n : Int)) * pw (Zp.inv (el p (fv s))) k := ⟨_, rfl⟩
          rw [← hX] at hcp
          obtain ⟨Z, hZ⟩ : ∃ Z, Z = el p z * X := ⟨_, rfl⟩
          have hmul := fun W hc => mul_any p hp2 b z (fv X) iz (i64_fv _ hp2) W hc
          rw [el_fv, ← hZ] at hmul
          have hnext : ∀ j, j < n → co (els p (zs.set k (fv Z))) j = if j < k + 1 then co (dft (Zp.inv R) n (els p xs)) j * (Zp.inv (el p (n : Int)) * pw (Zp.inv (el p (fv s))) j) else co (dft (Zp.inv R) n (els p xs)) j := by
            intro j hj
            rw [els, List.map_set, el_fv, co_set _ _ _ (by simpa using hkz)]
            have h1 := HZC.out j hj
            by_cases he : j = k
            · subst he
              rw [if_neg (by omega)] at h1
              rw [if_pos rfl, if_pos (by omega), hZ, ← hzk, h1, hX]
            · rw [if_neg he, h1]
              by_cases hlt : j < k
              · rw [if_pos hlt, if_pos (by omega)]
              · rw [if_neg hlt, if_neg (by omega)]
          have hall : ∀ y ∈ zs.set k (fv Z), I64 y := by
            intro y hy
            rcases List.mem_or_eq_of_mem_set hy with h | h
            · exact hzs y h
            · rw [h]; exact i64_fv _ hp2
          have HMUL := Lib.hid hmul
          have HNEXT := Lib.hid hnext
          have HALL := Lib.hid hall
          have i1 : (0 : Int) ≤ k := by omega
          have i2 : (k : Int) < n := by omega
          have hmx : Tryz.prog.follows .mixedOrders = true := by kernel_rfl
          clear hmul hnext hall hZ hX hz hzk e1
          go_wp2
          refine wp_region_quiet_tail 13 hmx (by kernel_rfl) ?_
          simp only [List.take_succ_cons, List.take_zero, List.drop_succ_cons, List.drop_zero]
          repeat (quiet_step ((go_at_call 45; exact Calls.quiet_of (HMUL.out _ (by exact hcb)))))
          refine wpQuiet_nil ?_
          intro _ hw'
          obtain ⟨nq1, hw''⟩ := hw'
          subst hw''
          go_wp2
          go_roundw
          case rel =>
            refine ⟨⟨k + 1, zs.set k (fv Z), by omega, by go_num, by rw [List.length_set]; exact HZL.out, (hoz.drewN nq1).store HZL.out.symm k _, HALL.out, HNEXT.out, (below_drewN hbz nq1).setCell hg1 _⟩, (hop.drewN nq1).far (by simp only [Value.ownBlock, ne_eq, Option.some.injEq]; omega) _⟩
          case measure => simp [intOf]; omega
        · obtain rfl : k = n := by omega
          have hzz : els p zs = coefL s R k (els p xs) := by
            refine ext_co (by rw [coefL_length, List.length_map, HZL.out]) fun j hj => ?_
            rw [List.length_map, HZL.out] at hj
            rw [HZC.out j hj, if_pos hj, coefL, co_tab, if_pos hj, dft, co_tab, if_pos hj, el_fv]
          have hsz : SL wr (some ⟨g, 0, none⟩) zs := by
            obtain ⟨A1, c1, h1, h2⟩ := hoz.len
            injection h1 with h1 _ _
            rw [h1]; exact h2
          have hkc : k ≤ c := by
            obtain ⟨Ao, no, co_, hvo, _, hco_, _, _⟩ := hoz.shapeN
            injection hvo with _ hv1 hv2
            omega
          have ht := trim_any p hp2 b (some ⟨g, 0, none⟩) c zs hzs (by rw [HZL.out]; omega) (by rw [HZL.out]; omega) wr hcb hsz
          rw [HZL.out, hzz] at ht
          have HT := Lib.hid ht
          clear ht hzz
          go_wp2_with fail
          refine (HT.out).mono ?_
          rintro e w4 ⟨v4, rfl, hown4, hb4⟩
          go_wp2
          go_ret2
          exact ⟨v4, rfl, hown4.more hbz.size, hbz.trans (hb4.mono hbz.size)⟩
/-- is a list a codeword? A Bool behind a name -/
noncomputable def cwB (p n : Nat) [NeZero p] (s : Fin p) (k : Int) (xs : List Int) : Bool := decide ((1 ≤ k ∧ k ≤ n) ∧ xs.length = n ∧ ((trimL (coefL s (rootI p n) n (els p xs))).length : Int) ≤ k)
set_option maxHeartbeats 1000000 in
theorem is_any (p S D b : Nat) [NeZero p] (n : Nat) (s : Fin p) (k : Int) (A : Option Addr) (m cap : Nat) (xs : List Int) (hml : xs.length = m) (hxs : ∀ x ∈ xs, I64 x) (w : World) (hD : Dom w S D b p n s) (hs : SL w A xs) :
    Calls Tryz.prog 29 #[.pointer (some ⟨D, 0, none⟩), vi k, .slice A m cap] w fun e w' => SaysW (.bool (cwB p n s k xs)) w e w' := by
  have hmay := may_any D n k w hD.c1
  by_cases h1 : 1 ≤ k ∧ k ≤ n
  · rw [mayB_true h1] at hmay
    have HMAY := Lib.hid hmay
    by_cases h2 : m = n
    · have hc := coefs_any p S D b n s A cap xs (by rw [hml, h2]) hxs w hD hs
      rw [← h2] at hc
      obtain ⟨B, hB⟩ : ∃ B, B = cwB p n s k xs := ⟨_, rfl⟩
      have hBe : B = decide (((trimL (coefL s (rootI p n) n (els p xs))).length : Int) ≤ k) := by
        rw [hB]; unfold cwB; rw [decide_eq_decide]
        exact ⟨fun h => h.2.2, fun h => ⟨h1, by rw [hml, h2], h⟩⟩
      rw [← hB]
      obtain ⟨l, hl⟩ : ∃ l, l = trimL (coefL s (rootI p m) m (els p xs)) := ⟨_, rfl⟩
      rw [← hl] at hc
      rw [← h2, ← hl] at hBe
      have HC := Lib.hid hc
      have HBE := Lib.hid hBe
      clear hc hmay hB hBe hl h1 h2 hml
      go_enter Tryz.func29, Tryz.ntmps29
      go_wp2_with fail
      refine (HMAY.out).mono ?_
      rintro e w' ⟨rfl, rfl⟩
      go_wp2_with fail
      refine (HC.out).mono ?_
      rintro e w1 ⟨v, rfl, hown, hb⟩
      obtain ⟨A1, n1, c1, rfl, hl1, _, _, _⟩ := hown.shapeN
      rw [List.length_map] at hl1
      have hfin : B = decide ((n1 : Int) ≤ k) := by rw [HBE.out, hl1]
      have HFIN := Lib.hid hfin
      clear hfin hl1
      by_cases h3 : (n1 : Int) ≤ k
      · have hf : B = true := by rw [HFIN.out]; exact decide_eq_true h3
        have HF := Lib.hid hf
        clear hf
        go_wp2
        go_ret
        exact ⟨ret_bool HF.out.symm, hb⟩
      · have hf : B = false := by rw [HFIN.out]; exact decide_eq_false h3
        have t3 : decide ((n1 : Int) ≤ k) = false := decide_eq_false h3
        have HF := Lib.hid hf
        clear hf
        go_wp2
        go_ret
        exact ⟨ret_bool HF.out.symm, hb⟩
    · have hc := coefs_bad D n A m cap h2 w hD.c1
      have hB : cwB p n s k xs = false := decide_eq_false (fun h => h2 (by rw [← hml]; exact h.2.1))
      have HC := Lib.hid hc
      have HB := Lib.hid hB
      clear hc hmay hB h1 h2 hml
      go_enter Tryz.func29, Tryz.ntmps29
      go_wp2_with fail
      refine (HMAY.out).mono ?_
      rintro e w' ⟨rfl, rfl⟩
      go_wp2_with fail
      refine (HC.out).mono ?_
      rintro e w' ⟨rfl, rfl⟩
      go_wp2
      go_ret
      exact ⟨ret_bool HB.out.symm, Below.refl _ _⟩
  · rw [mayB_false h1] at hmay
    have hB : cwB p n s k xs = false := decide_eq_false (fun h => h1 h.1)
    have HMAY := Lib.hid hmay
    have HB := Lib.hid hB
    clear hmay hB h1 hml
    go_enter Tryz.func29, Tryz.ntmps29
    go_wp2_with fail
    refine (HMAY.out).mono ?_
    rintro e w' ⟨rfl, rfl⟩
    go_wp2
    go_ret
    exact ⟨ret_bool HB.out.symm, Below.refl _ _⟩
end Go.Proofs.YtonalbdehcmjmaaGreat

/- The walk of the law DomainBack. -/
set_option linter.unusedVariables false
namespace Go.Proofs.YtonalbdehcmjmaaGreat
open Go.RowKit Zp

theorem ints_sameH (A B : Option Addr) (n c m d : Nat) (xs ys : List Int) (hnx : xs.length = n) (hmy : ys.length = m) (he : xs = ys) (hn : n ≤ 9223372036854775807) (w : World) (hsx : SL w A xs) (hsy : SL w B ys) :
    Calls Tryz.prog 11 #[.slice A n c, .slice B m d] w fun e w' => e = .returned (.bool true) ∧ ∃ k, w' = w.drewN k := by
  subst hnx hmy
  have h := ints_any A B c d xs ys hn (by rw [← he]; exact hn) w hsx hsy
  rw [eqB_true he] at h
  exact h

end Go.Proofs.YtonalbdehcmjmaaGreat

/- Walk: same.Spoil. -/
set_option linter.unusedVariables false
namespace Go.Proofs.YtonalbdehcmjmaaGreat
open Go.RowKit Zp

end Go.Proofs.YtonalbdehcmjmaaGreat

/- Walks of the reference's Points and Values. -/
set_option linter.unusedVariables false
namespace Go.Proofs.YtonalbdehcmjmaaGreat
open Go.RowKit Zp

/-- a reference's domain lies at a block -/
structure RD (w : World) (B q n : Nat) (s r : Int) : Prop where
  c0 : w.cell? ⟨B, 0, none⟩ = some (vi q)
  c1 : w.cell? ⟨B, 1, none⟩ = some (vi n)
  c2 : w.cell? ⟨B, 2, none⟩ = some (vi s)
  c3 : w.cell? ⟨B, 3, none⟩ = some (vi r)
theorem RD.new (w : World) (t : TypeId) (q n : Nat) (s r : Int) : RD (w.alloc (.cells #[vi q, vi n, vi s, vi r] t)) w.heap.size q n s r := by
  have h := Blk.new w t #[vi q, vi n, vi s, vi r]
  exact ⟨(h.cell 0).trans rfl, (h.cell 1).trans rfl, (h.cell 2).trans rfl, (h.cell 3).trans rfl⟩
theorem RD.below {w w' : World} {B q n : Nat} {s r : Int} (h : RD w B q n s r) {X : Nat} (hb : Below X w w') (hB : B < X) : RD w' B q n s r :=
  ⟨(hb.cell (p := ⟨B, 0, none⟩) hB).trans h.c0, (hb.cell (p := ⟨B, 1, none⟩) hB).trans h.c1, (hb.cell (p := ⟨B, 2, none⟩) hB).trans h.c2, (hb.cell (p := ⟨B, 3, none⟩) hB).trans h.c3⟩
end Go.Proofs.YtonalbdehcmjmaaGreat

/- Walks: same.Spoil; Domain.Points; the reference's Half. -/
set_option linter.unusedVariables false
namespace Go.Proofs.YtonalbdehcmjmaaGreat
open Go.RowKit Zp



end Go.Proofs.YtonalbdehcmjmaaGreat

/- The walk of ref5.path. -/
set_option linter.unusedVariables false
namespace Go.Proofs.YtonalbdehcmjmaaGreat
open Go.RowKit Zp
theorem half_wrap {n h : Nat} (h1 : n = 2 * h) (h2 : n ≤ 65536) : wrap64 ((n : Int) / 2) = (h : Int) := by rw [IntWalk.wrap64_in _ (by omega)]; omega
theorem step_wrap {t : Nat} (h : t ≤ 65536) : IntKind.i64.wrap ((t : Int) + 1) = (t : Int) + 1 := IntWalk.i64_in _ (by omega)
end Go.Proofs.YtonalbdehcmjmaaGreat

/- The walk of ref5.Check. -/
set_option linter.unusedVariables false
namespace Go.Proofs.YtonalbdehcmjmaaGreat
open Go.RowKit Zp
/-- what a check hands back: is it taken, the places; the chain stands where it stands -/
def CkIs (ok : Bool) (l : List Int) (w : World) (e : Ending) (w' : World) : Prop :=
  ∃ A n c, e = .returned (.tuple #[.slice A n c, .bool ok]) ∧ l.length = n ∧ n * 8 ≤ 140737488351232 ∧ SL w' A l ∧ (∀ x ∈ l, I64 x) ∧ ∀ ad, A = some ad → w.heap.size ≤ ad.block
theorem CkIs.no (w w' : World) : CkIs false [] w (.returned (.tuple #[.slice none 0 0, .bool false])) w' := ⟨none, 0, 0, rfl, rfl, by omega, SL.nil, by simp, fun ad h => by simp at h⟩
theorem four_lt {j t : Nat} : 4 < nI j t ↔ t < rndK j := by
  unfold nI rndK
  rw [show (4 : Nat) = 2 ^ 2 from rfl, Nat.pow_lt_pow_iff_right (by omega)]
  omega
theorem i64_drR {p k : Nat} [NeZero p] (hm : p ≤ 2147483647) (D : List Int) (roots : List (List Int)) (i : Nat) : I64 (drR p k D roots i) := by
  obtain ⟨x, hx⟩ := digL_bounds (p := p) (k := k) (4 :: digL p k (3 :: (dgR p k D roots i ++ roots.getD i []))) (j := 0) (by omega)
  unfold drR
  show I64 ((digL p k (4 :: digL p k (3 :: (dgR p k D roots i ++ roots.getD i [])))).getD 0 0)
  rw [hx]
  exact i64_fv _ hm
end Go.Proofs.YtonalbdehcmjmaaGreat

/- The walk of ref5.Check, where the degree and the number of places may be. -/
set_option linter.unusedVariables false
namespace Go.Proofs.YtonalbdehcmjmaaGreat
open Go.RowKit Zp
/-- what the check comes to: taken?, the places, the digest -/
noncomputable def okO (p k : Nat) [NeZero p] (s : Fin p) (e j : Nat) (f : FldI) (D : List Int) (a : Nat) : Bool :=
  decide (f.opens.length = rndK j) && (decide (degL (els p f.last) < (nI j (rndK j) : Int)) && checkO p k s e j f (drR p k D f.roots) (placesL p k (dgL p k D f.roots f.last) ((nI e 1 : Nat) : Int) a))
theorem insU_length (a : Int) : ∀ l : List Int, (insU a l).length ≤ l.length + 1 := fun l => by
  induction l with
  | nil => simp [insU]
  | cons b l ih =>
    unfold insU
    split
    · simp
    · split
      · simp
      · simp only [List.length_cons]; omega
theorem onceL_length : ∀ l : List Int, (onceL l).length ≤ l.length
  | [] => by simp [onceL]
  | a :: l => by
    show (insU a (onceL l)).length ≤ _
    have h1 := insU_length a (onceL l)
    have h2 := onceL_length l
    simp only [List.length_cons]
    omega
/-- what is shown is an Opening of those places -/
theorem okO_of {p k : Nat} [NeZero p] {o : OpnI} {root : List Int} {n : Int} {h : Nat} {places : List Int} (hs : showF p k o.l o.rs o.ns root n (onceL (modL places h)) = true) (hlen : places.length ≤ 65536) {x : Int} (hx : x ∈ places) : OkO o (x % (h : Int)) := by
  unfold showF at hs
  rw [Bool.and_eq_true, Bool.and_eq_true] at hs
  obtain ⟨h1, h2, h3⟩ := hs
  have e1 : o.l = onceL (modL places h) := of_decide_eq_true h1
  have ht := takenB_iff.1 h3
  refine ⟨by rw [e1]; exact asc_onceL _, ht.2.2.1, ?_, ?_, fun r hr => ?_⟩
  · rw [e1]
    exact Nat.le_trans (onceL_length _) (by rw [modL_len]; exact hlen)
  · rw [e1, mem_onceL]
    exact List.mem_map.2 ⟨x, hx, rfl⟩
  · exact of_decide_eq_true (List.all_eq_true.1 h2 r hr)
section
variable {p k : Nat} [NeZero p] {s : Fin p} {e j : Nat} {f : FldI} {D : List Int} {a : Nat}
theorem okO_len (h : f.opens.length ≠ rndK j) : okO p k s e j f D a = false := by unfold okO; rw [decide_eq_false h]; rfl
theorem okO_deg (h : ¬ degL (els p f.last) < (nI j (rndK j) : Int)) : okO p k s e j f D a = false := by unfold okO; rw [decide_eq_false h]; simp
theorem okO_show {u : Nat} (hu : u < rndK j) (h : showF p k (opnO f.opens u).l (opnO f.opens u).rs (opnO f.opens u).ns (f.roots.getD u []) ((nI e (u + 1) : Nat) : Int) (onceL (modL (placesL p k (dgL p k D f.roots f.last) ((nI e 1 : Nat) : Int) a) (nI e (u + 1)))) = false) : okO p k s e j f D a = false := by
  have : checkO p k s e j f (drR p k D f.roots) (placesL p k (dgL p k D f.roots f.last) ((nI e 1 : Nat) : Int) a) = false := by
    unfold checkO
    rw [show ((List.range (rndK j)).all fun i => showF p k (opnO f.opens i).l (opnO f.opens i).rs (opnO f.opens i).ns (f.roots.getD i []) ((nI e (i + 1) : Nat) : Int) (onceL (modL (placesL p k (dgL p k D f.roots f.last) ((nI e 1 : Nat) : Int) a) (nI e (i + 1))))) = false from List.all_eq_false.2 ⟨u, List.mem_range.2 hu, by rw [h]; simp⟩]
    rfl
  unfold okO
  rw [this]
  simp
theorem okO_goes {x : Int} (hx : x ∈ placesL p k (dgL p k D f.roots f.last) ((nI e 1 : Nat) : Int) a) (h : goesO p s e f.opens (drR p k D f.roots) f.last (rndK j) x = false) : okO p k s e j f D a = false := by
  have : checkO p k s e j f (drR p k D f.roots) (placesL p k (dgL p k D f.roots f.last) ((nI e 1 : Nat) : Int) a) = false := by
    unfold checkO
    rw [show ((placesL p k (dgL p k D f.roots f.last) ((nI e 1 : Nat) : Int) a).all fun x => goesO p s e f.opens (drR p k D f.roots) f.last (rndK j) x) = false from List.all_eq_false.2 ⟨x, hx, by rw [h]; simp⟩]
    simp
  unfold okO
  rw [this]
  simp
theorem okO_true (h1 : f.opens.length = rndK j) (h2 : degL (els p f.last) < (nI j (rndK j) : Int)) (h3 : ∀ u, u < rndK j → showF p k (opnO f.opens u).l (opnO f.opens u).rs (opnO f.opens u).ns (f.roots.getD u []) ((nI e (u + 1) : Nat) : Int) (onceL (modL (placesL p k (dgL p k D f.roots f.last) ((nI e 1 : Nat) : Int) a) (nI e (u + 1)))) = true)
    (h4 : ∀ x ∈ placesL p k (dgL p k D f.roots f.last) ((nI e 1 : Nat) : Int) a, goesO p s e f.opens (drR p k D f.roots) f.last (rndK j) x = true) : okO p k s e j f D a = true := by
  unfold okO checkO
  rw [decide_eq_true h1, decide_eq_true h2, List.all_eq_true.2 (fun u hu => h3 u (List.mem_range.1 hu)), List.all_eq_true.2 h4]
  rfl
end
end Go.Proofs.YtonalbdehcmjmaaGreat

/- Contracts of Go's library, laid at this program: each function of the shelf's beside its own number here. -/
set_option linter.unusedVariables false
namespace Go.Proofs.YtonalbdehcmjmaaGreat
open Go.Shelf
def shSort_ren : Go.Shelf.Ren := ⟨fun | 5 => 65 | 8 => 86 | 7 => 85 | 19 => 105 | 20 => 106 | 10 => 96 | 11 => 97 | 12 => 98 | 13 => 99 | 14 => 100 | 15 => 101 | 16 => 102 | 17 => 103 | 18 => 104 | 30 => 112 | 31 => 113 | 32 => 114 | 33 => 115 | 34 => 116 | 35 => 117 | 40 => 118 | n => n, fun | 23 => 22 | 25 => 3 | 3 => 3 | 32 => 111 | 22 => 22 | 0 => 0 | 44 => 141 | 46 => 143 | 4 => 4 | 36 => 134 | 35 => 133 | 41 => 125 | 5 => 5 | 9 => 9 | 53 => 150 | 57 => 154 | 63 => 156 | 64 => 157 | n => n, fun | n => n⟩
theorem shSort : Go.Proofs.SlLaysM.n5 Tryz.prog shSort_ren := {
  mixed := by kernel_rfl
  f5 := ⟨Tryz.f65.name, by decide, Tryz.func65.trans (congrArg some (by kernel_rfl))⟩
  f7 := ⟨Tryz.f85.name, by decide, Tryz.func85.trans (congrArg some (by kernel_rfl))⟩
  f8 := Tryz.func86.trans (congrArg some (by kernel_rfl))
  f10 := ⟨Tryz.f96.name, by decide, Tryz.func96.trans (congrArg some (by kernel_rfl))⟩
  f11 := ⟨Tryz.f97.name, by decide, Tryz.func97.trans (congrArg some (by kernel_rfl))⟩
  f12 := ⟨Tryz.f98.name, by decide, Tryz.func98.trans (congrArg some (by kernel_rfl))⟩
  f13 := ⟨Tryz.f99.name, by decide, Tryz.func99.trans (congrArg some (by kernel_rfl))⟩
  f14 := ⟨Tryz.f100.name, by decide, Tryz.func100.trans (congrArg some (by kernel_rfl))⟩
  f15 := ⟨Tryz.f101.name, by decide, Tryz.func101.trans (congrArg some (by kernel_rfl))⟩
  f16 := ⟨Tryz.f102.name, by decide, Tryz.func102.trans (congrArg some (by kernel_rfl))⟩
  f17 := ⟨Tryz.f103.name, by decide, Tryz.func103.trans (congrArg some (by kernel_rfl))⟩
  f18 := ⟨Tryz.f104.name, by decide, Tryz.func104.trans (congrArg some (by kernel_rfl))⟩
  f19 := Tryz.func105.trans (congrArg some (by kernel_rfl))
  f20 := Tryz.func106.trans (congrArg some (by kernel_rfl))
  f30 := ⟨Tryz.f112.name, by decide, Tryz.func112.trans (congrArg some (by kernel_rfl))⟩
  f31 := Tryz.func113.trans (congrArg some (by kernel_rfl))
  f32 := Tryz.func114.trans (congrArg some (by kernel_rfl))
  f33 := ⟨Tryz.f115.name, by decide, Tryz.func115.trans (congrArg some (by kernel_rfl))⟩
  f34 := ⟨Tryz.f116.name, by decide, Tryz.func116.trans (congrArg some (by kernel_rfl))⟩
  f35 := ⟨Tryz.f117.name, by decide, Tryz.func117.trans (congrArg some (by kernel_rfl))⟩
  f40 := ⟨Tryz.f118.name, by decide, Tryz.func118.trans (congrArg some (by kernel_rfl))⟩
  t0 := Tryz.underlying0
  a0 := Tryz.isAgg0
  z0 := Tryz.sizeOf0
  v0 := Tryz.zeroValue0
  t3 := Tryz.underlying3
  a3 := Tryz.isAgg3
  z3 := Tryz.sizeOf3
  v3 := Tryz.zeroValue3
  t4 := Tryz.underlying4
  a4 := Tryz.isAgg4
  z4 := Tryz.sizeOf4
  v4 := Tryz.zeroValue4
  t5 := Tryz.underlying5
  a5 := Tryz.isAgg5
  z5 := Tryz.sizeOf5
  v5 := Tryz.zeroValue5
  t9 := Tryz.underlying9
  a9 := Tryz.isAgg9
  z9 := Tryz.sizeOf9
  v9 := Tryz.zeroValue9
  t22 := Tryz.underlying22
  a22 := Tryz.isAgg22
  z22 := Tryz.sizeOf22
  v22 := Tryz.zeroValue22
  t23 := Tryz.underlying22
  a23 := Tryz.isAgg22
  z23 := Tryz.sizeOf22
  v23 := Tryz.zeroValue22
  t25 := Tryz.underlying3
  a25 := Tryz.isAgg3
  z25 := Tryz.sizeOf3
  v25 := Tryz.zeroValue3
  t32 := Tryz.underlying111
  a32 := Tryz.isAgg111
  z32 := Tryz.sizeOf111
  v32 := Tryz.zeroValue111
  t35 := Tryz.underlying133
  a35 := Tryz.isAgg133
  z35 := Tryz.sizeOf133
  v35 := Tryz.zeroValue133
  t36 := Tryz.underlying134
  a36 := Tryz.isAgg134
  z36 := Tryz.sizeOf134
  v36 := Tryz.zeroValue134
  t41 := Tryz.underlying125
  a41 := Tryz.isAgg125
  z41 := Tryz.sizeOf125
  v41 := Tryz.zeroValue125
  t44 := Tryz.underlying141
  a44 := Tryz.isAgg141
  z44 := Tryz.sizeOf141
  v44 := Tryz.zeroValue141
  t46 := Tryz.underlying143
  a46 := Tryz.isAgg143
  z46 := Tryz.sizeOf143
  v46 := Tryz.zeroValue143
  t53 := Tryz.underlying150
  a53 := Tryz.isAgg150
  z53 := Tryz.sizeOf150
  v53 := Tryz.zeroValue150
  t57 := Tryz.underlying154
  a57 := Tryz.isAgg154
  z57 := Tryz.sizeOf154
  v57 := Tryz.zeroValue154
  t63 := Tryz.underlying156
  a63 := Tryz.isAgg156
  z63 := Tryz.sizeOf156
  v63 := Tryz.zeroValue156
  t64 := Tryz.underlying157
  a64 := Tryz.isAgg157
  z64 := Tryz.sizeOf157
  v64 := Tryz.zeroValue157 }
def shCompact_ren : Go.Shelf.Ren := ⟨fun | 43 => 66 | n => n, fun | 22 => 22 | 23 => 3 | 3 => 3 | 4 => 4 | 0 => 0 | n => n, fun | n => n⟩
theorem shCompact : Go.Proofs.SlLaysN.n43 Tryz.prog shCompact_ren := {
  mixed := by kernel_rfl
  f43 := ⟨Tryz.f66.name, by decide, Tryz.func66.trans (congrArg some (by kernel_rfl))⟩
  t0 := Tryz.underlying0
  a0 := Tryz.isAgg0
  z0 := Tryz.sizeOf0
  v0 := Tryz.zeroValue0
  t3 := Tryz.underlying3
  a3 := Tryz.isAgg3
  z3 := Tryz.sizeOf3
  v3 := Tryz.zeroValue3
  t4 := Tryz.underlying4
  a4 := Tryz.isAgg4
  z4 := Tryz.sizeOf4
  v4 := Tryz.zeroValue4
  t22 := Tryz.underlying22
  a22 := Tryz.isAgg22
  z22 := Tryz.sizeOf22
  v22 := Tryz.zeroValue22
  t23 := Tryz.underlying3
  a23 := Tryz.isAgg3
  z23 := Tryz.sizeOf3
  v23 := Tryz.zeroValue3
  i23 := by kernel_rfl }
end Go.Proofs.YtonalbdehcmjmaaGreat

/- slices.Sort, Compact, Clip at ints of one's own, in this claim's words; sorted and compacted is: each once, ascending. -/
set_option linter.unusedVariables false
namespace Zp
open Go.Lib
theorem compactUpTo_asc (d : Array Int) (hs : ∀ i j, i ≤ j → j < d.size → d[i]! ≤ d[j]!) : ∀ m, m ≤ d.size → Asc (compactUpTo d m) ∧ ∀ x, x ∈ compactUpTo d m ↔ ∃ j, j < m ∧ d[j]! = x
  | 0, _ => ⟨by simp [compactUpTo, Asc], fun x => by simp [compactUpTo]⟩
  | m + 1, hm => by
    obtain ⟨ha, hx⟩ := compactUpTo_asc d hs m (by omega)
    rw [compactUpTo_succ]
    by_cases hk : keeps d m = true
    · rw [if_pos hk]
      constructor
      · refine List.pairwise_append.2 ⟨ha, by simp, fun a h1 b h2 => ?_⟩
        rw [List.mem_singleton] at h2
        subst h2
        obtain ⟨j, hj, rfl⟩ := (hx a).1 h1
        unfold keeps at hk
        have hk' := of_decide_eq_true hk
        rcases hk' with h0 | h0
        · omega
        · have e1 := hs j (m - 1) (by omega) (by omega)
          have e2 := hs (m - 1) m (by omega) (by omega)
          omega
      · intro x
        rw [List.mem_append, hx, List.mem_singleton]
        constructor
        · rintro (⟨j, hj, e⟩ | e)
          · exact ⟨j, by omega, e⟩
          · exact ⟨m, by omega, e.symm⟩
        · rintro ⟨j, hj, e⟩
          by_cases h : j < m
          · exact .inl ⟨j, h, e⟩
          · obtain rfl : j = m := by omega
            exact .inr e.symm
    · rw [if_neg hk, List.append_nil]
      refine ⟨ha, fun x => ?_⟩
      rw [hx]
      constructor
      · rintro ⟨j, hj, e⟩; exact ⟨j, by omega, e⟩
      · rintro ⟨j, hj, e⟩
        by_cases h : j < m
        · exact ⟨j, h, e⟩
        · obtain rfl : j = m := by omega
          unfold keeps at hk
          have hk' : ¬ (j = 0 ∨ d[j]! ≠ d[j - 1]!) := fun h => hk (decide_eq_true h)
          have h0 : j ≠ 0 := fun h => hk' (.inl h)
          have h1 : d[j]! = d[j - 1]! := Classical.byContradiction fun h => hk' (.inr h)
          exact ⟨j - 1, by omega, by rw [← h1]; exact e⟩
theorem compact_sorted {l : List Int} (h : l.Pairwise (· ≤ ·)) : Asc (compact l) ∧ ∀ x, x ∈ compact l ↔ x ∈ l := by
  have hg : ∀ (i : Nat) (hi : i < l.length), l.toArray[i]! = l[i] := fun i hi => by rw [getElem!_pos _ i (by simpa using hi)]; simp
  have hs : ∀ i j, i ≤ j → j < l.toArray.size → l.toArray[i]! ≤ l.toArray[j]! := fun i j hij hj => by
    have hj' : j < l.length := by simpa using hj
    rw [hg i (by omega), hg j hj']
    rcases Nat.lt_or_ge i j with h1 | h1
    · exact List.pairwise_iff_getElem.1 h i j (by omega) hj' h1
    · obtain rfl : i = j := by omega
      exact Int.le_refl _
  obtain ⟨h1, h2⟩ := compactUpTo_asc l.toArray hs l.length (by simp)
  refine ⟨h1, fun x => (h2 x).trans ?_⟩
  constructor
  · rintro ⟨j, hj, e⟩; rw [hg j hj] at e; subst e; exact List.getElem_mem _
  · intro hx
    obtain ⟨j, hj, e⟩ := List.mem_iff_getElem.1 hx
    exact ⟨j, hj, by rw [hg j hj]; exact e⟩
theorem compact_once (l : List Int) : compact (l.mergeSort fun x y => decide (x ≤ y)) = onceL l := by
  have hp : (l.mergeSort fun x y => decide (x ≤ y)).Pairwise (· ≤ ·) := by
    have := List.pairwise_mergeSort (le := fun x y : Int => decide (x ≤ y)) (fun a b c h1 h2 => by simp at *; omega) (fun a b => by simp; omega) l
    exact this.imp (fun h => by simpa using h)
  obtain ⟨h1, h2⟩ := compact_sorted hp
  exact onceL_of h1 fun x => (h2 x).trans List.mem_mergeSort
end Zp
namespace Go.Proofs.YtonalbdehcmjmaaGreat
open Go.RowKit Zp
theorem putCells_take {off : Nat} {zs : List Int} {c : Array Value} (hz : zs.length ≤ c.size) : (Go.Sort.putCells (Value.int .i64) 0 zs.toArray c).toList.take zs.length = zs.map vi := by
  apply List.ext_getElem?
  intro j
  rw [List.getElem?_take, List.getElem?_map]
  by_cases hj : j < zs.length
  · rw [if_pos hj]
    have e1 : (Go.Sort.putCells (Value.int .i64) 0 zs.toArray c)[j]? = some (.int .i64 zs.toArray[j]!) := by
      unfold Go.Sort.putCells
      rw [Array.getElem?_mapIdx, Array.getElem?_eq_getElem (by omega)]
      simp [hj]
    rw [Array.getElem?_toList, e1, List.getElem?_eq_getElem hj, getElem!_pos _ j (by simpa using hj)]
    simp
  · rw [if_neg hj, List.getElem?_eq_none (by omega)]
    rfl
/-- the cells of one's own ints turned -/
theorem own_put {w : World} {base g n c : Nat} {l zs : List Int} (h : Own w base (.slice (some ⟨g, 0, none⟩) n c) l) (hz : zs.length = l.length) (q : Nat) (os : Array Obj) :
    Own (Go.Sort.grow (Go.Sort.putRow (Value.int .i64) (Go.Sort.ahead w q) g 0 zs.toArray) os) base (.slice (some ⟨g, 0, none⟩) n c) zs ∧ w.grownBy (Go.Sort.grow (Go.Sort.putRow (Value.int .i64) (Go.Sort.ahead w q) g 0 zs.toArray) os) (some g) := by
  obtain ⟨h1, h2⟩ := h
  rcases h2 with ⟨e, _⟩ | ⟨g', cap, cur, e, hb, hg, hn, hc, hs, ht⟩
  · injection e with e; cases e
  · injection e with e1 e2 e3
    injection e1 with e1
    injection e1 with e1
    subst e1 e2 e3
    have hlt : g < w.heap.size := (Array.getElem?_eq_some_iff.1 hg).1
    refine ⟨⟨by simp, .inr ⟨g, c, Go.Sort.putCells (Value.int .i64) 0 zs.toArray cur, by rw [hz], hb, ?_, by rw [hz]; exact hn, hc, ?_, ?_⟩⟩, ⟨rfl, rfl, rfl, by simp, fun i hi hne => ?_⟩⟩
    · rw [Go.Sort.heap_grow_old _ _ (by simpa using hlt)]
      simp only [Go.Sort.putRow, Go.Sort.mapBlock, Go.Sort.heap_ahead, Array.getElem?_modify, if_true, hg, Option.map_some, Go.Sort.onCells]
    · simpa [Go.Sort.putCells] using hs
    · rw [Nat.mul_one]
      exact putCells_take (off := 0) (by rw [hz]; omega)
    · rw [Go.Sort.heap_grow_old _ _ (by simpa using hi)]
      have : g ≠ i := fun e => hne (by rw [e])
      simp only [Go.Sort.putRow, Go.Sort.mapBlock, Go.Sort.heap_ahead, Array.getElem?_modify, if_neg this]
theorem own_holds {w : World} {base g n c : Nat} {l : List Int} (h : Own w base (.slice (some ⟨g, 0, none⟩) n c) l) (hn : n = l.length) : Go.Sort.Holds (Value.int .i64) w g 0 l.toArray := fun j hj => by
  have hj' : j < l.length := by simpa using hj
  rw [Nat.zero_add, getElem!_pos _ j hj]
  exact ⟨by simpa using h.at_ hn j hj', h.frozen_ hn j⟩
/-- what a turn of the caller's own ints leaves -/
def Turned (base : Nat) (v u : Value) (l : List Int) (w : World) (w' : World) : Prop := Own w' base v l ∧ w.grownBy w' u.ownBlock
theorem sort_any {w : World} {base n c : Nat} {A : Option Addr} {l : List Int} (h : Own w base (.slice A n c) l) (hl : l.length = n) (hn : n ≤ 4000000000000000000) :
    Calls Tryz.prog 65 #[.slice A n c] w fun e w' => e = .returned (.tuple #[]) ∧ Turned base (.slice A n c) (.slice A n c) (l.mergeSort fun x y => decide (x ≤ y)) w w' := by
  rcases h.2 with ⟨e, h0⟩ | ⟨g, cap, cur, e, _, hg, _⟩
  · injection e with e1 e2 e3
    subst e1 e2 e3
    have hle : l = [] := List.eq_nil_of_length_eq_zero h0
    subst hle
    refine (Go.Proofs.AnyM.slices_Sort_int_none shSort none 0 w).mono ?_
    rintro e w' ⟨rfl, rfl⟩
    exact ⟨rfl, by rw [List.mergeSort_nil]; exact h, ⟨rfl, rfl, rfl, Nat.le_refl _, fun _ _ _ => rfl⟩⟩
  · injection e with e1 e2 e3
    subst e1 e3
    have hk := Go.Proofs.AnyM.slices_Sort_int shSort g 0 c l w (own_holds h hl.symm) (Array.getElem?_eq_some_iff.1 hg).1 (by omega)
    rw [hl] at hk
    refine hk.mono ?_
    rintro e w' ⟨rfl, q, os, rfl⟩
    exact ⟨rfl, own_put h (by simp) q os⟩
theorem own_cut {w : World} {base n c k : Nat} {A : Option Addr} {l : List Int} (h : Own w base (.slice A n c) l) (hl : l.length = n) (hk : k ≤ n) : Own w base (.slice A k c) (l.take k) := by
  have hlk : (l.take k).length = k := by rw [List.length_take]; omega
  rcases h.2 with ⟨e, h0⟩ | ⟨g, cap, cur, e, hb, hg, hn, hc, hs, ht⟩
  · injection e with e1 e2 e3
    subst e1 e2 e3
    refine ⟨by simp, .inl ⟨?_, by omega⟩⟩
    have : k = 0 := by omega
    rw [this]
  · injection e with e1 e2 e3
    subst e1 e2 e3
    refine ⟨by simp, .inr ⟨g, c, cur, by rw [hlk], hb, hg, by omega, hc, hs, ?_⟩⟩
    rw [List.map_take, ← ht, List.take_take, hlk]
    congr 1
    omega
theorem compact_any {w : World} {base n c : Nat} {A : Option Addr} {l : List Int} (h : Own w base (.slice A n c) l) (hl : l.length = n) (hn : n ≤ 4000000000000000000) :
    Calls Tryz.prog 66 #[.slice A n c] w fun e w' => e = .returned (.slice A (Go.Lib.compact l).length c) ∧ Turned base (.slice A (Go.Lib.compact l).length c) (.slice A n c) (Go.Lib.compact l) w w' := by
  rcases h.2 with ⟨e, h0⟩ | ⟨g, cap, cur, e, _, hg, hnc, _⟩
  · injection e with e1 e2 e3
    subst e1 e2 e3
    have hle : l = [] := List.eq_nil_of_length_eq_zero h0
    subst hle
    refine (Go.Proofs.AnyG.slices_Compact_int_empty shCompact none 0 w).mono ?_
    rintro e w' ⟨rfl, rfl⟩
    exact ⟨rfl, h, ⟨rfl, rfl, rfl, Nat.le_refl _, fun _ _ _ => rfl⟩⟩
  · injection e with e1 e2 e3
    subst e1 e3
    have hk := Go.Proofs.AnyG.slices_Compact_int shCompact g 0 c l w (own_holds h hl.symm) (by omega) (by omega)
    rw [hl] at hk
    refine hk.mono ?_
    rintro e w' ⟨rfl, q, rfl⟩
    have hcl : (Go.Lib.compact l).length ≤ l.length := by unfold Go.Lib.compact Go.Lib.compactUpTo; rw [List.length_map]; exact Nat.le_trans (List.length_filter_le _ _) (by simp)
    have hp := own_put h (zs := Go.Lib.compact l ++ List.replicate (n - (Go.Lib.compact l).length) 0) (by simp; omega) q #[]
    rw [Go.Sort.grow_empty] at hp
    have hc2 := own_cut hp.1 (k := (Go.Lib.compact l).length) (by simp; omega) (by omega)
    rw [List.take_left' rfl] at hc2
    exact ⟨rfl, hc2, hp.2⟩
end Go.Proofs.YtonalbdehcmjmaaGreat

/- slices.Equal, of two lists of ints, wherever they lie. -/
set_option linter.unusedVariables false
namespace Go.Proofs.YtonalbdehcmjmaaGreat
open Go.RowKit
def EqualRel (xs ys : List Int) (w : World) (i : Value) (wr : World) : Prop := ∃ k : Nat, k ≤ xs.length ∧ i = vi k ∧ xs.take k = ys.take k ∧ ∃ j, wr = w.drewN j

set_option maxHeartbeats 1000000 in
theorem equal_any (A B : Option Addr) (c d : Nat) (xs ys : List Int) (hx : xs.length ≤ 9223372036854775807) (hy : ys.length ≤ 9223372036854775807) (w : World) (hsx : SL w A xs) (hsy : SL w B ys) :
    Calls Tryz.prog 71 #[.slice A xs.length c, .slice B ys.length d] w fun e w' => e = .returned (.bool (eqB xs ys)) ∧ ∃ k, w' = w.drewN k := by
  obtain ⟨n, hn⟩ : ∃ n, n = xs.length := ⟨_, rfl⟩
  obtain ⟨m, hm⟩ : ∃ m, m = ys.length := ⟨_, rfl⟩
  rw [← hn, ← hm]
  rw [← hn] at hx
  rw [← hm] at hy
  have HN := Lib.hid hn
  have HM := Lib.hid hm
  clear hn hm
  by_cases hnm : n = m
  · have t1 : ((n : Int) != (m : Int)) = false := by rw [bne_eq_false_iff_eq]; omega
    have HNM := Lib.hid hnm
    clear hnm
    go_enter Tryz.func71, Tryz.ntmps71
    go_wp2
    go_loopw [13] (fun i wr => EqualRel xs ys w i wr) (fun i _ => n - (intOf i).toNat)
    case atStart => exact ⟨0, Nat.zero_le _, rfl, by simp, 0, rfl⟩
    case round =>
      obtain ⟨k, hk, rfl, heq, j, rfl⟩ := hrel
      rw [← HN.out] at hk
      have HEQ := Lib.hid heq
      clear heq
      by_cases hlt : k < n
      · have hkm : k < m := by rw [← HNM.out]; exact hlt
        have hkx : k < xs.length := by rw [← HN.out]; exact hlt
        have hky : k < ys.length := by rw [← HM.out]; exact hkm
        obtain ⟨ad, rfl, _, hc1⟩ := (hsx.drewN j).at_ hkx
        obtain ⟨bd, rfl, _, hc2⟩ := (hsy.drewN j).at_ hky
        have i1 : (0 : Int) ≤ k := by omega
        have i2 : (k : Int) < n := by omega
        have i3 : (k : Int) < m := by omega
        have htk : xs.take (k + 1) = xs.take k ++ [xs[k]] := List.take_succ_eq_append_getElem hkx
        have hty : ys.take (k + 1) = ys.take k ++ [ys[k]] := List.take_succ_eq_append_getElem hky
        obtain ⟨x, hxk⟩ : ∃ x, x = xs[k] := ⟨_, rfl⟩
        obtain ⟨y, hyk⟩ : ∃ y, y = ys[k] := ⟨_, rfl⟩
        rw [← hxk] at hc1 htk
        rw [← hyk] at hc2 hty
        rw [World.cell?_drewN] at hc1 hc2
        by_cases hxy : x = y
        · have t2 : (x != y) = false := by rw [hxy]; simp
          have h2 : xs.take (k + 1) = ys.take (k + 1) := by rw [htk, hty, HEQ.out, hxy]
          have H2 := Lib.hid h2
          clear h2 hxy htk hty hxk hyk
          go_wp2
          go_quiet (fail)
          go_wp2
          go_roundw
          case rel => exact ⟨k + 1, by rw [← HN.out]; omega, by go_num, H2.out, _, rfl⟩
          case measure => simp [intOf]; omega
        · have t2 : (x != y) = true := by rw [bne_iff_ne]; exact hxy
          have h2 : eqB xs ys = false := eqB_false fun e => by
            subst e
            exact hxy (by rw [hxk, hyk])
          have H2 := Lib.hid h2
          clear h2 hxy htk hty hxk hyk
          go_wp2
          go_quiet (fail)
          go_wp2
          go_ret
          exact ⟨ret_bool H2.out.symm, _, World.drewN_drewN _ _ _⟩
      · obtain rfl : k = n := by omega
        have h2 : eqB xs ys = true := eqB_true (by
          have := HEQ.out
          rwa [List.take_of_length_le (by rw [← HN.out]; exact Nat.le_refl _), List.take_of_length_le (by rw [← HM.out, ← HNM.out]; exact Nat.le_refl _)] at this)
        have H2 := Lib.hid h2
        clear h2
        go_wp2
        go_ret
        exact ⟨ret_bool H2.out.symm, _, rfl⟩
  · have t1 : ((n : Int) != (m : Int)) = true := by rw [bne_iff_ne]; omega
    have h2 : eqB xs ys = false := eqB_false fun e => hnm (by rw [HN.out, HM.out, e])
    have H2 := Lib.hid h2
    clear h2 hnm
    go_enter Tryz.func71, Tryz.ntmps71
    go_wp2
    go_ret
    exact ⟨ret_bool H2.out.symm, 0, rfl⟩
end Go.Proofs.YtonalbdehcmjmaaGreat
