/- A bundle of texts: Sw5, Ni, Cg, Ck5, Mf1, Mf2, Nj, Nk. -/
import Derived.Test.YtonalbdehcmjmaaGreatQ08
import Derived.Test.YtonalbdehcmjmaaGreatQ05
import Derived.Test.YtonalbdehcmjmaaGreatQ07
import Derived.Test.YtonalbdehcmjmaaGreatQ01
import Derived.Deep.RegionLaw
/- The walk of round.shown. -/
set_option linter.unusedVariables false
namespace Go.Proofs.YtonalbdehcmjmaaGreat
open Go.RowKit Zp
theorem not_any_two (rs : List (List Int)) : (!rs.any fun x => decide (x.length ≠ 2)) = rs.all fun x => decide (x.length = 2) := by
  induction rs with
  | nil => rfl
  | cons a rs ih =>
    rw [List.any_cons, List.all_cons, Bool.not_or, ih]
    congr 1
    by_cases h : a.length = 2 <;> simp [h]
theorem compact_le (l : List Int) : (Go.Lib.compact l).length ≤ l.length := by
  unfold Go.Lib.compact Go.Lib.compactUpTo
  rw [List.length_map]
  exact Nat.le_trans (List.length_filter_le _ _) (by simp)
theorem turned_below {base : Nat} {v u : Value} {l xs : List Int} {w0 w w' : World} (h : Turned base v u l w w') (ho : Own w base u xs) (hb : Below w0.heap.size w0 w) (hB : w0.heap.size ≤ base) : Below w0.heap.size w0 w' :=
  hb.grown h.2 hb.size (fun g hg => Nat.le_trans hB (ho.lt g hg).1)
set_option maxRecDepth 100000 in
set_option maxHeartbeats 4000000 in
theorem shown_any (p S b sg k z S2 D b2 : Nat) [NeZero p] (oo : Nat → Nat → Fin p) (n h : Nat) (hn : n = 2 * h) (hh : 1 ≤ h) (hnm : n ≤ 65536) (s : Fin p) (r : Int) (AT : Option Addr) (nT cT : Nat) (top : List Int) (hT : ArgW nT top)
    (AP : Option Addr) (nP cP : Nat) (places : List Int) (hlP : places.length = nP) (hP0 : ∀ x ∈ places, 0 ≤ x) (hPb : nP * 8 ≤ 140737488351232)
    {A0 : Option Addr} {n0 c0 : Nat} {AR : Option Addr} {nR cR : Nat} {AN : Option Addr} {nN cN : Nat} (o : OpnI) (w : World) (F : Fld w S b p) (G : Spg w sg b k z oo) (hD : Dom w S2 D b2 p n s) (sT : SL w AT top) (sP : SL w AP places) (hx : OpnAt w A0 n0 c0 o.l AR nR cR o.rs AN nN cN o.ns) :
    Calls Tryz.prog 40 #[.agg #[.pointer (some ⟨D, 0, none⟩), vi r, .slice A0 n0 c0, .slice AR nR cR, .slice AN nN cN], .pointer (some ⟨sg, 0, none⟩), .slice AT nT cT, .slice AP nP cP] w fun e w' => SaysW (.bool (showF p k o.l o.rs o.ns top (h : Int) (onceL (modL places h)))) w e w' := by
  obtain ⟨want, hwant⟩ : ∃ want, want = onceL (modL places h) := ⟨_, rfl⟩
  rw [← hwant]
  have HWT := Lib.hid hwant
  clear hwant
  have hb0 := below_of_eq (w := w) (o := .cells #[.pointer (some ⟨D, 0, none⟩), vi r, .slice A0 n0 c0, .slice AR nR cR, .slice AN nN cN] 87) rfl
  have hB4 := Blk.new w 87 #[.pointer (some ⟨D, 0, none⟩), vi r, .slice A0 n0 c0, .slice AR nR cR, .slice AN nN cN]
  obtain ⟨W, hW⟩ : ∃ W, W = w.alloc (.cells #[.pointer (some ⟨D, 0, none⟩), vi r, .slice A0 n0 c0, .slice AR nR cR, .slice AN nN cN] 87) := ⟨_, rfl⟩
  rw [← hW] at hb0 hB4
  have hgl := block_lt_of_cell G.c0
  have HW := Lib.hid hW
  have HX := Lib.hid hx
  have hq : wrap64 ((n : Int) / 2) = (h : Int) := by rw [IntWalk.wrap64_in _ (by omega)]; omega
  have HSZ := Lib.hid (size_any D n W ((hD.below hb0 hD.fld.le).c1))
  have HMO := Lib.hid (fmodulo_any AP nP cP places hlP hP0 hPb h hh (by omega) W (sP.below hb0))
  have HTC := Lib.hid (fun W' (hb : Below w.heap.size w W') => tcheck_w p S b sg k z oo AT nT cT top hT (h : Int) W' (F.below hb F.le) (G.below hb hgl) (sT.below hb) (hx.below hb))
  have HCF := Lib.hid (fun W' (hb : Below w.heap.size w W') => containsR_any 74 (enters_of Tryz.func74 (by kernel_rfl) rfl) (fun x => decide (x.length ≠ 2)) AR nR cR o.rs hx.lR (by have := hx.bR; omega) W' (fun A1 n1 c1 x hx hn _ => shown1_any A1 n1 c1 x hx hn W') (hx.tR.below hb))
  have HLP := Lib.hid (And.intro hlP hPb)
  have HB0 := Lib.hid hb0
  have HB4 := Lib.hid hB4
  have g0 := (hB4.cell 0).trans (show _ = some (.pointer (some ⟨D, 0, none⟩)) from rfl)
  clear hW hb0 hB4 hx hT F G hD sT sP hlP hP0 hPb hgl
  go_enter Tryz.func40, Tryz.ntmps40
  go_upto_region 1 with (fail)
  rw [← HW.out]
  go_wp2_with fail
  refine HSZ.out.mono ?_
  rintro _ _ ⟨rfl, rfl⟩
  go_wp2_with fail
  refine HMO.out.mono ?_
  rintro _ w2 ⟨v2, rfl, ho2, hb2⟩
  obtain ⟨A2, n2, c2, rfl, hl2, hc2, _, hs2⟩ := ho2.shapeN
  have hn2 : n2 ≤ 4000000000000000000 := by rw [← hl2, modL_len, HLP.out.1]; have := HLP.out.2; omega
  have HSO := Lib.hid (sort_any ho2 hl2 hn2)
  have HO2 := Lib.hid ho2
  have HB2 := Lib.hid (HB0.out.trans (hb2.mono HB0.out.size))
  have HB42 := Lib.hid (Blk.below HB4.out hb2 HB4.out.lt)
  have HL2 := Lib.hid (And.intro hl2 hn2)
  have HBS := Lib.hid (show w.heap.size < W.heap.size from HB4.out.lt)
  clear ho2 hb2 hl2 hc2 hs2 hn2 g0
  go_wp2_with fail
  refine HSO.out.mono ?_
  rintro _ w3 ⟨rfl, ht3⟩
  have hB3 : Blk w3 w.heap.size 87 #[.pointer (some ⟨D, 0, none⟩), vi r, .slice A0 n0 c0, .slice AR nR cR, .slice AN nN cN] := Blk.grown HB42.out ht3.2 (fun e => by have := (HO2.out.lt _ e.symm).1; have := HBS.out; omega)
  have HB3 := Lib.hid (turned_below ht3 HO2.out HB2.out (Nat.le_of_lt HBS.out))
  have HO3 := Lib.hid ht3.1
  have HB43 := Lib.hid hB3
  clear ht3 hB3
  have hml := compact_once (modL places h)
  rw [← HWT.out] at hml
  have hll : ((modL places h).mergeSort fun x y => decide (x ≤ y)).length = n2 := by rw [List.length_mergeSort, HL2.out.1]
  have HLL := Lib.hid hll
  have HML := Lib.hid hml
  have HCM : Hid (∀ q : Nat, Calls Tryz.prog 66 #[.slice A2 n2 c2] (w3.drewN q) fun e w' => e = .returned (.slice A2 want.length c2) ∧ SL w' A2 want ∧ Below w.heap.size w w' ∧ Blk w' w.heap.size 87 #[.pointer (some ⟨D, 0, none⟩), vi r, .slice A0 n0 c0, .slice AR nR cR, .slice AN nN cN]) := Lib.hid fun q => by
    have ho : Own (w3.drewN q) W.heap.size (.slice A2 n2 c2) ((modL places h).mergeSort fun x y => decide (x ≤ y)) := HO3.out
    refine (compact_any ho HLL.out HL2.out.2).mono ?_
    rintro e w' ⟨rfl, ht⟩
    rw [HML.out] at ht ⊢
    obtain ⟨A9, n9, c9, e9, hl9, _, _, hs9⟩ := ht.1.shapeN
    injection e9 with e1 e2 e3
    subst e1 e2 e3
    exact ⟨rfl, hs9, turned_below ht ho (below_drewN HB3.out q) (Nat.le_of_lt HBS.out), Blk.grown (show Blk (w3.drewN q) w.heap.size _ _ from HB43.out) ht.2 (fun e => by have := (ho.lt _ e.symm).1; have := HBS.out; omega)⟩
  have hwl : want.length ≤ n2 := by
    have := compact_le ((modL places h).mergeSort fun x y => decide (x ≤ y))
    rw [HML.out, HLL.out] at this
    exact this
  have HEQ : Hid (∀ W', SL W' A2 want → Below w.heap.size w W' → Calls Tryz.prog 71 #[.slice A0 n0 c0, .slice A2 want.length c2] W' fun e w' => e = .returned (.bool (eqB o.l want)) ∧ ∃ k, w' = W'.drewN k) := Lib.hid fun W' hs hb => by
    have h1 := equal_any A0 A2 c0 c2 o.l want (by rw [HX.out.l0]; have := HX.out.b0; omega) (by have := HL2.out.2; omega) W' (HX.out.s0.below hb) hs
    rw [HX.out.l0] at h1
    exact h1
  clear hml hll hwl
  have g2 := (HB43.out.cell 2).trans (show _ = some (.slice A0 n0 c0) from rfl)
  have g3 := (HB43.out.cell 3).trans (show _ = some (.slice AR nR cR) from rfl)
  have g4 := (HB43.out.cell 4).trans (show _ = some (.slice AN nN cN) from rfl)
  have HGG : Hid (∀ W', Blk W' w.heap.size 87 #[.pointer (some ⟨D, 0, none⟩), vi r, .slice A0 n0 c0, .slice AR nR cR, .slice AN nN cN] → W'.cell? ⟨w.heap.size, 2, none⟩ = some (.slice A0 n0 c0) ∧ W'.cell? ⟨w.heap.size, 3, none⟩ = some (.slice AR nR cR) ∧ W'.cell? ⟨w.heap.size, 4, none⟩ = some (.slice AN nN cN)) := Lib.hid fun W' h =>
    ⟨(h.cell 2).trans rfl, (h.cell 3).trans rfl, (h.cell 4).trans rfl⟩
  have KS : Hid (∀ W', Blk W' w.heap.size 87 #[.pointer (some ⟨D, 0, none⟩), vi r, .slice A0 n0 c0, .slice AR nR cR, .slice AN nN cN] → W'.cell? ⟨w.heap.size, 2, none⟩ = some (.slice A0 n0 c0) ∧ W'.cell? ⟨w.heap.size, 3, none⟩ = some (.slice AR nR cR) ∧ W'.cell? ⟨w.heap.size, 4, none⟩ = some (.slice AN nN cN)) := HGG
  have hBd : Blk (w3.drewN 1) w.heap.size 87 #[.pointer (some ⟨D, 0, none⟩), vi r, .slice A0 n0 c0, .slice AR nR cR, .slice AN nN cN] := HB43.out
  clear g2 g3 g4 HGG
  cases hE : eqB o.l want with
  | false =>
    rw [hE] at HEQ
    have HR : Hid (showF p k o.l o.rs o.ns top (h : Int) want = false) := Lib.hid (by unfold showF; rw [hE]; rfl)
    clear hE
    go_wp2_with fail
    refine wp_region_held_drew (S := fun W' => W'.cell? ⟨w.heap.size, 2, none⟩ = some (.slice A0 n0 c0) ∧ W'.cell? ⟨w.heap.size, 3, none⟩ = some (.slice AR nR cR) ∧ W'.cell? ⟨w.heap.size, 4, none⟩ = some (.slice AN nN cN)) (by kernel_rfl) (KS.out _ hBd) (fun hHeld => ?_)
    refine wpAnyH_take_at (i := 0) rfl rfl (by kernel_rfl) (by kernel_rfl) (by kernel_rfl) (fun _ _ _ h => h) (Or.inl ⟨by rfl, by (intro w hSw; (try dsimp only at hSw); go_simp; try with_reducible rfl)⟩) (by assumption) ?_
    (try simp only [Act.put, List.setIfInBounds_toArray, List.set_cons_zero, List.set_cons_succ])
    refine wpAnyH_take_at (i := 1) rfl rfl (by kernel_rfl) (by kernel_rfl) (by kernel_rfl) (fun _ _ _ h => h) (Or.inl ⟨by rfl, by (intro w hSw; (try dsimp only at hSw); go_simp; try with_reducible rfl)⟩) (by assumption) ?_
    (try simp only [Act.put, List.setIfInBounds_toArray, List.set_cons_zero, List.set_cons_succ])
    refine wpAnyH_take_at (i := 2) rfl rfl (by kernel_rfl) (by kernel_rfl) (by kernel_rfl) (fun _ _ _ h => h) (Or.inl ⟨by rfl, by (intro w hSw; (try dsimp only at hSw); go_simp; try with_reducible rfl)⟩) (by assumption) ?_
    (try simp only [Act.put, List.setIfInBounds_toArray, List.set_cons_zero, List.set_cons_succ])
    refine wpAnyH_take_at (i := 3) rfl rfl (by kernel_rfl) (by kernel_rfl) (by kernel_rfl) (fun _ _ _ h => h) (Or.inl ⟨by rfl, by (intro w hSw; (try dsimp only at hSw); go_simp; try with_reducible rfl)⟩) (by assumption) ?_
    (try simp only [Act.put, List.setIfInBounds_toArray, List.set_cons_zero, List.set_cons_succ])
    refine wpAnyH_ready (rs := [4]) (by kernel_rfl) (by simp) ?_
    refine AllReadyH.cons rfl (fun K hK => ?_) AllReadyH.nil
    go_simp
    refine (HCM.out 1).mono ?_
    rintro _ w4 ⟨rfl, hs4, hb4, hB4⟩
    refine hK.out _ _ (by (first | exact KS.out _ (by assumption) | (simp only [Act.put]; exact KS.out _ (by assumption)))) (fun hHeld => ?_)
    clear hK K
    (try simp only [Act.put, List.setIfInBounds_toArray, List.set_cons_zero, List.set_cons_succ])
    refine wpAnyH_ready (rs := [5]) (by kernel_rfl) (by simp) ?_
    refine AllReadyH.cons rfl (fun K hK => ?_) AllReadyH.nil
    go_simp
    refine (HEQ.out _ hs4 hb4).mono ?_
    rintro _ w5 ⟨rfl, kq, rfl⟩
    have hB5 : Blk (w4.drewN kq) w.heap.size 87 #[.pointer (some ⟨D, 0, none⟩), vi r, .slice A0 n0 c0, .slice AR nR cR, .slice AN nN cN] := hB4
    refine hK.out _ _ (by (first | exact KS.out _ (by assumption) | (simp only [Act.put]; exact KS.out _ (by assumption)))) (fun hHeld => ?_)
    clear hK K
    (try simp only [Act.put, List.setIfInBounds_toArray, List.set_cons_zero, List.set_cons_succ])
    refine wpAnyH_take_at (i := 6) rfl rfl (by kernel_rfl) (by kernel_rfl) (by kernel_rfl) (fun _ _ _ h => h) (Or.inl ⟨by rfl, by (intro w hSw; (try dsimp only at hSw); go_simp; try with_reducible rfl)⟩) (by assumption) ?_
    (try simp only [Act.put, List.setIfInBounds_toArray, List.set_cons_zero, List.set_cons_succ])
    refine wpAnyH_take_at (i := 7) rfl rfl (by kernel_rfl) (by kernel_rfl) (by kernel_rfl) (fun _ _ _ h => h) (Or.inr ⟨by rfl, rfl⟩) (by assumption) ?_
    (try simp only [Act.put, List.setIfInBounds_toArray, List.set_cons_zero, List.set_cons_succ])
    refine wpAnyH_take_at (i := 8) rfl rfl (by kernel_rfl) (by kernel_rfl) (by kernel_rfl) (fun _ _ _ h => h) (Or.inr ⟨by rfl, rfl⟩) (by assumption) ?_
    (try simp only [Act.put, List.setIfInBounds_toArray, List.set_cons_zero, List.set_cons_succ])
    refine wpAnyH_take_at (i := 9) rfl rfl (by kernel_rfl) (by kernel_rfl) (by kernel_rfl) (fun _ _ _ h => h) (Or.inr ⟨by rfl, rfl⟩) (by assumption) ?_
    (try simp only [Act.put, List.setIfInBounds_toArray, List.set_cons_zero, List.set_cons_succ])
    refine wpAnyH_take_at (i := 10) rfl rfl (by kernel_rfl) (by kernel_rfl) (by kernel_rfl) (fun _ _ _ h => h) (Or.inr ⟨by rfl, rfl⟩) (by assumption) ?_
    (try simp only [Act.put, List.setIfInBounds_toArray, List.set_cons_zero, List.set_cons_succ])
    refine wpAnyH_take_at (i := 11) rfl rfl (by kernel_rfl) (by kernel_rfl) (by kernel_rfl) (fun _ _ _ h => h) (Or.inr ⟨by rfl, rfl⟩) (by assumption) ?_
    (try simp only [Act.put, List.setIfInBounds_toArray, List.set_cons_zero, List.set_cons_succ])
    refine wpAnyH_take_at (i := 12) rfl rfl (by kernel_rfl) (by kernel_rfl) (by kernel_rfl) (fun _ _ _ h => h) (Or.inr ⟨by rfl, rfl⟩) (by assumption) ?_
    (try simp only [Act.put, List.setIfInBounds_toArray, List.set_cons_zero, List.set_cons_succ])
    refine wpAnyH_take_at (i := 13) rfl rfl (by kernel_rfl) (by kernel_rfl) (by kernel_rfl) (fun _ _ _ h => h) (Or.inl ⟨by rfl, by (intro w hSw; (try dsimp only at hSw); go_simp; try with_reducible rfl)⟩) (by assumption) ?_
    (try simp only [Act.put, List.setIfInBounds_toArray, List.set_cons_zero, List.set_cons_succ])
    refine wpAnyH_take_at (i := 14) rfl rfl (by kernel_rfl) (by kernel_rfl) (by kernel_rfl) (fun _ _ _ h => h) (Or.inl ⟨by rfl, by (intro w hSw; (try dsimp only at hSw); go_simp; try with_reducible rfl)⟩) (by assumption) ?_
    (try simp only [Act.put, List.setIfInBounds_toArray, List.set_cons_zero, List.set_cons_succ])
    refine wpAnyH_take_at (i := 15) rfl rfl (by kernel_rfl) (by kernel_rfl) (by kernel_rfl) (fun _ _ _ h => h) (Or.inr ⟨by rfl, rfl⟩) (by assumption) ?_
    (try simp only [Act.put, List.setIfInBounds_toArray, List.set_cons_zero, List.set_cons_succ])
    refine wpAnyH_take_at (i := 16) rfl rfl (by kernel_rfl) (by kernel_rfl) (by kernel_rfl) (fun _ _ _ h => h) (Or.inr ⟨by rfl, rfl⟩) (by assumption) ?_
    (try simp only [Act.put, List.setIfInBounds_toArray, List.set_cons_zero, List.set_cons_succ])
    refine wpAnyH_take_at (i := 17) rfl rfl (by kernel_rfl) (by kernel_rfl) (by kernel_rfl) (fun _ _ _ h => h) (Or.inr ⟨by rfl, rfl⟩) (by assumption) ?_
    (try simp only [Act.put, List.setIfInBounds_toArray, List.set_cons_zero, List.set_cons_succ])
    refine wpAnyH_take_at (i := 18) rfl rfl (by kernel_rfl) (by kernel_rfl) (by kernel_rfl) (fun _ _ _ h => h) (Or.inr ⟨by rfl, rfl⟩) (by assumption) ?_
    (try simp only [Act.put, List.setIfInBounds_toArray, List.set_cons_zero, List.set_cons_succ])
    refine wpAnyH_take_at (i := 19) rfl rfl (by kernel_rfl) (by kernel_rfl) (by kernel_rfl) (fun _ _ _ h => h) (Or.inr ⟨by rfl, rfl⟩) (by assumption) ?_
    (try simp only [Act.put, List.setIfInBounds_toArray, List.set_cons_zero, List.set_cons_succ])
    refine wpAnyH_take_at (i := 20) rfl rfl (by kernel_rfl) (by kernel_rfl) (by kernel_rfl) (fun _ _ _ h => h) (Or.inl ⟨by rfl, by (intro w hSw; (try dsimp only at hSw); go_simp; try with_reducible rfl)⟩) (by assumption) ?_
    (try simp only [Act.put, List.setIfInBounds_toArray, List.set_cons_zero, List.set_cons_succ])
    refine wpAnyH_ready (rs := [21]) (by kernel_rfl) (by simp) ?_
    refine AllReadyH.cons rfl (fun K hK => ?_) AllReadyH.nil
    go_simp
    refine hK.out _ _ (KS.out _ hB5) (fun hHeld => ?_)
    clear hK K
    (try simp only [Act.put, List.setIfInBounds_toArray, List.set_cons_zero, List.set_cons_succ])
    refine wpAnyH_done (by kernel_rfl) ?_ _
    clear hHeld KS
    go_wp2
    go_ret
    exact ⟨ret_bool HR.out.symm, below_drewN hb4 _⟩
  | true =>
    rw [hE] at HEQ
    obtain ⟨tk, htk⟩ : ∃ tk, tk = takenB p k o.l o.rs o.ns top (h : Int) := ⟨_, rfl⟩
    rw [← htk] at HTC
    obtain ⟨cf, hcf⟩ : ∃ cf, cf = o.rs.any fun x => decide (x.length ≠ 2) := ⟨_, rfl⟩
    rw [← hcf] at HCF
    have HR : Hid (showF p k o.l o.rs o.ns top (h : Int) want = (!cf && tk)) := Lib.hid (by unfold showF; rw [hE, htk, hcf, not_any_two]; rfl)
    clear hE htk hcf
    cases tk with
    | false =>
      go_wp2_with fail
      refine wp_region_held_drew (S := fun W' => W'.cell? ⟨w.heap.size, 2, none⟩ = some (.slice A0 n0 c0) ∧ W'.cell? ⟨w.heap.size, 3, none⟩ = some (.slice AR nR cR) ∧ W'.cell? ⟨w.heap.size, 4, none⟩ = some (.slice AN nN cN)) (by kernel_rfl) (KS.out _ hBd) (fun hHeld => ?_)
      refine wpAnyH_take_at (i := 0) rfl rfl (by kernel_rfl) (by kernel_rfl) (by kernel_rfl) (fun _ _ _ h => h) (Or.inl ⟨by rfl, by (intro w hSw; (try dsimp only at hSw); go_simp; try with_reducible rfl)⟩) (by assumption) ?_
      (try simp only [Act.put, List.setIfInBounds_toArray, List.set_cons_zero, List.set_cons_succ])
      refine wpAnyH_take_at (i := 1) rfl rfl (by kernel_rfl) (by kernel_rfl) (by kernel_rfl) (fun _ _ _ h => h) (Or.inl ⟨by rfl, by (intro w hSw; (try dsimp only at hSw); go_simp; try with_reducible rfl)⟩) (by assumption) ?_
      (try simp only [Act.put, List.setIfInBounds_toArray, List.set_cons_zero, List.set_cons_succ])
      refine wpAnyH_take_at (i := 2) rfl rfl (by kernel_rfl) (by kernel_rfl) (by kernel_rfl) (fun _ _ _ h => h) (Or.inl ⟨by rfl, by (intro w hSw; (try dsimp only at hSw); go_simp; try with_reducible rfl)⟩) (by assumption) ?_
      (try simp only [Act.put, List.setIfInBounds_toArray, List.set_cons_zero, List.set_cons_succ])
      refine wpAnyH_take_at (i := 3) rfl rfl (by kernel_rfl) (by kernel_rfl) (by kernel_rfl) (fun _ _ _ h => h) (Or.inl ⟨by rfl, by (intro w hSw; (try dsimp only at hSw); go_simp; try with_reducible rfl)⟩) (by assumption) ?_
      (try simp only [Act.put, List.setIfInBounds_toArray, List.set_cons_zero, List.set_cons_succ])
      refine wpAnyH_ready (rs := [4]) (by kernel_rfl) (by simp) ?_
      refine AllReadyH.cons rfl (fun K hK => ?_) AllReadyH.nil
      go_simp
      refine (HCM.out 1).mono ?_
      rintro _ w4 ⟨rfl, hs4, hb4, hB4⟩
      refine hK.out _ _ (by (first | exact KS.out _ (by assumption) | (simp only [Act.put]; exact KS.out _ (by assumption)))) (fun hHeld => ?_)
      clear hK K
      (try simp only [Act.put, List.setIfInBounds_toArray, List.set_cons_zero, List.set_cons_succ])
      refine wpAnyH_ready (rs := [5]) (by kernel_rfl) (by simp) ?_
      refine AllReadyH.cons rfl (fun K hK => ?_) AllReadyH.nil
      go_simp
      refine (HEQ.out _ hs4 hb4).mono ?_
      rintro _ w5 ⟨rfl, kq, rfl⟩
      have hB5 : Blk (w4.drewN kq) w.heap.size 87 #[.pointer (some ⟨D, 0, none⟩), vi r, .slice A0 n0 c0, .slice AR nR cR, .slice AN nN cN] := hB4
      refine hK.out _ _ (by (first | exact KS.out _ (by assumption) | (simp only [Act.put]; exact KS.out _ (by assumption)))) (fun hHeld => ?_)
      clear hK K
      (try simp only [Act.put, List.setIfInBounds_toArray, List.set_cons_zero, List.set_cons_succ])
      refine wpAnyH_take_at (i := 6) rfl rfl (by kernel_rfl) (by kernel_rfl) (by kernel_rfl) (fun _ _ _ h => h) (Or.inl ⟨by rfl, by (intro w hSw; (try dsimp only at hSw); go_simp; try with_reducible rfl)⟩) (by assumption) ?_
      (try simp only [Act.put, List.setIfInBounds_toArray, List.set_cons_zero, List.set_cons_succ])
      refine wpAnyH_take_at (i := 7) rfl rfl (by kernel_rfl) (by kernel_rfl) (by kernel_rfl) (fun _ _ _ h => h) (Or.inl ⟨by rfl, by (intro w hSw; (try dsimp only at hSw); go_simp; try with_reducible rfl)⟩) (by assumption) ?_
      (try simp only [Act.put, List.setIfInBounds_toArray, List.set_cons_zero, List.set_cons_succ])
      refine wpAnyH_take_at (i := 8) rfl rfl (by kernel_rfl) (by kernel_rfl) (by kernel_rfl) (fun _ _ _ h => h) (Or.inl ⟨by rfl, by (intro w hSw; (try dsimp only at hSw); go_simp; try with_reducible rfl)⟩) (by assumption) ?_
      (try simp only [Act.put, List.setIfInBounds_toArray, List.set_cons_zero, List.set_cons_succ])
      refine wpAnyH_take_at (i := 9) rfl rfl (by kernel_rfl) (by kernel_rfl) (by kernel_rfl) (fun _ _ _ h => h) (Or.inl ⟨by rfl, by (intro w hSw; (try dsimp only at hSw); go_simp; try with_reducible rfl)⟩) (by assumption) ?_
      (try simp only [Act.put, List.setIfInBounds_toArray, List.set_cons_zero, List.set_cons_succ])
      refine wpAnyH_take_at (i := 10) rfl rfl (by kernel_rfl) (by kernel_rfl) (by kernel_rfl) (fun _ _ _ h => h) (Or.inl ⟨by rfl, by (intro w hSw; (try dsimp only at hSw); go_simp; try with_reducible rfl)⟩) (by assumption) ?_
      (try simp only [Act.put, List.setIfInBounds_toArray, List.set_cons_zero, List.set_cons_succ])
      refine wpAnyH_take_at (i := 11) rfl rfl (by kernel_rfl) (by kernel_rfl) (by kernel_rfl) (fun _ _ _ h => h) (Or.inl ⟨by rfl, by (intro w hSw; (try dsimp only at hSw); go_simp; try with_reducible rfl)⟩) (by assumption) ?_
      (try simp only [Act.put, List.setIfInBounds_toArray, List.set_cons_zero, List.set_cons_succ])
      refine wpAnyH_ready (rs := [12]) (by kernel_rfl) (by simp) ?_
      refine AllReadyH.cons rfl (fun K hK => ?_) AllReadyH.nil
      go_simp
      refine (HTC.out _ (below_drewN hb4 _)).mono ?_
      rintro _ w6 ⟨rfl, hb6⟩
      have hb46 := (below_drewN hb4 kq).trans (hb6.mono (below_drewN hb4 kq).size)
      have hB6 := Blk.below hB5 hb6 hB5.lt
      refine hK.out _ _ (by (first | exact KS.out _ (by assumption) | (simp only [Act.put]; exact KS.out _ (by assumption)))) (fun hHeld => ?_)
      clear hK K
      (try simp only [Act.put, List.setIfInBounds_toArray, List.set_cons_zero, List.set_cons_succ])
      refine wpAnyH_take_at (i := 13) rfl rfl (by kernel_rfl) (by kernel_rfl) (by kernel_rfl) (fun _ _ _ h => h) (Or.inl ⟨by rfl, by (intro w hSw; (try dsimp only at hSw); go_simp; try with_reducible rfl)⟩) (by assumption) ?_
      (try simp only [Act.put, List.setIfInBounds_toArray, List.set_cons_zero, List.set_cons_succ])
      refine wpAnyH_take_at (i := 14) rfl rfl (by kernel_rfl) (by kernel_rfl) (by kernel_rfl) (fun _ _ _ h => h) (Or.inl ⟨by rfl, by (intro w hSw; (try dsimp only at hSw); go_simp; try with_reducible rfl)⟩) (by assumption) ?_
      (try simp only [Act.put, List.setIfInBounds_toArray, List.set_cons_zero, List.set_cons_succ])
      refine wpAnyH_take_at (i := 15) rfl rfl (by kernel_rfl) (by kernel_rfl) (by kernel_rfl) (fun _ _ _ h => h) (Or.inr ⟨by rfl, rfl⟩) (by assumption) ?_
      (try simp only [Act.put, List.setIfInBounds_toArray, List.set_cons_zero, List.set_cons_succ])
      refine wpAnyH_take_at (i := 16) rfl rfl (by kernel_rfl) (by kernel_rfl) (by kernel_rfl) (fun _ _ _ h => h) (Or.inr ⟨by rfl, rfl⟩) (by assumption) ?_
      (try simp only [Act.put, List.setIfInBounds_toArray, List.set_cons_zero, List.set_cons_succ])
      refine wpAnyH_take_at (i := 17) rfl rfl (by kernel_rfl) (by kernel_rfl) (by kernel_rfl) (fun _ _ _ h => h) (Or.inr ⟨by rfl, rfl⟩) (by assumption) ?_
      (try simp only [Act.put, List.setIfInBounds_toArray, List.set_cons_zero, List.set_cons_succ])
      refine wpAnyH_take_at (i := 18) rfl rfl (by kernel_rfl) (by kernel_rfl) (by kernel_rfl) (fun _ _ _ h => h) (Or.inr ⟨by rfl, rfl⟩) (by assumption) ?_
      (try simp only [Act.put, List.setIfInBounds_toArray, List.set_cons_zero, List.set_cons_succ])
      refine wpAnyH_take_at (i := 19) rfl rfl (by kernel_rfl) (by kernel_rfl) (by kernel_rfl) (fun _ _ _ h => h) (Or.inr ⟨by rfl, rfl⟩) (by assumption) ?_
      (try simp only [Act.put, List.setIfInBounds_toArray, List.set_cons_zero, List.set_cons_succ])
      refine wpAnyH_take_at (i := 20) rfl rfl (by kernel_rfl) (by kernel_rfl) (by kernel_rfl) (fun _ _ _ h => h) (Or.inl ⟨by rfl, by (intro w hSw; (try dsimp only at hSw); go_simp; try with_reducible rfl)⟩) (by assumption) ?_
      (try simp only [Act.put, List.setIfInBounds_toArray, List.set_cons_zero, List.set_cons_succ])
      refine wpAnyH_ready (rs := [21]) (by kernel_rfl) (by simp) ?_
      refine AllReadyH.cons rfl (fun K hK => ?_) AllReadyH.nil
      go_simp
      refine hK.out _ _ (KS.out _ hB6) (fun hHeld => ?_)
      clear hK K
      (try simp only [Act.put, List.setIfInBounds_toArray, List.set_cons_zero, List.set_cons_succ])
      refine wpAnyH_done (by kernel_rfl) ?_ _
      clear hHeld KS
      go_wp2
      go_ret
      exact ⟨ret_bool (by rw [HR.out]; simp), hb46⟩
    | true =>
      go_wp2_with fail
      refine wp_region_held_drew (S := fun W' => W'.cell? ⟨w.heap.size, 2, none⟩ = some (.slice A0 n0 c0) ∧ W'.cell? ⟨w.heap.size, 3, none⟩ = some (.slice AR nR cR) ∧ W'.cell? ⟨w.heap.size, 4, none⟩ = some (.slice AN nN cN)) (by kernel_rfl) (KS.out _ hBd) (fun hHeld => ?_)
      refine wpAnyH_take_at (i := 0) rfl rfl (by kernel_rfl) (by kernel_rfl) (by kernel_rfl) (fun _ _ _ h => h) (Or.inl ⟨by rfl, by (intro w hSw; (try dsimp only at hSw); go_simp; try with_reducible rfl)⟩) (by assumption) ?_
      (try simp only [Act.put, List.setIfInBounds_toArray, List.set_cons_zero, List.set_cons_succ])
      refine wpAnyH_take_at (i := 1) rfl rfl (by kernel_rfl) (by kernel_rfl) (by kernel_rfl) (fun _ _ _ h => h) (Or.inl ⟨by rfl, by (intro w hSw; (try dsimp only at hSw); go_simp; try with_reducible rfl)⟩) (by assumption) ?_
      (try simp only [Act.put, List.setIfInBounds_toArray, List.set_cons_zero, List.set_cons_succ])
      refine wpAnyH_take_at (i := 2) rfl rfl (by kernel_rfl) (by kernel_rfl) (by kernel_rfl) (fun _ _ _ h => h) (Or.inl ⟨by rfl, by (intro w hSw; (try dsimp only at hSw); go_simp; try with_reducible rfl)⟩) (by assumption) ?_
      (try simp only [Act.put, List.setIfInBounds_toArray, List.set_cons_zero, List.set_cons_succ])
      refine wpAnyH_take_at (i := 3) rfl rfl (by kernel_rfl) (by kernel_rfl) (by kernel_rfl) (fun _ _ _ h => h) (Or.inl ⟨by rfl, by (intro w hSw; (try dsimp only at hSw); go_simp; try with_reducible rfl)⟩) (by assumption) ?_
      (try simp only [Act.put, List.setIfInBounds_toArray, List.set_cons_zero, List.set_cons_succ])
      refine wpAnyH_ready (rs := [4]) (by kernel_rfl) (by simp) ?_
      refine AllReadyH.cons rfl (fun K hK => ?_) AllReadyH.nil
      go_simp
      refine (HCM.out 1).mono ?_
      rintro _ w4 ⟨rfl, hs4, hb4, hB4⟩
      refine hK.out _ _ (by (first | exact KS.out _ (by assumption) | (simp only [Act.put]; exact KS.out _ (by assumption)))) (fun hHeld => ?_)
      clear hK K
      (try simp only [Act.put, List.setIfInBounds_toArray, List.set_cons_zero, List.set_cons_succ])
      refine wpAnyH_ready (rs := [5]) (by kernel_rfl) (by simp) ?_
      refine AllReadyH.cons rfl (fun K hK => ?_) AllReadyH.nil
      go_simp
      refine (HEQ.out _ hs4 hb4).mono ?_
      rintro _ w5 ⟨rfl, kq, rfl⟩
      have hB5 : Blk (w4.drewN kq) w.heap.size 87 #[.pointer (some ⟨D, 0, none⟩), vi r, .slice A0 n0 c0, .slice AR nR cR, .slice AN nN cN] := hB4
      refine hK.out _ _ (by (first | exact KS.out _ (by assumption) | (simp only [Act.put]; exact KS.out _ (by assumption)))) (fun hHeld => ?_)
      clear hK K
      (try simp only [Act.put, List.setIfInBounds_toArray, List.set_cons_zero, List.set_cons_succ])
      refine wpAnyH_take_at (i := 6) rfl rfl (by kernel_rfl) (by kernel_rfl) (by kernel_rfl) (fun _ _ _ h => h) (Or.inl ⟨by rfl, by (intro w hSw; (try dsimp only at hSw); go_simp; try with_reducible rfl)⟩) (by assumption) ?_
      (try simp only [Act.put, List.setIfInBounds_toArray, List.set_cons_zero, List.set_cons_succ])
      refine wpAnyH_take_at (i := 7) rfl rfl (by kernel_rfl) (by kernel_rfl) (by kernel_rfl) (fun _ _ _ h => h) (Or.inl ⟨by rfl, by (intro w hSw; (try dsimp only at hSw); go_simp; try with_reducible rfl)⟩) (by assumption) ?_
      (try simp only [Act.put, List.setIfInBounds_toArray, List.set_cons_zero, List.set_cons_succ])
      refine wpAnyH_take_at (i := 8) rfl rfl (by kernel_rfl) (by kernel_rfl) (by kernel_rfl) (fun _ _ _ h => h) (Or.inl ⟨by rfl, by (intro w hSw; (try dsimp only at hSw); go_simp; try with_reducible rfl)⟩) (by assumption) ?_
      (try simp only [Act.put, List.setIfInBounds_toArray, List.set_cons_zero, List.set_cons_succ])
      refine wpAnyH_take_at (i := 9) rfl rfl (by kernel_rfl) (by kernel_rfl) (by kernel_rfl) (fun _ _ _ h => h) (Or.inl ⟨by rfl, by (intro w hSw; (try dsimp only at hSw); go_simp; try with_reducible rfl)⟩) (by assumption) ?_
      (try simp only [Act.put, List.setIfInBounds_toArray, List.set_cons_zero, List.set_cons_succ])
      refine wpAnyH_take_at (i := 10) rfl rfl (by kernel_rfl) (by kernel_rfl) (by kernel_rfl) (fun _ _ _ h => h) (Or.inl ⟨by rfl, by (intro w hSw; (try dsimp only at hSw); go_simp; try with_reducible rfl)⟩) (by assumption) ?_
      (try simp only [Act.put, List.setIfInBounds_toArray, List.set_cons_zero, List.set_cons_succ])
      refine wpAnyH_take_at (i := 11) rfl rfl (by kernel_rfl) (by kernel_rfl) (by kernel_rfl) (fun _ _ _ h => h) (Or.inl ⟨by rfl, by (intro w hSw; (try dsimp only at hSw); go_simp; try with_reducible rfl)⟩) (by assumption) ?_
      (try simp only [Act.put, List.setIfInBounds_toArray, List.set_cons_zero, List.set_cons_succ])
      refine wpAnyH_ready (rs := [12]) (by kernel_rfl) (by simp) ?_
      refine AllReadyH.cons rfl (fun K hK => ?_) AllReadyH.nil
      go_simp
      refine (HTC.out _ (below_drewN hb4 _)).mono ?_
      rintro _ w6 ⟨rfl, hb6⟩
      have hb46 := (below_drewN hb4 kq).trans (hb6.mono (below_drewN hb4 kq).size)
      have hB6 := Blk.below hB5 hb6 hB5.lt
      refine hK.out _ _ (by (first | exact KS.out _ (by assumption) | (simp only [Act.put]; exact KS.out _ (by assumption)))) (fun hHeld => ?_)
      clear hK K
      (try simp only [Act.put, List.setIfInBounds_toArray, List.set_cons_zero, List.set_cons_succ])
      refine wpAnyH_take_at (i := 13) rfl rfl (by kernel_rfl) (by kernel_rfl) (by kernel_rfl) (fun _ _ _ h => h) (Or.inl ⟨by rfl, by (intro w hSw; (try dsimp only at hSw); go_simp; try with_reducible rfl)⟩) (by assumption) ?_
      (try simp only [Act.put, List.setIfInBounds_toArray, List.set_cons_zero, List.set_cons_succ])
      refine wpAnyH_take_at (i := 14) rfl rfl (by kernel_rfl) (by kernel_rfl) (by kernel_rfl) (fun _ _ _ h => h) (Or.inl ⟨by rfl, by (intro w hSw; (try dsimp only at hSw); go_simp; try with_reducible rfl)⟩) (by assumption) ?_
      (try simp only [Act.put, List.setIfInBounds_toArray, List.set_cons_zero, List.set_cons_succ])
      refine wpAnyH_take_at (i := 15) rfl rfl (by kernel_rfl) (by kernel_rfl) (by kernel_rfl) (fun _ _ _ h => h) (Or.inl ⟨by rfl, by (intro w hSw; (try dsimp only at hSw); go_simp; try with_reducible rfl)⟩) (by assumption) ?_
      (try simp only [Act.put, List.setIfInBounds_toArray, List.set_cons_zero, List.set_cons_succ])
      refine wpAnyH_take_at (i := 16) rfl rfl (by kernel_rfl) (by kernel_rfl) (by kernel_rfl) (fun _ _ _ h => h) (Or.inl ⟨by rfl, by (intro w hSw; (try dsimp only at hSw); go_simp; try with_reducible rfl)⟩) (by assumption) ?_
      (try simp only [Act.put, List.setIfInBounds_toArray, List.set_cons_zero, List.set_cons_succ])
      refine wpAnyH_take_at (i := 17) rfl rfl (by kernel_rfl) (by kernel_rfl) (by kernel_rfl) (fun _ _ _ h => h) (Or.inl ⟨by rfl, by (intro w hSw; (try dsimp only at hSw); go_simp; try with_reducible rfl)⟩) (by assumption) ?_
      (try simp only [Act.put, List.setIfInBounds_toArray, List.set_cons_zero, List.set_cons_succ])
      refine wpAnyH_ready (rs := [18]) (by kernel_rfl) (by simp) ?_
      refine AllReadyH.cons rfl (fun K hK => ?_) AllReadyH.nil
      go_simp
      refine (HCF.out _ hb46).mono ?_
      rintro _ _ ⟨rfl, rfl⟩
      refine hK.out _ _ (by (first | exact KS.out _ (by assumption) | (simp only [Act.put]; exact KS.out _ (by assumption)))) (fun hHeld => ?_)
      clear hK K
      (try simp only [Act.put, List.setIfInBounds_toArray, List.set_cons_zero, List.set_cons_succ])
      refine wpAnyH_take_at (i := 19) rfl rfl (by kernel_rfl) (by kernel_rfl) (by kernel_rfl) (fun _ _ _ h => h) (Or.inl ⟨by rfl, by (intro w hSw; (try dsimp only at hSw); go_simp; try with_reducible rfl)⟩) (by assumption) ?_
      (try simp only [Act.put, List.setIfInBounds_toArray, List.set_cons_zero, List.set_cons_succ])
      refine wpAnyH_take_at (i := 20) rfl rfl (by kernel_rfl) (by kernel_rfl) (by kernel_rfl) (fun _ _ _ h => h) (Or.inl ⟨by rfl, by (intro w hSw; (try dsimp only at hSw); go_simp; try with_reducible rfl)⟩) (by assumption) ?_
      (try simp only [Act.put, List.setIfInBounds_toArray, List.set_cons_zero, List.set_cons_succ])
      refine wpAnyH_ready (rs := [21]) (by kernel_rfl) (by simp) ?_
      refine AllReadyH.cons rfl (fun K hK => ?_) AllReadyH.nil
      go_simp
      refine hK.out _ _ (KS.out _ hB6) (fun hHeld => ?_)
      clear hK K
      (try simp only [Act.put, List.setIfInBounds_toArray, List.set_cons_zero, List.set_cons_succ])
      refine wpAnyH_done (by kernel_rfl) ?_ _
      clear hHeld KS
      go_wp2
      go_ret
      exact ⟨ret_bool (by rw [HR.out]; simp), hb46⟩
end Go.Proofs.YtonalbdehcmjmaaGreat

/- Walks: slices.Clip; IndexFunc and ContainsFunc at ints, with a function that has captured cells; the closures of tree.Open. -/
set_option linter.unusedVariables false
namespace Go.Proofs.YtonalbdehcmjmaaGreat
open Go.RowKit Zp
theorem clipI_any (A : Option Addr) (n c : Nat) (hn : n ≤ c) (w : World) (hc : A = none → c = 0) :
    Calls Tryz.prog 46 #[.slice A n c] w fun e w' => e = .returned (.slice A n n) ∧ w = w' := by
  cases A with
  | none =>
    obtain rfl := hc rfl
    obtain rfl : n = 0 := by omega
    go_enter Tryz.func46, Tryz.ntmps46
    go_wp2
    go_ret
    exact ⟨rfl, rfl⟩
  | some ad =>
    have t1 : (n : Int) ≤ (c : Int) := by omega
    clear hc
    go_enter Tryz.func46, Tryz.ntmps46
    go_wp2
    go_ret
    exact ⟨rfl, rfl⟩
theorem clipR_any (A : Option Addr) (n c : Nat) (hn : n ≤ c) (w : World) (hc : A = none → c = 0) :
    Calls Tryz.prog 38 #[.slice A n c] w fun e w' => e = .returned (.slice A n n) ∧ w = w' := by
  cases A with
  | none =>
    obtain rfl := hc rfl
    obtain rfl : n = 0 := by omega
    go_enter Tryz.func38, Tryz.ntmps38
    go_wp2
    go_ret
    exact ⟨rfl, rfl⟩
  | some ad =>
    have t1 : (n : Int) ≤ (c : Int) := by omega
    clear hc
    go_enter Tryz.func38, Tryz.ntmps38
    go_wp2
    go_ret
    exact ⟨rfl, rfl⟩
theorem own_none {w : World} {base n c : Nat} {A : Option Addr} {l : List Int} (h : Own w base (.slice A n c) l) : A = none → c = 0 := fun e => by
  subst e
  rcases h.2 with ⟨e, _⟩ | ⟨g, cap, cur, e, _⟩
  · injection e
  · injection e with e1; cases e1
theorem ownR_none {w : World} {base n c : Nat} {A : Option Addr} {us : List Value} (h : OwnR w base (.slice A n c) us) : A = none → c = 0 := fun e => by
  subst e
  rcases h.2 with ⟨e, _⟩ | ⟨g, cap, cur, e, _⟩
  · injection e
  · injection e with e1; cases e1
/-- the first of which P says yes, or -1 -/
def idxI (P : Int → Bool) (l : List Int) : Int := if l.any P then ((l.findIdx P : Nat) : Int) else -1
theorem idxI_no {P : Int → Bool} {l : List Int} (h : l.any P = false) : idxI P l = -1 := by unfold idxI; rw [h]; rfl
theorem idxI_yes {P : Int → Bool} {l : List Int} {k : Nat} (h : l.any P = true) (hk : l.findIdx P = k) : idxI P l = k := by unfold idxI; rw [h, hk]; rfl
set_option maxRecDepth 100000 in
set_option maxHeartbeats 1000000 in
theorem indexI_any (K : Nat) (hK : ∀ (args : Array Value) (w : World), (callFunc K args).run Tryz.prog w = .ok (.enter K args) w) (caps : Array Value) (P : Int → Bool) (A : Option Addr) (N c : Nat) (l : List Int) (hN : l.length = N) (hN2 : N ≤ 9223372036854775806)
    (w : World) (hY : ∀ x ∈ l, Calls Tryz.prog K (#[vi x] ++ caps) w fun e w' => e = .returned (.bool (P x)) ∧ w = w') (hT : SL w A l) :
    Calls Tryz.prog 75 #[.slice A N c, .func (.func K) #[] caps] w fun e w' => e = .returned (vi (idxI P l)) ∧ w = w' := by
  have HN := Lib.hid hN
  have HT := Lib.hid hT
  have HY := Lib.hid hY
  clear hN hT hY
  go_enter Tryz.func75, Tryz.ntmps75
  go_wp2
  go_loop [8] (fun i => ∃ k : Nat, k ≤ N ∧ i = vi k ∧ ∀ j (h : j < l.length), j < k → P l[j] = false) (fun i => N - (intOf i).toNat)
  case atStart => exact ⟨0, Nat.zero_le _, rfl, fun j _ hj => absurd hj (Nat.not_lt_zero _)⟩
  case round =>
    obtain ⟨k, hk, rfl, hb⟩ := hrel
    have HB := Lib.hid hb
    clear hb
    by_cases hlt : k < N
    · have hkt : k < l.length := by rw [HN.out]; exact hlt
      obtain ⟨ad, rfl, hb1, hc1⟩ := HT.out.at_ hkt
      have i1 : (0 : Int) ≤ k := by omega
      have i2 : (k : Int) < N := by omega
      have i3 : (k : Int) + 1 ≤ 9223372036854775807 := by omega
      have hyk := HY.out _ (List.getElem_mem hkt)
      obtain ⟨x, hx⟩ : ∃ x, x = l[k] := ⟨_, rfl⟩
      rw [← hx] at hyk hc1
      have HYK := Lib.hid hyk
      have HX := Lib.hid hx
      clear hx hyk
      by_cases hp : P x = true
      · have HR : Hid (idxI P l = k) := Lib.hid (by
          have hpk : P l[k] = true := by rw [← HX.out]; exact hp
          exact idxI_yes (List.any_eq_true.2 ⟨_, List.getElem_mem hkt, hpk⟩) (by
            rw [List.findIdx_eq hkt]
            exact ⟨hpk, fun j hj => by simpa using HB.out j (by omega) hj⟩))
        have HP := Lib.hid hp
        clear hp
        go_wp2_with fail
        refine HYK.out.mono ?_
        rintro _ _ ⟨rfl, rfl⟩
        rw [HP.out]
        go_wp2
        go_ret
        exact ⟨ret_int HR.out.symm, rfl⟩
      · have HP := Lib.hid (show P x = false by simpa using hp)
        have HBB : Hid (∀ j (h : j < l.length), j < k + 1 → P l[j] = false) := Lib.hid (fun j h hj => by
          by_cases e : j < k
          · exact HB.out j h e
          · obtain rfl : j = k := by omega
            rw [← HX.out]; exact HP.out)
        clear hp
        go_wp2_with fail
        refine HYK.out.mono ?_
        rintro _ _ ⟨rfl, rfl⟩
        rw [HP.out]
        go_wp2
        go_round
        case rel => exact ⟨k + 1, by omega, by go_num, HBB.out⟩
        case measure => simp [intOf]; omega
    · obtain rfl : k = N := by omega
      have HR : Hid (idxI P l = -1) := Lib.hid (idxI_no (by
        rw [Bool.eq_false_iff]
        intro h
        obtain ⟨x, hx, hp⟩ := List.any_eq_true.1 h
        obtain ⟨j, hj, rfl⟩ := List.mem_iff_getElem.1 hx
        rw [HB.out j hj (by rw [← HN.out]; exact hj)] at hp
        cases hp))
      go_wp2
      go_ret
      exact ⟨ret_int HR.out.symm, rfl⟩
theorem containsI_any (K : Nat) (hK : ∀ (args : Array Value) (w : World), (callFunc K args).run Tryz.prog w = .ok (.enter K args) w) (caps : Array Value) (P : Int → Bool) (A : Option Addr) (N c : Nat) (l : List Int) (hN : l.length = N) (hN2 : N ≤ 9223372036854775806)
    (w : World) (hY : ∀ x ∈ l, Calls Tryz.prog K (#[vi x] ++ caps) w fun e w' => e = .returned (.bool (P x)) ∧ w = w') (hT : SL w A l) :
    Calls Tryz.prog 41 #[.slice A N c, .func (.func K) #[] caps] w fun e w' => e = .returned (.bool (l.any P)) ∧ w = w' := by
  have HI := Lib.hid (indexI_any K hK caps P A N c l hN hN2 w hY hT)
  clear hY hT hN
  cases hb : l.any P
  · rw [idxI_no hb] at HI
    clear hb
    go_enter Tryz.func41, Tryz.ntmps41
    go_wp2_with fail
    refine HI.out.mono ?_
    rintro _ _ ⟨rfl, rfl⟩
    go_wp2
    go_ret
    exact ⟨by simp, rfl⟩
  · obtain ⟨t, ht⟩ : ∃ t, l.findIdx P = t := ⟨_, rfl⟩
    rw [idxI_yes hb ht] at HI
    have h0 : (0 : Int) ≤ (t : Int) := by omega
    clear hb ht
    go_enter Tryz.func41, Tryz.ntmps41
    go_wp2_with fail
    refine HI.out.mono ?_
    rintro _ _ ⟨rfl, rfl⟩
    go_wp2
    go_ret
    exact ⟨by simp, rfl⟩
/-- a place that is none of N rows -/
def outB (N : Nat) (x : Int) : Bool := decide (¬ (0 ≤ x ∧ x < N))
theorem open1_any (x : Int) (b : Nat) (A : Option Addr) (N c : Nat) (w : World) (hc : w.cell? ⟨b, 0, none⟩ = some (.slice A N c)) :
    Calls Tryz.prog 64 #[vi x, .pointer (some ⟨b, 0, none⟩)] w fun e w' => e = .returned (.bool (outB N x)) ∧ w = w' := by
  by_cases h1 : x < 0
  · have HR := Lib.hid (show outB N x = true from decide_eq_true (by omega))
    have t1 : decide (x < 0) = true := decide_eq_true h1
    go_enter Tryz.func64, Tryz.ntmps64
    go_wp2
    go_ret
    exact ⟨ret_bool HR.out.symm, rfl⟩
  · have t1 : decide (x < 0) = false := decide_eq_false h1
    by_cases h2 : (N : Int) ≤ x
    · have HR := Lib.hid (show outB N x = true from decide_eq_true (by omega))
      have t2 : decide ((N : Int) ≤ x) = true := decide_eq_true h2
      go_enter Tryz.func64, Tryz.ntmps64
      go_wp2
      go_ret
      exact ⟨ret_bool HR.out.symm, rfl⟩
    · have HR := Lib.hid (show outB N x = false from decide_eq_false (by omega))
      have t2 : decide ((N : Int) ≤ x) = false := decide_eq_false h2
      go_enter Tryz.func64, Tryz.ntmps64
      go_wp2
      go_ret
      exact ⟨ret_bool HR.out.symm, rfl⟩
end Go.Proofs.YtonalbdehcmjmaaGreat

/- slices.ContainsFunc at ints, of a function that makes memory. -/
set_option linter.unusedVariables false
namespace Go.Proofs.YtonalbdehcmjmaaGreat
open Go.RowKit Zp
set_option maxRecDepth 100000 in
set_option maxHeartbeats 1000000 in
theorem indexG_any (K : Nat) (hK : ∀ (args : Array Value) (w : World), (callFunc K args).run Tryz.prog w = .ok (.enter K args) w) (caps : Array Value) (P : Int → Bool) (A : Option Addr) (N c : Nat) (l : List Int) (hN : l.length = N) (hN2 : N ≤ 9223372036854775806)
    (w : World) (hY : ∀ x ∈ l, ∀ W, Below w.heap.size w W → Calls Tryz.prog K (#[vi x] ++ caps) W (SaysW (.bool (P x)) W)) (hT : SL w A l) :
    Calls Tryz.prog 75 #[.slice A N c, .func (.func K) #[] caps] w fun e w' => e = .returned (vi (idxI P l)) ∧ Below w.heap.size w w' := by
  have HN := Lib.hid hN
  have HT := Lib.hid hT
  have HY := Lib.hid hY
  clear hN hT hY
  go_enter Tryz.func75, Tryz.ntmps75
  go_wp2
  go_loopw [8] (fun i wr => ∃ k : Nat, k ≤ N ∧ i = vi k ∧ Below w.heap.size w wr ∧ ∀ j (h : j < l.length), j < k → P l[j] = false) (fun i _ => N - (intOf i).toNat)
  case atStart => exact ⟨0, Nat.zero_le _, rfl, Below.refl _ _, fun j _ hj => absurd hj (Nat.not_lt_zero _)⟩
  case round =>
    obtain ⟨k, hk, rfl, hbw, hb⟩ := hrel
    have HBW := Lib.hid hbw
    clear hbw
    have HB := Lib.hid hb
    clear hb
    by_cases hlt : k < N
    · have hkt : k < l.length := by rw [HN.out]; exact hlt
      obtain ⟨ad, rfl, hb1, hc1⟩ := (HT.out.below HBW.out).at_ hkt
      have i1 : (0 : Int) ≤ k := by omega
      have i2 : (k : Int) < N := by omega
      have i3 : (k : Int) + 1 ≤ 9223372036854775807 := by omega
      have hyk := HY.out _ (List.getElem_mem hkt) wr HBW.out
      obtain ⟨x, hx⟩ : ∃ x, x = l[k] := ⟨_, rfl⟩
      rw [← hx] at hyk hc1
      have HYK := Lib.hid hyk
      have HX := Lib.hid hx
      clear hx hyk
      by_cases hp : P x = true
      · have HR : Hid (idxI P l = k) := Lib.hid (by
          have hpk : P l[k] = true := by rw [← HX.out]; exact hp
          exact idxI_yes (List.any_eq_true.2 ⟨_, List.getElem_mem hkt, hpk⟩) (by
            rw [List.findIdx_eq hkt]
            exact ⟨hpk, fun j hj => by simpa using HB.out j (by omega) hj⟩))
        have HP := Lib.hid hp
        clear hp
        go_wp2_with fail
        refine HYK.out.mono ?_
        rintro _ w3 ⟨rfl, hb3⟩
        have HB3 := Lib.hid (HBW.out.trans (hb3.mono HBW.out.size))
        clear hb3
        rw [HP.out]
        go_wp2
        go_ret
        exact ⟨ret_int HR.out.symm, HB3.out⟩
      · have HP := Lib.hid (show P x = false by simpa using hp)
        have HBB : Hid (∀ j (h : j < l.length), j < k + 1 → P l[j] = false) := Lib.hid (fun j h hj => by
          by_cases e : j < k
          · exact HB.out j h e
          · obtain rfl : j = k := by omega
            rw [← HX.out]; exact HP.out)
        clear hp
        go_wp2_with fail
        refine HYK.out.mono ?_
        rintro _ w3 ⟨rfl, hb3⟩
        have HB3 := Lib.hid (HBW.out.trans (hb3.mono HBW.out.size))
        clear hb3
        rw [HP.out]
        go_wp2
        go_roundw
        case rel => exact ⟨k + 1, by omega, by go_num, HB3.out, HBB.out⟩
        case measure => simp [intOf]; omega
    · obtain rfl : k = N := by omega
      have HR : Hid (idxI P l = -1) := Lib.hid (idxI_no (by
        rw [Bool.eq_false_iff]
        intro h
        obtain ⟨x, hx, hp⟩ := List.any_eq_true.1 h
        obtain ⟨j, hj, rfl⟩ := List.mem_iff_getElem.1 hx
        rw [HB.out j hj (by rw [← HN.out]; exact hj)] at hp
        cases hp))
      go_wp2
      go_ret
      exact ⟨ret_int HR.out.symm, HBW.out⟩
theorem containsG_any (K : Nat) (hK : ∀ (args : Array Value) (w : World), (callFunc K args).run Tryz.prog w = .ok (.enter K args) w) (caps : Array Value) (P : Int → Bool) (A : Option Addr) (N c : Nat) (l : List Int) (hN : l.length = N) (hN2 : N ≤ 9223372036854775806)
    (w : World) (hY : ∀ x ∈ l, ∀ W, Below w.heap.size w W → Calls Tryz.prog K (#[vi x] ++ caps) W (SaysW (.bool (P x)) W)) (hT : SL w A l) :
    Calls Tryz.prog 41 #[.slice A N c, .func (.func K) #[] caps] w fun e w' => e = .returned (.bool (l.any P)) ∧ Below w.heap.size w w' := by
  have HI := Lib.hid (indexG_any K hK caps P A N c l hN hN2 w hY hT)
  clear hY hT hN
  cases hb : l.any P
  · rw [idxI_no hb] at HI
    clear hb
    go_enter Tryz.func41, Tryz.ntmps41
    go_wp2_with fail
    refine HI.out.mono ?_
    rintro _ w3 ⟨rfl, hb3⟩
    go_wp2
    go_ret
    exact ⟨by simp, hb3⟩
  · obtain ⟨t, ht⟩ : ∃ t, l.findIdx P = t := ⟨_, rfl⟩
    rw [idxI_yes hb ht] at HI
    have h0 : (0 : Int) ≤ (t : Int) := by omega
    clear hb ht
    go_enter Tryz.func41, Tryz.ntmps41
    go_wp2_with fail
    refine HI.out.mono ?_
    rintro _ w3 ⟨rfl, hb3⟩
    go_wp2
    go_ret
    exact ⟨by simp, hb3⟩
end Go.Proofs.YtonalbdehcmjmaaGreat

/- The walk of fold.Check: what may not be. -/
set_option linter.unusedVariables false
namespace Go.Proofs.YtonalbdehcmjmaaGreat
open Go.RowKit Zp
theorem info_round : (Tryz.prog.info? 87).map (fun i => (i.zero, i.size, i.bytes)) = some (some (.agg #[.pointer none, vi 0, .slice none 0 0, .slice none 0 0, .slice none 0 0]), 5, 88) := by kernel_rfl
end Go.Proofs.YtonalbdehcmjmaaGreat

/- The walks of fold.rows and ref5.pairs. -/

set_option linter.unusedVariables false
namespace Go.Proofs.YtonalbdehcmjmaaGreat
open Go.RowKit Zp
/-- n slices that are nil, behind a name -/
def nilsN (n : Nat) : Array Value := madeCells #[.slice none 0 0] n
theorem nilsN_size (n : Nat) : (nilsN n).size = n := size_madeCells _ _
theorem make_rowsN (c : Nat) (hc : c * 24 ≤ 281474976710656) (w : World) :
    (Instr.makeSlice 37 (.int .i64 0) (vi c)).run Tryz.prog w = .ok (.slice (some ⟨w.heap.size, 0, none⟩) 0 c) (w.alloc (.cells (nilsN c) 22)) := by
  obtain ⟨i0, hi, hz0, hz1, hz2⟩ := info_parts info_ints
  have h := run_make (P := Tryz.prog) w 37 22 i0 (.slice none 0 0) Tryz.underlying37 hi hz0 .i64 .i64 (0 : Nat) c (by omega) (by omega) (by rw [hz2]; omega) (by omega)
  rw [hz1, Int.toNat_natCast, Int.toNat_natCast, Nat.mul_one] at h
  exact h
theorem ownR_madeN (w : World) (base c : Nat) (hb : base ≤ w.heap.size) (hc : c * 24 ≤ 281474976710656) : OwnR (w.alloc (.cells (nilsN c) 22)) base (.slice (some ⟨w.heap.size, 0, none⟩) 0 c) [] :=
  World.ownsRow_made w _ c hb (by simp only [maxLen]; omega) (by rw [nilsN_size, Nat.mul_one])
/-- append of what lies in a block -/
theorem run_appSG (t e : TypeId) (z : Value) (sz by_ : Nat) (ht : Tryz.prog.underlying t = some (.slice e)) (hinf : (Tryz.prog.info? e).map (fun i => (i.zero, i.size, i.bytes)) = some (some z, sz, by_)) (hzs : z.cells.size = sz) (hsz : 0 < sz)
    (W : World) (g : Nat) (news : List Value) (hnl : news.length = sz) (hc : ∀ j u, news[j]? = some u → W.cell? ⟨g, j, none⟩ = some u) (hone : ∀ u ∈ news, u.oneCell' = true) (base : Nat) (v : Value) (n : Nat) (xs : List Value) (hown : W.ownsRow base e sz v n xs) (h63 : n + 1 ≤ maxLen) (hby : (n + 1) * by_ ≤ 140737488355328) (hbase : base ≤ W.heap.size) (ty : TypeId) :
    ∃ v' w', (Builtin.append_ #[t, t] ty #[v, .slice (some ⟨g, 0, none⟩) 1 1]).run Tryz.prog W = .ok v' w' ∧ w'.ownsRow base e sz v' (n + 1) (xs ++ news) ∧ W.grownBy w' v.ownBlock ∧ (v'.ownBlock = v.ownBlock ∨ ∃ k, v'.ownBlock = some k ∧ W.heap.size ≤ k) := by
  obtain ⟨i0, hi, hz0, hz1, hz2⟩ := info_parts hinf
  obtain ⟨v', w', hrun, h2, h3, _, h5⟩ := run_append_own_at (P := Tryz.prog) W base t ty e i0 _ sz by_ ht hi hz0 hz1 hz2 hzs hsz
    v n xs hown ⟨g, 0, none⟩ 1 1 news (by rw [hnl, Nat.one_mul]) (by
      intro j u hj
      have e : (⟨g, 0, none⟩ : Addr).add j = ⟨g, j, none⟩ := by
        unfold Addr.add
        split
        · rename_i h0; subst h0; rfl
        · simp
      rw [e]
      exact hc j u hj) hone h63 hby hbase
  refine ⟨v', w', hrun, h2, h3, ?_⟩
  rcases h5 with h | h
  · exact .inl h
  · exact .inr ⟨_, h, Nat.le_refl _⟩
theorem step_appSG {ops : Array Oper} {o : Oper} {a : Act} {K : Act → World → Prop} {Q : Exit → Act → World → Prop} {E : Prop} (t e : TypeId) (z : Value) (sz by_ : Nat) (ht : Tryz.prog.underlying t = some (.slice e)) (hinf : (Tryz.prog.info? e).map (fun i => (i.zero, i.size, i.bytes)) = some (some z, sz, by_)) (hzs : z.cells.size = sz) (hsz : 0 < sz)
    (W : World) (g : Nat) (news : List Value) (hnl : news.length = sz) (hone : ∀ u ∈ news, u.oneCell' = true) (hgd : o.guard = none) (s x : Operand) (ho : o.op = .call { callee := .builtin .append, args := #[s, x], argTypes := #[t, t] })
    (base : Nat) (v : Value) (n : Nat) (xs : List Value) (hs : a.eval s = v) (hx : a.eval x = .slice (some ⟨g, 0, none⟩) 1 1) (hc : ∀ j u, news[j]? = some u → W.cell? ⟨g, j, none⟩ = some u) (hown : W.ownsRow base e sz v n xs) (h63 : n + 1 ≤ maxLen) (hby : (n + 1) * by_ ≤ 140737488355328) (hbase : base ≤ W.heap.size)
    (h : ∀ v' w', w'.ownsRow base e sz v' (n + 1) (xs ++ news) → W.grownBy w' v.ownBlock → (v'.ownBlock = v.ownBlock ∨ ∃ k, v'.ownBlock = some k ∧ W.heap.size ≤ k) → K (a.put o.dst v') w') :
    if Region.wanted o (yielded ops a.tmps) = true then Oper.wp Tryz.prog o a W K Q else E := by
  have hw : Region.wanted o (yielded ops a.tmps) = true := by simp [Region.wanted, hgd]
  rw [if_pos hw]
  obtain ⟨v', w', hrun, h1, h2, h3⟩ := run_appSG t e z sz by_ ht hinf hzs hsz W g news hnl hc hone base v n xs hown h63 hby hbase o.type
  unfold Oper.wp execOp
  simp only [ho, resolve, invoke, builtin, Sem.run_bind, Sem.run_pure, Result.andThen_ok, List.map_toArray, List.map_cons, List.map_nil, hs, hx, hrun]
  exact h v' w' h1 h2 h3
/-- what a word has at a point beside what it has at its negative -/
def rowsL (word : List Int) (h : Nat) : List (List Int) := (List.range h).map fun i => [word.getD i 0, word.getD (i + h) 0]
theorem rowsL_len (word : List Int) (h : Nat) : (rowsL word h).length = h := by simp [rowsL]
theorem rowsL_take (word : List Int) (h k : Nat) (hk : k ≤ h) : (rowsL word h).take k = (List.range k).map fun i => [word.getD i 0, word.getD (i + h) 0] := by
  unfold rowsL
  rw [← List.map_take, List.take_range, Nat.min_eq_left hk]
theorem rowsL_succ (word : List Int) (h k : Nat) (hk : k < h) : (rowsL word h).take (k + 1) = (rowsL word h).take k ++ [[word.getD k 0, word.getD (k + h) 0]] := by
  rw [rowsL_take word h (k + 1) hk, rowsL_take word h k (Nat.le_of_lt hk), List.range_succ, List.map_append]; rfl
theorem getD_at {l : List Int} {i : Nat} (h : i < l.length) : l.getD i 0 = l[i] := by rw [List.getD_eq_getElem?_getD, List.getElem?_eq_getElem h, Option.getD_some]
theorem own_lit2 (w : World) (base : Nat) (x y : Int) (hb : base ≤ w.heap.size) : Own (w.alloc (.cells #[vi x, vi y] 3)) base (.slice (some ⟨w.heap.size, 0, none⟩) 2 2) [x, y] := own_lit w base [x, y] hb (by simp [maxLen])
def RowRel (ts : List (List Int)) (w : World) (v i : Value) (wr : World) : Prop :=
  ∃ (k : Nat) (us : List Value), k ≤ ts.length ∧ i = vi k ∧ OwnR wr w.heap.size v us ∧ RowsOwn wr w.heap.size us (ts.take k) ∧ Below w.heap.size w wr
set_option maxRecDepth 100000 in
set_option maxHeartbeats 2000000 in
theorem frows_any (A : Option Addr) (cap n h : Nat) (hn : n = 2 * h) (hm : n ≤ 65536) (word : List Int) (hw : word.length = n) (w : World) (hs : SL w A word) :
    Calls Tryz.prog 30 #[.slice A n cap] w (MadeRows (rowsL word h) w) := by
  have hmk : ∀ W : World, (Instr.makeSlice 37 (.int .i64 0) (vi h)).run Tryz.prog W = .ok (.slice (some ⟨W.heap.size, 0, none⟩) 0 h) (W.alloc (.cells (nilsN h) 22)) := fun W => make_rowsN h (by omega) W
  have hb0 : Below w.heap.size w (w.alloc (.cells (nilsN h) 22)) := (Below.refl _ _).alloc (Nat.le_refl _) _
  have hO0 := ownR_madeN w w.heap.size h (Nat.le_refl _) (by omega)
  have t2 : wrap64 ((n : Int) / 2) = (h : Int) := by rw [hn]; exact half_wrap rfl (by omega)
  have t3 : (n : Int).tdiv 2 = (h : Int) := by rw [Int.tdiv_eq_ediv_of_nonneg (by omega)]; omega
  have t4 : (n : Int) / 2 = (h : Int) := by omega
  have HN := Lib.hid hn
  have HW := Lib.hid hw
  have HS := Lib.hid hs
  have HL := Lib.hid (rowsL_len word h)
  clear hn hw hs
  go_enter Tryz.func30, Tryz.ntmps30
  go_wp2
  generalize World.alloc _ _ = W0 at hb0 hO0 ⊢
  clear hmk t2 t3 t4
  go_loopw [4, 12] (fun v i wr => RowRel (rowsL word h) w v i wr) (fun _ i _ => h - (intOf i).toNat)
  case atStart => exact ⟨0, [], Nat.zero_le _, rfl, hO0, RowsOwn.nil _ _, hb0⟩
  case round =>
    clear hO0 hb0
    obtain ⟨k, us, hk, rfl, hown, hrows, hb⟩ := hrel
    rw [HL.out] at hk
    by_cases hkh : k < h
    · have hsw := HS.out.below hb
      have hkx : k < word.length := by rw [HW.out, HN.out]; omega
      have hkx2 : k + h < word.length := by rw [HW.out, HN.out]; omega
      obtain ⟨ad, rfl, _, hc1⟩ := hsw.at_ hkx
      obtain ⟨ad', he, _, hc2⟩ := hsw.at_ hkx2
      injection he with he
      subst he
      have i1 : (0 : Int) ≤ k := by omega
      have i2 : (k : Int) < n := by have := HN.out; omega
      have i3 : (0 : Int) ≤ (k : Int) + h := by omega
      have i4 : (k : Int) + h < n := by have := HN.out; omega
      have i5 : ((k : Int) + h).toNat = k + h := by omega
      have i6 : IntKind.i64.wrap ((k : Int) + h) = (k : Int) + h := IntWalk.i64_in _ (by constructor <;> omega)
      have hwr : IntKind.i64.wrap ((k : Int) + 1) = (k : Int) + 1 := IntWalk.i64_in _ (by constructor <;> omega)
      have hus : us.length = k := by rw [hrows.1, List.length_take, HL.out]; omega
      have H2 := Lib.hid (rowsL_succ word h k hkh)
      rw [getD_at hkx, getD_at hkx2] at H2
      obtain ⟨x, hx⟩ : ∃ x, x = word[k] := ⟨_, rfl⟩
      obtain ⟨y, hy⟩ : ∃ y, y = word[k + h] := ⟨_, rfl⟩
      rw [← hx, ← hy] at H2
      rw [← hx] at hc1
      rw [← hy] at hc2
      have HOW := Lib.hid hown
      have HRW := Lib.hid hrows
      have HB := Lib.hid hb
      have HUS := Lib.hid (show us.length < 5864062014805 by omega)
      have hba : Below wr.heap.size wr ((wr.drew.alloc (.cells #[vi x, vi y] 3)).alloc (.cells #[.slice (some ⟨wr.heap.size, 0, none⟩) 2 2] 22)) := by
        have h1 : Below wr.heap.size wr wr.drew := below_drewN (Below.refl _ _) 1
        have h2 : Below wr.heap.size wr (wr.drew.alloc (.cells #[vi x, vi y] 3)) := h1.alloc h1.size _
        exact h2.alloc h2.size _
      have HBA := Lib.hid hba
      have HOX := Lib.hid (show OwnR ((wr.drew.alloc (.cells #[vi x, vi y] 3)).alloc (.cells #[.slice (some ⟨wr.heap.size, 0, none⟩) 2 2] 22)) w.heap.size u4 us from OwnR.below hown hba)
      have HCL : Hid (∀ W : World, W.heap.size = wr.heap.size → ∀ j u, ([.slice (some ⟨wr.heap.size, 0, none⟩) 2 2] : List Value)[j]? = some u → ((W.alloc (.cells #[vi x, vi y] 3)).alloc (.cells #[.slice (some ⟨wr.heap.size, 0, none⟩) 2 2] 22)).cell? ⟨wr.heap.size + 1, j, none⟩ = some u) := Lib.hid fun W hW j u hj => by
        have h1 := (Blk.new (W.alloc (.cells #[vi x, vi y] 3)) 22 #[.slice (some ⟨wr.heap.size, 0, none⟩) 2 2]).cell j
        rw [show (W.alloc (.cells #[vi x, vi y] 3)).heap.size = wr.heap.size + 1 by simp [hW]] at h1
        rw [h1]
        simpa using hj
      clear hba
      clear hown hrows hb hus hx hy hsw hkx hkx2
      go_wp2
      go_region_law (first
        | (refine step_appSG 37 22 _ 1 24 Tryz.underlying37 info_ints (by rfl) (by omega) ((wr.drew.alloc (.cells #[vi x, vi y] 3)).alloc (.cells #[.slice (some ⟨wr.heap.size, 0, none⟩) 2 2] 22)) (wr.heap.size + 1) [.slice (some ⟨wr.heap.size, 0, none⟩) 2 2] (by rfl) (by simp [Value.oneCell']) (by rfl) _ _ (by rfl) w.heap.size u4 us.length us (by rfl) (by rfl) (HCL.out wr.drew rfl) HOX.out (by have := HUS.out; simp only [maxLen]; omega) (by have := HUS.out; omega) (Nat.le_trans HB.out.size HBA.out.size) ?_; intro v' w' h1 h2 h3))
      all_goals
        have hb5 : Below wr.heap.size wr ((wr.drew.alloc (.cells #[vi x, vi y] 3)).alloc (.cells #[.slice (some ⟨wr.heap.size, 0, none⟩) 2 2] 22)) := HBA.out
        have hg : GrewR ((wr.drew.alloc (.cells #[vi x, vi y] 3)).alloc (.cells #[.slice (some ⟨wr.heap.size, 0, none⟩) 2 2] 22)) w' w.heap.size u4 v' (us ++ [.slice (some ⟨wr.heap.size, 0, none⟩) 2 2]) := ⟨by rw [OwnR, List.length_append]; exact h1, h2⟩
        clear h1 h2 h3
        have hB5 := HB.out.trans (hb5.mono HB.out.size)
        have hR5 := HRW.out.below hb5
        have hW5 := HOX.out
        have ho5 : Own ((wr.drew.alloc (.cells #[vi x, vi y] 3)).alloc (.cells #[.slice (some ⟨wr.heap.size, 0, none⟩) 2 2] 22)) w.heap.size (.slice (some ⟨wr.heap.size, 0, none⟩) 2 2) [x, y] := (own_lit2 wr.drew w.heap.size x y HB.out.size).alloc' _
        have hr3 := (hg.rows hW5 hR5).snoc (ho5.grown hg.grown (own_ne ho5 hW5))
        have hown3 := hg.own
        have hb3 := hg.below hB5 hW5 (Nat.le_refl _) hB5.size
        rw [← H2.out] at hr3
        have HFN := Lib.hid (And.intro hown3 (And.intro hr3 hb3))
        clear hb5 hB5 hR5 hW5 ho5 hr3 hown3 hb3 hg
        go_wp2
        go_roundw
        case rel => exact ⟨k + 1, _, by rw [HL.out]; omega, by go_num, HFN.out.1, HFN.out.2.1, HFN.out.2.2⟩
        case measure => simp [intOf]; omega
    · have ek : k = h := by omega
      have htk : (rowsL word h).take h = rowsL word h := List.take_of_length_le (by rw [HL.out]; exact Nat.le_refl _)
      rw [ek, htk] at hrows
      go_wp2
      go_ret
      exact ⟨_, us, rfl, hown, hrows, hb⟩
end Go.Proofs.YtonalbdehcmjmaaGreat

/- Plain: what is made when somebody shows that a word is of low degree. -/
set_option linter.unusedVariables false
namespace Go.Proofs.YtonalbdehcmjmaaGreat
open Go.RowKit Zp
section
variable (p k : Nat) [NeZero p] (s : Fin p) (e : Nat) (word D : List Int)
/-- the root of a word in round t -/
def rtF (t : Nat) (v : List Int) : List Int := rootD (digL p k) (rowF (rowsL v (nI e (t + 1)))) 0 (nI e (t + 1))
/-- the digest behind a root and a draw -/
def dgF (t : Nat) (v d : List Int) : List Int := drawnL p k (digL p k (3 :: (d ++ rtF p k e t v)))
/-- the word and the digest behind t rounds -/
noncomputable def stM : Nat → List Int × List Int
  | 0 => (word, D)
  | t + 1 => (fvs (foldL (sqI s t) (rootI p ((nI e t : Nat) : Int)) (nI e (t + 1)) (els p (stM t).1) (el p ((dgF p k e t (stM t).1 (stM t).2).getD 0 0))), dgF p k e t (stM t).1 (stM t).2)
noncomputable def wM (t : Nat) : List Int := (stM p k s e word D t).1
noncomputable def dM (t : Nat) : List Int := (stM p k s e word D t).2
noncomputable def rM (t : Nat) : List Int := rtF p k e t (wM p k s e word D t)
theorem wM_succ (t : Nat) : wM p k s e word D (t + 1) = fvs (foldL (sqI s t) (rootI p ((nI e t : Nat) : Int)) (nI e (t + 1)) (els p (wM p k s e word D t)) (el p ((dM p k s e word D (t + 1)).getD 0 0))) := rfl
/-- the last polynomial -/
noncomputable def lastM (R : Nat) : List Int := fvs (trimL (coefL (sqI s R) (rootI p ((nI e R : Nat) : Int)) (nI e R) (els p (wM p k s e word D R))))
noncomputable def opM (places : List Int) (t : Nat) : OpnI :=
  ⟨onceL (modL places (nI e (t + 1))), openR p (rowsL (wM p k s e word D t) (nI e (t + 1))) (onceL (modL places (nI e (t + 1)))),
    (hidL (onceL (modL places (nI e (t + 1)))) 0 (nI e (t + 1))).map fun g => rootD (digL p k) (rowF (rowsL (wM p k s e word D t) (nI e (t + 1)))) g.1 g.2⟩
noncomputable def fldM (R : Nat) (places : List Int) : FldI := ⟨(List.range R).map (rM p k s e word D), lastM p k s e word D R, (List.range R).map (opM p k s e word D places)⟩
/-- the digest behind all of it -/
noncomputable def dLM (R : Nat) : List Int := digL p k (3 :: (dM p k s e word D R ++ lastM p k s e word D R))
end
section
variable {p k : Nat} [NeZero p] {s : Fin p} {e : Nat} {word D : List Int}
theorem wM_len (hw : word.length = nI e 0) (t : Nat) : (wM p k s e word D t).length = nI e t := by
  cases t with
  | zero => exact hw
  | succ t => rw [wM_succ]; simp [fvs, foldL_length]
theorem wM_i64 (hp : p ≤ 2147483647) (hw : ∀ x ∈ word, I64 x) (t : Nat) : ∀ x ∈ wM p k s e word D t, I64 x := by
  cases t with
  | zero => exact hw
  | succ t =>
    intro x hx
    rw [wM_succ] at hx
    obtain ⟨y, _, rfl⟩ := List.mem_map.1 hx
    exact i64_fv _ hp
theorem rowF_rowsL (v : List Int) (h i : Nat) : rowF (rowsL v h) i = if i < h then [v.getD i 0, v.getD (i + h) 0] else [] := by
  unfold rowF rowsL
  rw [List.getD_eq_getElem?_getD, List.getElem?_map]
  by_cases hi : i < h
  · rw [if_pos hi, List.getElem?_range hi]; rfl
  · rw [if_neg hi, List.getElem?_eq_none (by simp; omega)]; rfl
end
end Go.Proofs.YtonalbdehcmjmaaGreat

/- Walks: tree.hidden, with a function that turns memory of its own; the closure of tree.Open that keeps the roots. -/
set_option linter.unusedVariables false
namespace Go.Proofs.YtonalbdehcmjmaaGreat
open Go.RowKit Zp
/-- groups in memory are kept -/
def KeepG (w w' : World) : Prop := w.heap.size ≤ w'.heap.size ∧ ∀ g cs, Blk w g 100 cs → Blk w' g 100 cs
theorem KeepG.trans {a b c : World} (h : KeepG a b) (k : KeepG b c) : KeepG a c := ⟨Nat.le_trans h.1 k.1, fun g cs hb => k.2 g cs (h.2 g cs hb)⟩
theorem KeepG.of {w w' : World} (h : Below w.heap.size w w') : KeepG w w' := ⟨h.size, fun g cs hb => Blk.below hb h hb.lt⟩
theorem KeepG.one {w w' : World} {x : Nat} {t : TypeId} {cx : Array Value} (hx : Blk w x t cx) (ht : t ≠ 100) (h : w.grownBy w' (some x)) : KeepG w w' := ⟨h.size, fun g cs hb => Blk.grown hb h (by intro e; injection e with e; exact Blk.ne_ hb hx (Ne.symm ht) e)⟩
theorem KeepG.grew {w w' : World} {base : Nat} {v v' : Value} {us vs : List Value} (h : GrewR w w' base v v' us) (ho : OwnR w base v vs) : KeepG w w' := ⟨h.grown.size, fun g cs hb => Blk.grown hb h.grown (by
  rcases hv : v.ownBlock with _ | x
  · intro e; cases e
  · obtain ⟨cx, hx⟩ := ownR_blk ho hv
    intro e; injection e with e
    exact Blk.ne_ hb hx (by decide) e)⟩
set_option maxRecDepth 100000 in
set_option maxHeartbeats 1000000 in
theorem hidden_gen (K : Nat) (hK : ∀ (args : Array Value) (w : World), (callFunc K args).run Tryz.prog w = .ok (.enter K args) w) (caps : Array Value) (N : Nat) (hNN : N ≤ 65536) (A0 : Option Addr) (n c : Nat) (l : List Int) (hml : l.length = n) (hn : n ≤ 65536) (hup : Asc l)
    (J : List (Nat × Nat) → World → Prop) (hJ : ∀ pre W W', J pre W → Below W.heap.size W W' → J pre W') (hJs : ∀ pre W, J pre W → SL W A0 l)
    (hY : ∀ (pre : List (Nat × Nat)) (a m : Nat) (W : World), J pre W → pre.length ≤ a → 1 ≤ m → a + m ≤ N → Calls Tryz.prog K (#[.agg #[vi (a : Int), vi ((a : Int) + (m : Int))]] ++ caps) W fun e W' => (∃ r, e = .returned r) ∧ J (pre ++ [(a, m)]) W' ∧ KeepG W W') :
    ∀ (m a : Nat), 1 ≤ m → a + m ≤ N → ∀ (pre : List (Nat × Nat)) (w : World), pre.length ≤ a → J pre w →
    Calls Tryz.prog 69 #[Gp a (a + m), .slice A0 n c, .func (.func K) #[] caps] w fun e w' => (∃ r, e = .returned r) ∧ J (pre ++ hidL l a m) w' ∧ KeepG w w' := by
  intro m
  induction m using Nat.strongRecOn with
  | ind m ih =>
    intro a h1 ha pre w hpl hj
    have hs := hJs _ _ hj
    have hb1 : Below w.heap.size w (w.alloc (.cells #[vi a, vi ((a : Int) + m)] 100)) := (Below.refl _ _).alloc (Nat.le_refl _) _
    have hB := Blk.new w 100 #[vi a, vi ((a : Int) + m)]
    have HSH := Lib.hid (shows_any A0 n c l hml hn hup a m (by omega) _ (hs.below hb1))
    have HB1 := Lib.hid hb1
    by_cases hsh : shownB l a m = true
    · have HS0 := Lib.hid hsh
      by_cases h2 : 2 ≤ m
      · have hlf := leftN_lt h2
        have HHL := Lib.hid (show hidL l a m = hidL l a (leftN m) ++ hidL l (a + leftN m) (m - leftN m) by rw [hidL, if_pos hsh, dif_pos h2])
        have HH := Lib.hid (fun w => halves_any a m h2 (by omega) w)
        obtain ⟨j, hj'⟩ : ∃ j, j = leftN m := ⟨_, rfl⟩
        rw [← hj'] at hlf HH HHL
        obtain ⟨hj1, hj2, hj3⟩ := hlf
        have I1 := Lib.hid (fun W (x : J pre W) => ih j hj1 a hj3 (by omega) pre W hpl x)
        have I2 : Hid (∀ W, J (pre ++ hidL l a j) W → Calls Tryz.prog 69 #[.agg #[vi ((a : Int) + j), vi ((a : Int) + m)], .slice A0 n c, .func (.func K) #[] caps] W fun e w' => (∃ r, e = .returned r) ∧ J ((pre ++ hidL l a j) ++ hidL l (a + j) (m - j)) w' ∧ KeepG W w') := Lib.hid (fun W x => by
          have h := ih (m - j) (by omega) (a + j) (by omega) (by omega) (pre ++ hidL l a j) W (by rw [List.length_append]; have := hidL_le' l j a hj3; omega) x
          rw [show a + j + (m - j) = a + m by omega] at h
          simpa [Gp] using h)
        have t1 : decide (1 < (m : Int)) = true := by simp; omega
        have t2 : decide ((1 : Int) < (a : Int) + (m : Int) - (a : Int)) = true := by simp; omega
        have HJ := Lib.hid hj
        have HJB := Lib.hid hJ
        have HBB := Lib.hid hB
        have HSS := Lib.hid hs
        clear hsh hB hb1 ih hJ hJs hY hup hml hj hj' hs
        go_enter Tryz.func69, Tryz.ntmps69
        go_wp2_with fail
        refine HSH.out.mono ?_
        rintro e w2 ⟨rfl, hb2⟩
        rw [HS0.out]
        have hB2 := Blk.below HBB.out hb2 HBB.out.lt
        have e0 := (hB2.cell 0).trans (show _ = some (vi a) from rfl)
        have e1 := (hB2.cell 1).trans (show _ = some (vi ((a : Int) + m)) from rfl)
        have hb02 := HB1.out.trans (hb2.mono HB1.out.size)
        have HB02 := Lib.hid hb02
        clear hB2 hb2 hb02
        go_wp2_with fail
        refine (HH.out w2).mono ?_
        rintro _ w3 ⟨rfl, hb3⟩
        have hb03 := HB02.out.trans (hb3.mono HB02.out.size)
        have HB03 := Lib.hid hb03
        clear e0 e1 hb3 hb03
        go_wp2_with fail
        obtain ⟨q, hq⟩ : ∃ q, q = w3.heap.size := ⟨_, rfl⟩
        obtain ⟨W4, hW4⟩ : ∃ W4, W4 = (w3.alloc (.cells #[vi a, vi ((a : Int) + j)] 100)).alloc (.cells #[vi ((a : Int) + j), vi ((a : Int) + m)] 100) := ⟨_, rfl⟩
        rw [← hW4]
        have hB7 := (Blk.new w3 100 #[vi a, vi ((a : Int) + j)]).alloc (.cells #[vi ((a : Int) + j), vi ((a : Int) + m)] 100)
        have hB8 := Blk.new (w3.alloc (.cells #[vi a, vi ((a : Int) + j)] 100)) 100 #[vi ((a : Int) + j), vi ((a : Int) + m)]
        rw [← hW4, show (w3.alloc (.cells #[vi a, vi ((a : Int) + j)] 100)).heap.size = q + 1 by simp [hq]] at hB8
        rw [← hW4, ← hq] at hB7
        have hb4 : Below w.heap.size w W4 := by rw [hW4]; exact (HB03.out.alloc HB03.out.size _).alloc (by have := HB03.out.size; simp; omega) _
        have hqs := HB03.out.size
        rw [← hq] at hqs ⊢
        clear hW4 hq
        refine (I1.out W4 (HJB.out _ _ _ HJ.out hb4)).mono ?_
        rintro _ w5 ⟨⟨r5, rfl⟩, hj5, hg5⟩
        have hB8' := hg5.2 _ _ hB8
        have e0 := (hB8'.cell 0).trans (show _ = some (vi ((a : Int) + j)) from rfl)
        have e1 := (hB8'.cell 1).trans (show _ = some (vi ((a : Int) + m)) from rfl)
        have HJ5 := Lib.hid hj5
        have HG5 := Lib.hid ((KeepG.of hb4).trans hg5)
        have HX := Lib.hid (I2.out w5 hj5)
        clear hB7 hB8 hB8' hj5 hg5 hb4 I1 I2 HJ
        go_wp2_with fail
        refine HX.out.mono ?_
        rintro _ w6 ⟨⟨r6, rfl⟩, hj6, hg6⟩
        have HFIN : Hid (J (pre ++ hidL l a m) w6 ∧ KeepG w w6) := Lib.hid ⟨by rw [HHL.out, ← List.append_assoc]; exact hj6, HG5.out.trans hg6⟩
        clear hj6 hg6 HX e0 e1
        go_wp2
        go_end0
        exact ⟨⟨_, rfl⟩, HFIN.out.1, HFIN.out.2⟩
      · have e : m = 1 := by omega
        subst e
        have HHL := Lib.hid (show hidL l a 1 = [] by rw [hidL, if_pos hsh, dif_neg h2])
        have HJ := Lib.hid hj
        have HJB := Lib.hid hJ
        have HBB := Lib.hid hB
        clear hsh hB hb1 ih hJ hJs hY hup hml hj
        go_enter Tryz.func69, Tryz.ntmps69
        go_wp2_with fail
        refine HSH.out.mono ?_
        rintro e w2 ⟨rfl, hb2⟩
        rw [HS0.out]
        have hB2 := Blk.below HBB.out hb2 HBB.out.lt
        have e0 := (hB2.cell 0).trans (show _ = some (vi a) from rfl)
        have e1 := (hB2.cell 1).trans (show _ = some (vi ((a : Int) + 1)) from rfl)
        have hb02 := HB1.out.trans (hb2.mono HB1.out.size)
        have HFIN : Hid (J (pre ++ hidL l a 1) w2 ∧ KeepG w w2) := Lib.hid ⟨by rw [HHL.out, List.append_nil]; exact HJB.out _ _ _ HJ.out hb02, KeepG.of hb02⟩
        clear hB2 hb2 hb02
        go_wp2
        go_end0
        exact ⟨⟨_, rfl⟩, HFIN.out.1, HFIN.out.2⟩
    · have HS0 := Lib.hid (show shownB l a m = false by simpa using hsh)
      have HHL := Lib.hid (show hidL l a m = [(a, m)] by rw [hidL, if_neg hsh])
      have HYY := Lib.hid (fun W h => hY pre a m W h hpl h1 ha)
      have HJ := Lib.hid hj
      have HJB := Lib.hid hJ
      have HBB := Lib.hid hB
      clear hsh hB hb1 ih hJ hJs hY hup hml hj
      go_enter Tryz.func69, Tryz.ntmps69
      go_wp2_with fail
      refine HSH.out.mono ?_
      rintro e w2 ⟨rfl, hb2⟩
      rw [HS0.out]
      have hB2 := Blk.below HBB.out hb2 HBB.out.lt
      have e0 := (hB2.cell 0).trans (show _ = some (vi a) from rfl)
      have e1 := (hB2.cell 1).trans (show _ = some (vi ((a : Int) + m)) from rfl)
      have hb02 := HB1.out.trans (hb2.mono HB1.out.size)
      have HB02 := Lib.hid hb02
      clear hB2 hb2 hb02
      go_wp2_with fail
      refine (HYY.out w2 (HJB.out _ _ _ HJ.out HB02.out)).mono ?_
      rintro _ w3 ⟨⟨r3, rfl⟩, hj3, hg3⟩
      have HFIN : Hid (J (pre ++ hidL l a m) w3 ∧ KeepG w w3) := Lib.hid ⟨by rw [HHL.out]; exact hj3, (KeepG.of HB02.out).trans hg3⟩
      clear hj3 hg3 e0 e1
      go_wp2
      exact bodyPost_ret (results_none rfl _ _ _) rfl ⟨⟨_, rfl⟩, HFIN.out.1, HFIN.out.2⟩
theorem step_appR {ops : Array Oper} {o : Oper} {a : Act} {K : Act → World → Prop} {Q : Exit → Act → World → Prop} {E : Prop} (w : World) (A : Option Addr) (n c : Nat) (hgd : o.guard = none) (s x : Operand)
    (ho : o.op = .call { callee := .builtin .append, args := #[s, x], argTypes := #[37, 37] })
    (base : Nat) (v : Value) (us : List Value) (hs : a.eval s = v) (hx : a.eval x = .slice (some ⟨w.heap.size, 0, none⟩) 1 1) (hown : OwnR w base v us) (hlen : us.length < 5864062014805) (hbase : base ≤ w.heap.size)
    (h : ∀ v' w', GrewR w w' base v v' (us ++ [.slice A n c]) → K (a.put o.dst v') w') :
    if Region.wanted o (yielded ops a.tmps) = true then Oper.wp Tryz.prog o a (w.alloc (.cells #[.slice A n c] 22)) K Q else E := by
  have hw : Region.wanted o (yielded ops a.tmps) = true := by simp [Region.wanted, hgd]
  rw [if_pos hw]
  obtain ⟨v', w', hrun, hg⟩ := run_appR w base v us A n c hown hlen hbase o.type
  unfold Oper.wp execOp
  simp only [ho, resolve, invoke, builtin, Sem.run_bind, Sem.run_pure, Result.andThen_ok, List.map_toArray, List.map_cons, List.map_nil, hs, hx, hrun]
  exact h v' w' hg
theorem grownBy_new {w0 w w' : World} {ob : Nat} {row : Option Nat} (h : w0.grownBy w (some ob)) (hg : w.grownBy w' row) (hr : ∀ k, row = some k → w0.heap.size ≤ k) : w0.grownBy w' (some ob) :=
  ⟨hg.os.trans h.os, hg.tape.trans h.tape, hg.output.trans h.output, Nat.le_trans h.size hg.size, fun i hi hne => (hg.block i (Nat.lt_of_lt_of_le hi h.size) (fun e => by have := hr i e.symm; omega)).trans (h.block i hi hne)⟩
/-- the roots that are kept so far -/
def NodesJ (H : Nat × Nat → List Int) (W4 : World) (ob : Nat) (ov rv : Value) (pre : List (Nat × Nat)) (W : World) : Prop :=
  ∃ nv vs, Blk W ob 79 #[ov, rv, nv] ∧ OwnR W W4.heap.size nv vs ∧ UsAt W vs (pre.map H) ∧ W4.grownBy W (some ob)
theorem NodesJ.below {H : Nat × Nat → List Int} {W4 : World} {ob : Nat} {ov rv : Value} {pre : List (Nat × Nat)} {W W' : World} (h : NodesJ H W4 ob ov rv pre W) (hb : Below W.heap.size W W') : NodesJ H W4 ob ov rv pre W' := by
  obtain ⟨nv, vs, h1, h2, h3, h4⟩ := h
  exact ⟨nv, vs, Blk.below h1 hb h1.lt, OwnR.below h2 hb, h3.below hb, grownBy_trans h4 (grown_of_below hb _)⟩
/-- one root more is kept -/
theorem NodesJ.push {H : Nat × Nat → List Int} {W4 W3 W5 : World} {ob g c : Nat} {ov rv nv v' : Value} {vs : List Value} {t : TypeId} {cs : Array Value} {pre : List (Nat × Nat)} {x : Nat × Nat} (hob : ob < W4.heap.size)
    (h1 : Blk W3 ob 79 #[ov, rv, nv]) (h2 : OwnR W3 W4.heap.size nv vs) (h3 : UsAt W3 vs (pre.map H)) (h4 : W4.grownBy W3 (some ob))
    (hg : Blk W3 g t cs) (ht1 : t ≠ 22) (ht2 : t = 3 ∨ t = 56) (hs : SL W3 (some ⟨g, 0, none⟩) (H x)) (hl : (H x).length = 4) (hi : ∀ y ∈ H x, I64 y)
    (hG : GrewR W3 W5 W4.heap.size nv v' (vs ++ [.slice (some ⟨g, 0, none⟩) 4 c])) :
    Blk W5 ob 79 #[ov, rv, nv] ∧ NodesJ H W4 ob ov rv (pre ++ [x]) (W5.setCell ⟨ob, 2, none⟩ v') ∧ KeepG W3 (W5.setCell ⟨ob, 2, none⟩ v') := by
  have hne : some ob ≠ nv.ownBlock := fun e => by
    have := (World.ownsRow.lt h2 ob e.symm).1
    omega
  have hb := Blk.grown h1 hG.grown hne
  have hs' : W5.grownBy (W5.setCell ⟨ob, 2, none⟩ v') (some ob) := blk_grown
  have hu := UsAt.grew hG h2 (h3.app (UsAt.one (c := c) hg ht1 ht2 hs hl hi))
  rw [show pre.map H ++ [H x] = (pre ++ [x]).map H by simp] at hu
  exact ⟨hb, ⟨v', _, hb.set_ 2 v', ownR_past hG.own hs' hob, hu.far hb (.inr rfl) hs', grownBy_trans (grownBy_new h4 hG.grown fun k hk => (World.ownsRow.lt h2 k hk).1) hs'⟩, (KeepG.grew hG h2).trans (KeepG.one hb (by decide) hs')⟩
end Go.Proofs.YtonalbdehcmjmaaGreat

/- The walk of the closure of tree.Open that keeps the roots. -/
set_option linter.unusedVariables false
set_option linter.unusedSimpArgs false
namespace Go.Proofs.YtonalbdehcmjmaaGreat
open Go.RowKit Zp
set_option maxRecDepth 100000 in
set_option maxHeartbeats 2000000 in
theorem open2_any (p S b s k z : Nat) [NeZero p] (oo : Nat → Nat → Fin p) (A : Option Addr) (N c : Nat) (ls : List (List Int)) (hN : ls.length = N) (hN2 : N ≤ 65536) (hR : ∀ l ∈ ls, l.length * 8 + 80 ≤ 140737488355328) (ob sb rb : Nat) (ov rv : Value) (W4 : World) (hob : ob < W4.heap.size)
    (hE : ∀ W, W4.grownBy W (some ob) → Fld W S b p ∧ Spg W s b k z oo ∧ TB W A ls ∧ W.cell? ⟨sb, 0, none⟩ = some (.pointer (some ⟨s, 0, none⟩)) ∧ W.cell? ⟨rb, 0, none⟩ = some (.slice A N c))
    (pre : List (Nat × Nat)) (a m : Nat) (W : World) (hJ : NodesJ (fun g => rootD (digL p k) (rowF ls) g.1 g.2) W4 ob ov rv pre W) (hpl : pre.length ≤ a) (h1 : 1 ≤ m) (ha : a + m ≤ N) :
    Calls Tryz.prog 70 #[.agg #[vi (a : Int), vi ((a : Int) + (m : Int))], .pointer (some ⟨ob, 0, none⟩), .pointer (some ⟨sb, 0, none⟩), .pointer (some ⟨rb, 0, none⟩)] W fun e W' => (∃ r, e = .returned r) ∧ NodesJ (fun g => rootD (digL p k) (rowF ls) g.1 g.2) W4 ob ov rv (pre ++ [(a, m)]) W' ∧ KeepG W W' := by
  obtain ⟨H, hH⟩ : ∃ H : Nat × Nat → List Int, H = fun g => rootD (digL p k) (rowF ls) g.1 g.2 := ⟨_, rfl⟩
  have HRT : Hid (∀ W', Fld W' S b p → Spg W' s b k z oo → TB W' A ls → Calls Tryz.prog 58 #[.pointer (some ⟨s, 0, none⟩), .slice A N c, .agg #[vi (a : Int), vi ((a : Int) + (m : Int))]] W' (RootIs (H (a, m)) W')) := Lib.hid (fun W' F G T => by
    have h := troot_any p S b s k z oo A N c ls hN hN2 hR m a h1 ha W' F G T
    rw [hH]
    simpa [Gp] using h)
  rw [← hH] at hJ ⊢
  obtain ⟨nv, vs, hblk, hno, hus, hgr⟩ := hJ
  obtain ⟨AV, nV, cV, rfl, hnV, _⟩ := ownR_shape hno
  have HVL := Lib.hid (show vs.length < 5864062014805 by have := hus.1; rw [List.length_map] at this; omega)
  obtain ⟨W1, hW1⟩ : ∃ W1, W1 = W.alloc (.cells #[vi a, vi ((a : Int) + m)] 100) := ⟨_, rfl⟩
  have hb1 : Below W.heap.size W W1 := by rw [hW1]; exact (Below.refl _ _).alloc (Nat.le_refl _) _
  have hBg : Blk W1 W.heap.size 100 #[vi a, vi ((a : Int) + m)] := by rw [hW1]; exact Blk.new _ _ _
  have KX : Hid (∀ W', Below W1.heap.size W1 W' → (Fld W' S b p ∧ Spg W' s b k z oo ∧ TB W' A ls) ∧ Blk W' ob 79 #[ov, rv, .slice AV nV cV] ∧ OwnR W' W4.heap.size (.slice AV nV cV) vs ∧ UsAt W' vs (pre.map H) ∧ W4.grownBy W' (some ob)) := Lib.hid fun W' hb => by
    have hb' := hb1.trans (hb.mono hb1.size)
    have hg' := grownBy_trans hgr (grown_of_below hb' (some ob))
    obtain ⟨e1, e2, e3, _⟩ := hE W' hg'
    exact ⟨⟨e1, e2, e3⟩, Blk.below hblk hb' hblk.lt, OwnR.below hno hb', hus.below hb', hg'⟩
  have KS : Hid (∀ W', (W4.grownBy W' (some ob) ∧ KeepG W1 W') → W'.cell? ⟨sb, 0, none⟩ = some (.pointer (some ⟨s, 0, none⟩)) ∧ W'.cell? ⟨rb, 0, none⟩ = some (.slice A N c) ∧ W'.cell? ⟨W.heap.size, 0, none⟩ = some (vi a) ∧ W'.cell? ⟨W.heap.size, 1, none⟩ = some (vi ((a : Int) + m))) := Lib.hid fun W' hb => by
    obtain ⟨_, _, _, e4, e5⟩ := hE W' hb.1
    have hq := hb.2.2 _ _ hBg
    exact ⟨e4, e5, (hq.cell 0).trans rfl, (hq.cell 1).trans rfl⟩
  have HOB := Lib.hid hob
  have HKG := Lib.hid (KeepG.of hb1)
  have hb11 : Below W1.heap.size W1 W1.drew := below_drewN (Below.refl _ _) 1
  have kk1 : W4.grownBy W1.drew (some ob) ∧ KeepG W1 W1.drew := ⟨(KX.out _ hb11).2.2.2.2, KeepG.of hb11⟩
  have c1 := ((KX.out _ (Below.refl _ _)).2.1.cell 2).trans (show _ = some (.slice AV nV cV) from rfl)
  have c2 := ((KX.out _ hb11).2.1.cell 2).trans (show _ = some (.slice AV nV cV) from rfl)
  have HW1 := Lib.hid hW1
  clear hH hE hblk hno hus hgr hob hpl h1 ha hN hN2 hR hb1 hBg hW1 hnV
  go_enter Tryz.func70, Tryz.ntmps70
  go_wp2_with fail
  rw [← HW1.out]
  refine wp_region_held_drew (S := fun w' => w'.cell? ⟨sb, 0, none⟩ = some (.pointer (some ⟨s, 0, none⟩)) ∧ w'.cell? ⟨rb, 0, none⟩ = some (.slice A N c) ∧ w'.cell? ⟨W.heap.size, 0, none⟩ = some (vi a) ∧ w'.cell? ⟨W.heap.size, 1, none⟩ = some (vi ((a : Int) + m))) (by kernel_rfl) (KS.out _ kk1) (fun hHeld => ?_)
  refine wpAnyH_take_at (i := 0) rfl rfl (by kernel_rfl) (by kernel_rfl) (by kernel_rfl) (fun _ _ _ h => h) (Or.inl ⟨by rfl, by (intro w hSw; (try dsimp only at hSw); go_simp; try with_reducible rfl)⟩) (by assumption) ?_
  (try simp only [Act.put, List.setIfInBounds_toArray, List.set_cons_zero, List.set_cons_succ])
  refine wpAnyH_take_at (i := 2) rfl rfl (by kernel_rfl) (by kernel_rfl) (by kernel_rfl) (fun _ _ _ h => h) (Or.inl ⟨by rfl, by (intro w hSw; (try dsimp only at hSw); go_simp; try with_reducible rfl)⟩) (by assumption) ?_
  (try simp only [Act.put, List.setIfInBounds_toArray, List.set_cons_zero, List.set_cons_succ])
  refine wpAnyH_take_at (i := 3) rfl rfl (by kernel_rfl) (by kernel_rfl) (by kernel_rfl) (fun _ _ _ h => h) (Or.inl ⟨by rfl, by (intro w hSw; (try dsimp only at hSw); go_simp; try with_reducible rfl)⟩) (by assumption) ?_
  (try simp only [Act.put, List.setIfInBounds_toArray, List.set_cons_zero, List.set_cons_succ])
  refine wpAnyH_take_at (i := 4) rfl rfl (by kernel_rfl) (by kernel_rfl) (by kernel_rfl) (fun _ _ _ h => h) (Or.inl ⟨by rfl, by (intro w hSw; (try dsimp only at hSw); go_simp; try with_reducible rfl)⟩) (by assumption) ?_
  (try simp only [Act.put, List.setIfInBounds_toArray, List.set_cons_zero, List.set_cons_succ])
  refine wpAnyH_ready (rs := [1, 5]) (by kernel_rfl) (by simp) ?_
  refine AllReadyH.cons rfl (fun K hK => ?_) (AllReadyH.cons rfl (fun K hK => ?_) AllReadyH.nil)
  · go_simp
    refine hK.out _ _ (by (first | exact KS.out _ (by assumption) | (simp only [Act.put]; exact KS.out _ (by assumption)))) (fun hHeld => ?_)
    clear hK K
    (try simp only [Act.put, List.setIfInBounds_toArray, List.set_cons_zero, List.set_cons_succ])
    refine wpAnyH_ready (rs := [5]) (by kernel_rfl) (by simp) ?_
    refine AllReadyH.cons rfl (fun K hK => ?_) AllReadyH.nil
    go_simp
    refine (HRT.out _ (KX.out _ hb11).1.1 (KX.out _ hb11).1.2.1 (KX.out _ hb11).1.2.2).mono ?_
    rintro _ w3 ⟨g3, rfl, ⟨x3, y3⟩, s3, l3, i3, n3, hb3⟩
    have hb13 : Below W1.heap.size W1 w3 := hb11.trans (hb3.mono hb11.size)
    have HX3 := Lib.hid (show _ ∧ _ ∧ _ ∧ _ ∧ W4.heap.size ≤ w3.heap.size ∧ Below W1.heap.size W1 w3 from ⟨(KX.out _ hb13).2.1, (KX.out _ hb13).2.2.1, (KX.out _ hb13).2.2.2.1, (KX.out _ hb13).2.2.2.2, (KX.out _ hb13).2.2.2.2.size, hb13⟩)
    have HG3 := Lib.hid (And.intro y3 (And.intro s3 (And.intro l3 i3)))
    have kk3 : W4.grownBy w3 (some ob) ∧ KeepG W1 w3 := ⟨(KX.out _ hb13).2.2.2.2, KeepG.of hb13⟩
    have hba := (Below.refl w3.heap.size w3).alloc (Nat.le_refl _) (.cells #[.slice (some ⟨g3, 0, none⟩) 4 4] 22)
    have kk4 : W4.grownBy (w3.alloc (.cells #[.slice (some ⟨g3, 0, none⟩) 4 4] 22)) (some ob) ∧ KeepG W1 (w3.alloc (.cells #[.slice (some ⟨g3, 0, none⟩) 4 4] 22)) := ⟨grownBy_trans kk3.1 (grown_of_below hba _), kk3.2.trans (KeepG.of hba)⟩
    have c3 := (HX3.out.1.cell 2).trans (show _ = some (.slice AV nV cV) from rfl)
    have c4 := ((Blk.alloc HX3.out.1 (.cells #[.slice (some ⟨g3, 0, none⟩) 4 4] 22)).cell 2).trans (show _ = some (.slice AV nV cV) from rfl)
    clear y3 s3 l3 i3 n3 hb3 hb13 hba
    refine hK.out _ _ (by (first | exact KS.out _ (by assumption) | (simp only [Act.put]; exact KS.out _ (by assumption)))) (fun hHeld => ?_)
    clear hK K
    (try simp only [Act.put, List.setIfInBounds_toArray, List.set_cons_zero, List.set_cons_succ])
    refine wpAnyH_ready (rs := [6]) (by kernel_rfl) (by simp) ?_
    refine AllReadyH.cons rfl (fun K hK => ?_) AllReadyH.nil
    go_simp
    refine hK.out _ _ (by (first | exact KS.out _ (by assumption) | (simp only [Act.put]; exact KS.out _ (by assumption)))) (fun hHeld => ?_)
    clear hK K
    (try simp only [Act.put, List.setIfInBounds_toArray, List.set_cons_zero, List.set_cons_succ])
    refine wpAnyH_ready (rs := [7]) (by kernel_rfl) (by simp) ?_
    refine AllReadyH.cons rfl (fun K hK => ?_) AllReadyH.nil
    refine step_appR w3 (some ⟨g3, 0, none⟩) 4 4 (by rfl) _ _ (by rfl) W4.heap.size _ vs (by rfl) (by rfl) HX3.out.2.1 HVL.out HX3.out.2.2.2.2.1 ?_
    intro v5 w5 hg5
    obtain ⟨hq5, hj5, hk5⟩ := NodesJ.push (x := (a, m)) (H := H) HOB.out HX3.out.1 HX3.out.2.1 HX3.out.2.2.1 HX3.out.2.2.2.1 HG3.out.1 (by decide) (by decide) HG3.out.2.1 HG3.out.2.2.1 HG3.out.2.2.2 hg5
    obtain ⟨A5, n5, c5, rfl, hn5, _⟩ := ownR_shape hg5.own
    have kk5 : W4.grownBy w5 (some ob) ∧ KeepG W1 w5 := ⟨grownBy_new HX3.out.2.2.2.1 hg5.grown fun k hk => (World.ownsRow.lt HX3.out.2.1 k hk).1, (KeepG.of HX3.out.2.2.2.2.2).trans (KeepG.grew hg5 HX3.out.2.1)⟩
    have kk6 : W4.grownBy (w5.setCell ⟨ob, 2, none⟩ (.slice A5 n5 c5)) (some ob) ∧ KeepG W1 (w5.setCell ⟨ob, 2, none⟩ (.slice A5 n5 c5)) := ⟨grownBy_trans kk5.1 blk_grown, (KeepG.of HX3.out.2.2.2.2.2).trans hk5⟩
    have e2 := (hq5.cell 2).trans (show _ = some (.slice AV nV cV) from rfl)
    have z2 := hq5.frozen 2
    have HFIN := Lib.hid (And.intro hj5 (HKG.out.trans kk6.2))
    clear hj5 hk5 hq5 hg5 hn5
    refine hK.out _ _ (by (first | exact KS.out _ (by assumption) | (simp only [Act.put]; exact KS.out _ (by assumption)))) (fun hHeld => ?_)
    clear hK K
    (try simp only [Act.put, List.setIfInBounds_toArray, List.set_cons_zero, List.set_cons_succ])
    refine wpAnyH_ready (rs := [8]) (by kernel_rfl) (by simp) ?_
    refine AllReadyH.cons rfl (fun K hK => ?_) AllReadyH.nil
    go_simp
    refine hK.out _ _ (by (first | exact KS.out _ (by assumption) | (simp only [Act.put]; exact KS.out _ (by assumption)))) (fun hHeld => ?_)
    clear hK K
    (try simp only [Act.put, List.setIfInBounds_toArray, List.set_cons_zero, List.set_cons_succ])
    refine wpAnyH_ready (rs := [9]) (by kernel_rfl) (by simp) ?_
    refine AllReadyH.cons rfl (fun K hK => ?_) AllReadyH.nil
    go_simp
    refine hK.out _ _ (by (first | exact KS.out _ (by assumption) | (simp only [Act.put]; exact KS.out _ (by assumption)))) (fun hHeld => ?_)
    clear hK K
    (try simp only [Act.put, List.setIfInBounds_toArray, List.set_cons_zero, List.set_cons_succ])
    refine wpAnyH_done (by kernel_rfl) ?_ _
    go_wp2
    go_end0
    exact ⟨⟨_, rfl⟩, HFIN.out.1, HFIN.out.2⟩
  · go_simp
    refine (HRT.out _ (KX.out _ hb11).1.1 (KX.out _ hb11).1.2.1 (KX.out _ hb11).1.2.2).mono ?_
    rintro _ w3 ⟨g3, rfl, ⟨x3, y3⟩, s3, l3, i3, n3, hb3⟩
    have hb13 : Below W1.heap.size W1 w3 := hb11.trans (hb3.mono hb11.size)
    have HX3 := Lib.hid (show _ ∧ _ ∧ _ ∧ _ ∧ W4.heap.size ≤ w3.heap.size ∧ Below W1.heap.size W1 w3 from ⟨(KX.out _ hb13).2.1, (KX.out _ hb13).2.2.1, (KX.out _ hb13).2.2.2.1, (KX.out _ hb13).2.2.2.2, (KX.out _ hb13).2.2.2.2.size, hb13⟩)
    have HG3 := Lib.hid (And.intro y3 (And.intro s3 (And.intro l3 i3)))
    have kk3 : W4.grownBy w3 (some ob) ∧ KeepG W1 w3 := ⟨(KX.out _ hb13).2.2.2.2, KeepG.of hb13⟩
    have hba := (Below.refl w3.heap.size w3).alloc (Nat.le_refl _) (.cells #[.slice (some ⟨g3, 0, none⟩) 4 4] 22)
    have kk4 : W4.grownBy (w3.alloc (.cells #[.slice (some ⟨g3, 0, none⟩) 4 4] 22)) (some ob) ∧ KeepG W1 (w3.alloc (.cells #[.slice (some ⟨g3, 0, none⟩) 4 4] 22)) := ⟨grownBy_trans kk3.1 (grown_of_below hba _), kk3.2.trans (KeepG.of hba)⟩
    have c3 := (HX3.out.1.cell 2).trans (show _ = some (.slice AV nV cV) from rfl)
    have c4 := ((Blk.alloc HX3.out.1 (.cells #[.slice (some ⟨g3, 0, none⟩) 4 4] 22)).cell 2).trans (show _ = some (.slice AV nV cV) from rfl)
    clear y3 s3 l3 i3 n3 hb3 hb13 hba
    refine hK.out _ _ (by (first | exact KS.out _ (by assumption) | (simp only [Act.put]; exact KS.out _ (by assumption)))) (fun hHeld => ?_)
    clear hK K
    (try simp only [Act.put, List.setIfInBounds_toArray, List.set_cons_zero, List.set_cons_succ])
    refine wpAnyH_ready (rs := [1, 6]) (by kernel_rfl) (by simp) ?_
    refine AllReadyH.cons rfl (fun K hK => ?_) (AllReadyH.cons rfl (fun K hK => ?_) AllReadyH.nil)
    · go_simp
      refine hK.out _ _ (by (first | exact KS.out _ (by assumption) | (simp only [Act.put]; exact KS.out _ (by assumption)))) (fun hHeld => ?_)
      clear hK K
      (try simp only [Act.put, List.setIfInBounds_toArray, List.set_cons_zero, List.set_cons_succ])
      refine wpAnyH_ready (rs := [6]) (by kernel_rfl) (by simp) ?_
      refine AllReadyH.cons rfl (fun K hK => ?_) AllReadyH.nil
      go_simp
      refine hK.out _ _ (by (first | exact KS.out _ (by assumption) | (simp only [Act.put]; exact KS.out _ (by assumption)))) (fun hHeld => ?_)
      clear hK K
      (try simp only [Act.put, List.setIfInBounds_toArray, List.set_cons_zero, List.set_cons_succ])
      refine wpAnyH_ready (rs := [7]) (by kernel_rfl) (by simp) ?_
      refine AllReadyH.cons rfl (fun K hK => ?_) AllReadyH.nil
      refine step_appR w3 (some ⟨g3, 0, none⟩) 4 4 (by rfl) _ _ (by rfl) W4.heap.size _ vs (by rfl) (by rfl) HX3.out.2.1 HVL.out HX3.out.2.2.2.2.1 ?_
      intro v5 w5 hg5
      obtain ⟨hq5, hj5, hk5⟩ := NodesJ.push (x := (a, m)) (H := H) HOB.out HX3.out.1 HX3.out.2.1 HX3.out.2.2.1 HX3.out.2.2.2.1 HG3.out.1 (by decide) (by decide) HG3.out.2.1 HG3.out.2.2.1 HG3.out.2.2.2 hg5
      obtain ⟨A5, n5, c5, rfl, hn5, _⟩ := ownR_shape hg5.own
      have kk5 : W4.grownBy w5 (some ob) ∧ KeepG W1 w5 := ⟨grownBy_new HX3.out.2.2.2.1 hg5.grown fun k hk => (World.ownsRow.lt HX3.out.2.1 k hk).1, (KeepG.of HX3.out.2.2.2.2.2).trans (KeepG.grew hg5 HX3.out.2.1)⟩
      have kk6 : W4.grownBy (w5.setCell ⟨ob, 2, none⟩ (.slice A5 n5 c5)) (some ob) ∧ KeepG W1 (w5.setCell ⟨ob, 2, none⟩ (.slice A5 n5 c5)) := ⟨grownBy_trans kk5.1 blk_grown, (KeepG.of HX3.out.2.2.2.2.2).trans hk5⟩
      have e2 := (hq5.cell 2).trans (show _ = some (.slice AV nV cV) from rfl)
      have z2 := hq5.frozen 2
      have HFIN := Lib.hid (And.intro hj5 (HKG.out.trans kk6.2))
      clear hj5 hk5 hq5 hg5 hn5
      refine hK.out _ _ (by (first | exact KS.out _ (by assumption) | (simp only [Act.put]; exact KS.out _ (by assumption)))) (fun hHeld => ?_)
      clear hK K
      (try simp only [Act.put, List.setIfInBounds_toArray, List.set_cons_zero, List.set_cons_succ])
      refine wpAnyH_ready (rs := [8]) (by kernel_rfl) (by simp) ?_
      refine AllReadyH.cons rfl (fun K hK => ?_) AllReadyH.nil
      go_simp
      refine hK.out _ _ (by (first | exact KS.out _ (by assumption) | (simp only [Act.put]; exact KS.out _ (by assumption)))) (fun hHeld => ?_)
      clear hK K
      (try simp only [Act.put, List.setIfInBounds_toArray, List.set_cons_zero, List.set_cons_succ])
      refine wpAnyH_ready (rs := [9]) (by kernel_rfl) (by simp) ?_
      refine AllReadyH.cons rfl (fun K hK => ?_) AllReadyH.nil
      go_simp
      refine hK.out _ _ (by (first | exact KS.out _ (by assumption) | (simp only [Act.put]; exact KS.out _ (by assumption)))) (fun hHeld => ?_)
      clear hK K
      (try simp only [Act.put, List.setIfInBounds_toArray, List.set_cons_zero, List.set_cons_succ])
      refine wpAnyH_done (by kernel_rfl) ?_ _
      go_wp2
      go_end0
      exact ⟨⟨_, rfl⟩, HFIN.out.1, HFIN.out.2⟩
    · go_simp
      refine hK.out _ _ (by (first | exact KS.out _ (by assumption) | (simp only [Act.put]; exact KS.out _ (by assumption)))) (fun hHeld => ?_)
      clear hK K
      (try simp only [Act.put, List.setIfInBounds_toArray, List.set_cons_zero, List.set_cons_succ])
      refine wpAnyH_ready (rs := [1]) (by kernel_rfl) (by simp) ?_
      refine AllReadyH.cons rfl (fun K hK => ?_) AllReadyH.nil
      go_simp
      refine hK.out _ _ (by (first | exact KS.out _ (by assumption) | (simp only [Act.put]; exact KS.out _ (by assumption)))) (fun hHeld => ?_)
      clear hK K
      (try simp only [Act.put, List.setIfInBounds_toArray, List.set_cons_zero, List.set_cons_succ])
      refine wpAnyH_ready (rs := [7]) (by kernel_rfl) (by simp) ?_
      refine AllReadyH.cons rfl (fun K hK => ?_) AllReadyH.nil
      refine step_appR w3 (some ⟨g3, 0, none⟩) 4 4 (by rfl) _ _ (by rfl) W4.heap.size _ vs (by rfl) (by rfl) HX3.out.2.1 HVL.out HX3.out.2.2.2.2.1 ?_
      intro v5 w5 hg5
      obtain ⟨hq5, hj5, hk5⟩ := NodesJ.push (x := (a, m)) (H := H) HOB.out HX3.out.1 HX3.out.2.1 HX3.out.2.2.1 HX3.out.2.2.2.1 HG3.out.1 (by decide) (by decide) HG3.out.2.1 HG3.out.2.2.1 HG3.out.2.2.2 hg5
      obtain ⟨A5, n5, c5, rfl, hn5, _⟩ := ownR_shape hg5.own
      have kk5 : W4.grownBy w5 (some ob) ∧ KeepG W1 w5 := ⟨grownBy_new HX3.out.2.2.2.1 hg5.grown fun k hk => (World.ownsRow.lt HX3.out.2.1 k hk).1, (KeepG.of HX3.out.2.2.2.2.2).trans (KeepG.grew hg5 HX3.out.2.1)⟩
      have kk6 : W4.grownBy (w5.setCell ⟨ob, 2, none⟩ (.slice A5 n5 c5)) (some ob) ∧ KeepG W1 (w5.setCell ⟨ob, 2, none⟩ (.slice A5 n5 c5)) := ⟨grownBy_trans kk5.1 blk_grown, (KeepG.of HX3.out.2.2.2.2.2).trans hk5⟩
      have e2 := (hq5.cell 2).trans (show _ = some (.slice AV nV cV) from rfl)
      have z2 := hq5.frozen 2
      have HFIN := Lib.hid (And.intro hj5 (HKG.out.trans kk6.2))
      clear hj5 hk5 hq5 hg5 hn5
      refine hK.out _ _ (by (first | exact KS.out _ (by assumption) | (simp only [Act.put]; exact KS.out _ (by assumption)))) (fun hHeld => ?_)
      clear hK K
      (try simp only [Act.put, List.setIfInBounds_toArray, List.set_cons_zero, List.set_cons_succ])
      refine wpAnyH_ready (rs := [8]) (by kernel_rfl) (by simp) ?_
      refine AllReadyH.cons rfl (fun K hK => ?_) AllReadyH.nil
      go_simp
      refine hK.out _ _ (by (first | exact KS.out _ (by assumption) | (simp only [Act.put]; exact KS.out _ (by assumption)))) (fun hHeld => ?_)
      clear hK K
      (try simp only [Act.put, List.setIfInBounds_toArray, List.set_cons_zero, List.set_cons_succ])
      refine wpAnyH_ready (rs := [9]) (by kernel_rfl) (by simp) ?_
      refine AllReadyH.cons rfl (fun K hK => ?_) AllReadyH.nil
      go_simp
      refine hK.out _ _ (by (first | exact KS.out _ (by assumption) | (simp only [Act.put]; exact KS.out _ (by assumption)))) (fun hHeld => ?_)
      clear hK K
      (try simp only [Act.put, List.setIfInBounds_toArray, List.set_cons_zero, List.set_cons_succ])
      refine wpAnyH_done (by kernel_rfl) ?_ _
      go_wp2
      go_end0
      exact ⟨⟨_, rfl⟩, HFIN.out.1, HFIN.out.2⟩
end Go.Proofs.YtonalbdehcmjmaaGreat
