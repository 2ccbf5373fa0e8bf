/- A bundle of texts: Eq, Sw5, Ni, Cg, As, Ck5, Ck6, Ck7. -/
import Derived.Test.YtflkiddmakeabaaGreatDoorQ03
import Derived.Test.YtflkiddmakeabaaGreatDoorQ09
import Derived.Test.YtflkiddmakeabaaGreatDoorQ11
import Derived.Test.YtflkiddmakeabaaGreatDoorQ05
import Derived.Test.YtflkiddmakeabaaGreatDoorQ01
/- slices.Equal, of two lists of ints, wherever they lie. -/
set_option linter.unusedVariables false
namespace Go.Proofs.YtflkiddmakeabaaGreatDoor
open Go.RowKit
def EqualRel (xs ys : List Int) (w : World) (i : Value) (wr : World) : Prop := ∃ k : Nat, k ≤ xs.length ∧ i = vi k ∧ xs.take k = ys.take k ∧ ∃ j, wr = w.drewN j

set_option maxHeartbeats 1000000 in
theorem equal_any (A B : Option Addr) (c d : Nat) (xs ys : List Int) (hx : xs.length ≤ 9223372036854775807) (hy : ys.length ≤ 9223372036854775807) (w : World) (hsx : SL w A xs) (hsy : SL w B ys) :
    Calls Tryz.prog 77 #[.slice A xs.length c, .slice B ys.length d] w fun e w' => e = .returned (.bool (eqB xs ys)) ∧ ∃ k, w' = w.drewN k := by
  obtain ⟨n, hn⟩ : ∃ n, n = xs.length := ⟨_, rfl⟩
  obtain ⟨m, hm⟩ : ∃ m, m = ys.length := ⟨_, rfl⟩
  rw [← hn, ← hm]
  rw [← hn] at hx
  rw [← hm] at hy
  have HN := Lib.hid hn
  have HM := Lib.hid hm
  clear hn hm
  by_cases hnm : n = m
  · have t1 : ((n : Int) != (m : Int)) = false := by rw [bne_eq_false_iff_eq]; omega
    have HNM := Lib.hid hnm
    clear hnm
    go_enter Tryz.func77, Tryz.ntmps77
    go_wp2
    go_loopw [13] (fun i wr => EqualRel xs ys w i wr) (fun i _ => n - (intOf i).toNat)
    case atStart => exact ⟨0, Nat.zero_le _, rfl, by simp, 0, rfl⟩
    case round =>
      obtain ⟨k, hk, rfl, heq, j, rfl⟩ := hrel
      rw [← HN.out] at hk
      have HEQ := Lib.hid heq
      clear heq
      by_cases hlt : k < n
      · have hkm : k < m := by rw [← HNM.out]; exact hlt
        have hkx : k < xs.length := by rw [← HN.out]; exact hlt
        have hky : k < ys.length := by rw [← HM.out]; exact hkm
        obtain ⟨ad, rfl, _, hc1⟩ := (hsx.drewN j).at_ hkx
        obtain ⟨bd, rfl, _, hc2⟩ := (hsy.drewN j).at_ hky
        have i1 : (0 : Int) ≤ k := by omega
        have i2 : (k : Int) < n := by omega
        have i3 : (k : Int) < m := by omega
        have htk : xs.take (k + 1) = xs.take k ++ [xs[k]] := List.take_succ_eq_append_getElem hkx
        have hty : ys.take (k + 1) = ys.take k ++ [ys[k]] := List.take_succ_eq_append_getElem hky
        obtain ⟨x, hxk⟩ : ∃ x, x = xs[k] := ⟨_, rfl⟩
        obtain ⟨y, hyk⟩ : ∃ y, y = ys[k] := ⟨_, rfl⟩
        rw [← hxk] at hc1 htk
        rw [← hyk] at hc2 hty
        rw [World.cell?_drewN] at hc1 hc2
        by_cases hxy : x = y
        · have t2 : (x != y) = false := by rw [hxy]; simp
          have h2 : xs.take (k + 1) = ys.take (k + 1) := by rw [htk, hty, HEQ.out, hxy]
          have H2 := Lib.hid h2
          clear h2 hxy htk hty hxk hyk
          go_wp2
          go_quiet (fail)
          go_wp2
          go_roundw
          case rel => exact ⟨k + 1, by rw [← HN.out]; omega, by go_num, H2.out, _, rfl⟩
          case measure => simp [intOf]; omega
        · have t2 : (x != y) = true := by rw [bne_iff_ne]; exact hxy
          have h2 : eqB xs ys = false := eqB_false fun e => by
            subst e
            exact hxy (by rw [hxk, hyk])
          have H2 := Lib.hid h2
          clear h2 hxy htk hty hxk hyk
          go_wp2
          go_quiet (fail)
          go_wp2
          go_ret
          exact ⟨ret_bool H2.out.symm, _, World.drewN_drewN _ _ _⟩
      · obtain rfl : k = n := by omega
        have h2 : eqB xs ys = true := eqB_true (by
          have := HEQ.out
          rwa [List.take_of_length_le (by rw [← HN.out]; exact Nat.le_refl _), List.take_of_length_le (by rw [← HM.out, ← HNM.out]; exact Nat.le_refl _)] at this)
        have H2 := Lib.hid h2
        clear h2
        go_wp2
        go_ret
        exact ⟨ret_bool H2.out.symm, _, rfl⟩
  · have t1 : ((n : Int) != (m : Int)) = true := by rw [bne_iff_ne]; omega
    have h2 : eqB xs ys = false := eqB_false fun e => hnm (by rw [HN.out, HM.out, e])
    have H2 := Lib.hid h2
    clear h2 hnm
    go_enter Tryz.func77, Tryz.ntmps77
    go_wp2
    go_ret
    exact ⟨ret_bool H2.out.symm, 0, rfl⟩
end Go.Proofs.YtflkiddmakeabaaGreatDoor

/- The walk of round.shown. -/
set_option linter.unusedVariables false
namespace Go.Proofs.YtflkiddmakeabaaGreatDoor
open Go.RowKit Zp
theorem not_any_two (rs : List (List Int)) : (!rs.any fun x => decide (x.length ≠ 2)) = rs.all fun x => decide (x.length = 2) := by
  induction rs with
  | nil => rfl
  | cons a rs ih =>
    rw [List.any_cons, List.all_cons, Bool.not_or, ih]
    congr 1
    by_cases h : a.length = 2 <;> simp [h]
theorem compact_le (l : List Int) : (Go.Lib.compact l).length ≤ l.length := by
  unfold Go.Lib.compact Go.Lib.compactUpTo
  rw [List.length_map]
  exact Nat.le_trans (List.length_filter_le _ _) (by simp)
theorem turned_below {base : Nat} {v u : Value} {l xs : List Int} {w0 w w' : World} (h : Turned base v u l w w') (ho : Own w base u xs) (hb : Below w0.heap.size w0 w) (hB : w0.heap.size ≤ base) : Below w0.heap.size w0 w' :=
  hb.grown h.2 hb.size (fun g hg => Nat.le_trans hB (ho.lt g hg).1)
set_option maxRecDepth 100000 in
set_option maxHeartbeats 4000000 in
theorem shown_any (p S b sg k z S2 D b2 : Nat) [NeZero p] (oo : Nat → Nat → Fin p) (n h : Nat) (hn : n = 2 * h) (hh : 1 ≤ h) (hnm : n ≤ 65536) (s : Fin p) (r : Int) (AT : Option Addr) (nT cT : Nat) (top : List Int) (hT : ArgW nT top)
    (AP : Option Addr) (nP cP : Nat) (places : List Int) (hlP : places.length = nP) (hP0 : ∀ x ∈ places, 0 ≤ x) (hPb : nP * 8 ≤ 140737488351232)
    {A0 : Option Addr} {n0 c0 : Nat} {AR : Option Addr} {nR cR : Nat} {AN : Option Addr} {nN cN : Nat} (o : OpnI) (w : World) (F : Fld w S b p) (G : Spg w sg b k z oo) (hD : Dom w S2 D b2 p n s) (sT : SL w AT top) (sP : SL w AP places) (hx : OpnAt w A0 n0 c0 o.l AR nR cR o.rs AN nN cN o.ns) :
    Calls Tryz.prog 35 #[.agg #[.pointer (some ⟨D, 0, none⟩), vi r, .slice A0 n0 c0, .slice AR nR cR, .slice AN nN cN], .pointer (some ⟨sg, 0, none⟩), .slice AT nT cT, .slice AP nP cP] w fun e w' => SaysW (.bool (showF p k o.l o.rs o.ns top (h : Int) (onceL (modL places h)))) w e w' := by
  obtain ⟨want, hwant⟩ : ∃ want, want = onceL (modL places h) := ⟨_, rfl⟩
  rw [← hwant]
  have HWT := Lib.hid hwant
  clear hwant
  have hb0 := below_of_eq (w := w) (o := .cells #[.pointer (some ⟨D, 0, none⟩), vi r, .slice A0 n0 c0, .slice AR nR cR, .slice AN nN cN] 75) rfl
  have hB4 := Blk.new w 75 #[.pointer (some ⟨D, 0, none⟩), vi r, .slice A0 n0 c0, .slice AR nR cR, .slice AN nN cN]
  obtain ⟨W, hW⟩ : ∃ W, W = w.alloc (.cells #[.pointer (some ⟨D, 0, none⟩), vi r, .slice A0 n0 c0, .slice AR nR cR, .slice AN nN cN] 75) := ⟨_, rfl⟩
  rw [← hW] at hb0 hB4
  have hgl := block_lt_of_cell G.c0
  have HW := Lib.hid hW
  have HX := Lib.hid hx
  have hq : wrap64 ((n : Int) / 2) = (h : Int) := by rw [IntWalk.wrap64_in _ (by omega)]; omega
  have HSZ := Lib.hid (size_any D n W ((hD.below hb0 hD.fld.le).c1))
  have HMO := Lib.hid (fmodulo_any AP nP cP places hlP hP0 hPb h hh (by omega) W (sP.below hb0))
  have HTC := Lib.hid (fun W' (hb : Below w.heap.size w W') => tcheck_w p S b sg k z oo AT nT cT top hT (h : Int) W' (F.below hb F.le) (G.below hb hgl) (sT.below hb) (hx.below hb))
  have HCF := Lib.hid (fun W' (hb : Below w.heap.size w W') => containsR_any 81 (enters_of Tryz.func81 (by kernel_rfl) rfl) (fun x => decide (x.length ≠ 2)) AR nR cR o.rs hx.lR (by have := hx.bR; omega) W' (fun A1 n1 c1 x hx hn _ => shown1_any A1 n1 c1 x hx hn W') (hx.tR.below hb))
  have HLP := Lib.hid (And.intro hlP hPb)
  have HB0 := Lib.hid hb0
  have HB4 := Lib.hid hB4
  have g0 := (hB4.cell 0).trans (show _ = some (.pointer (some ⟨D, 0, none⟩)) from rfl)
  clear hW hb0 hB4 hx hT F G hD sT sP hlP hP0 hPb hgl
  go_enter Tryz.func35, Tryz.ntmps35
  go_upto_region 1 with (fail)
  rw [← HW.out]
  go_wp2_with fail
  refine HSZ.out.mono ?_
  rintro _ _ ⟨rfl, rfl⟩
  go_wp2_with fail
  refine HMO.out.mono ?_
  rintro _ w2 ⟨v2, rfl, ho2, hb2⟩
  obtain ⟨A2, n2, c2, rfl, hl2, hc2, _, hs2⟩ := ho2.shapeN
  have hn2 : n2 ≤ 4000000000000000000 := by rw [← hl2, modL_len, HLP.out.1]; have := HLP.out.2; omega
  have HSO := Lib.hid (sort_any ho2 hl2 hn2)
  have HO2 := Lib.hid ho2
  have HB2 := Lib.hid (HB0.out.trans (hb2.mono HB0.out.size))
  have HB42 := Lib.hid (Blk.below HB4.out hb2 HB4.out.lt)
  have HL2 := Lib.hid (And.intro hl2 hn2)
  have HBS := Lib.hid (show w.heap.size < W.heap.size from HB4.out.lt)
  clear ho2 hb2 hl2 hc2 hs2 hn2 g0
  go_wp2_with fail
  refine HSO.out.mono ?_
  rintro _ w3 ⟨rfl, ht3⟩
  have hB3 : Blk w3 w.heap.size 75 #[.pointer (some ⟨D, 0, none⟩), vi r, .slice A0 n0 c0, .slice AR nR cR, .slice AN nN cN] := Blk.grown HB42.out ht3.2 (fun e => by have := (HO2.out.lt _ e.symm).1; have := HBS.out; omega)
  have HB3 := Lib.hid (turned_below ht3 HO2.out HB2.out (Nat.le_of_lt HBS.out))
  have HO3 := Lib.hid ht3.1
  have HB43 := Lib.hid hB3
  clear ht3 hB3
  have hml := compact_once (modL places h)
  rw [← HWT.out] at hml
  have hll : ((modL places h).mergeSort fun x y => decide (x ≤ y)).length = n2 := by rw [List.length_mergeSort, HL2.out.1]
  have HLL := Lib.hid hll
  have HML := Lib.hid hml
  have HCM : Hid (∀ q : Nat, Calls Tryz.prog 78 #[.slice A2 n2 c2] (w3.drewN q) fun e w' => e = .returned (.slice A2 want.length c2) ∧ SL w' A2 want ∧ Below w.heap.size w w' ∧ Blk w' w.heap.size 75 #[.pointer (some ⟨D, 0, none⟩), vi r, .slice A0 n0 c0, .slice AR nR cR, .slice AN nN cN]) := Lib.hid fun q => by
    have ho : Own (w3.drewN q) W.heap.size (.slice A2 n2 c2) ((modL places h).mergeSort fun x y => decide (x ≤ y)) := HO3.out
    refine (compact_any ho HLL.out HL2.out.2).mono ?_
    rintro e w' ⟨rfl, ht⟩
    rw [HML.out] at ht ⊢
    obtain ⟨A9, n9, c9, e9, hl9, _, _, hs9⟩ := ht.1.shapeN
    injection e9 with e1 e2 e3
    subst e1 e2 e3
    exact ⟨rfl, hs9, turned_below ht ho (below_drewN HB3.out q) (Nat.le_of_lt HBS.out), Blk.grown (show Blk (w3.drewN q) w.heap.size _ _ from HB43.out) ht.2 (fun e => by have := (ho.lt _ e.symm).1; have := HBS.out; omega)⟩
  have hwl : want.length ≤ n2 := by
    have := compact_le ((modL places h).mergeSort fun x y => decide (x ≤ y))
    rw [HML.out, HLL.out] at this
    exact this
  have HEQ : Hid (∀ W', SL W' A2 want → Below w.heap.size w W' → Calls Tryz.prog 77 #[.slice A0 n0 c0, .slice A2 want.length c2] W' fun e w' => e = .returned (.bool (eqB o.l want)) ∧ ∃ k, w' = W'.drewN k) := Lib.hid fun W' hs hb => by
    have h1 := equal_any A0 A2 c0 c2 o.l want (by rw [HX.out.l0]; have := HX.out.b0; omega) (by have := HL2.out.2; omega) W' (HX.out.s0.below hb) hs
    rw [HX.out.l0] at h1
    exact h1
  clear hml hll hwl
  have g2 := (HB43.out.cell 2).trans (show _ = some (.slice A0 n0 c0) from rfl)
  have g3 := (HB43.out.cell 3).trans (show _ = some (.slice AR nR cR) from rfl)
  have g4 := (HB43.out.cell 4).trans (show _ = some (.slice AN nN cN) from rfl)
  have HGG : Hid (∀ W', Blk W' w.heap.size 75 #[.pointer (some ⟨D, 0, none⟩), vi r, .slice A0 n0 c0, .slice AR nR cR, .slice AN nN cN] → W'.cell? ⟨w.heap.size, 2, none⟩ = some (.slice A0 n0 c0) ∧ W'.cell? ⟨w.heap.size, 3, none⟩ = some (.slice AR nR cR) ∧ W'.cell? ⟨w.heap.size, 4, none⟩ = some (.slice AN nN cN)) := Lib.hid fun W' h =>
    ⟨(h.cell 2).trans rfl, (h.cell 3).trans rfl, (h.cell 4).trans rfl⟩
  have KS : Hid (∀ W', Blk W' w.heap.size 75 #[.pointer (some ⟨D, 0, none⟩), vi r, .slice A0 n0 c0, .slice AR nR cR, .slice AN nN cN] → W'.cell? ⟨w.heap.size, 2, none⟩ = some (.slice A0 n0 c0) ∧ W'.cell? ⟨w.heap.size, 3, none⟩ = some (.slice AR nR cR) ∧ W'.cell? ⟨w.heap.size, 4, none⟩ = some (.slice AN nN cN)) := HGG
  have hBd : Blk (w3.drewN 1) w.heap.size 75 #[.pointer (some ⟨D, 0, none⟩), vi r, .slice A0 n0 c0, .slice AR nR cR, .slice AN nN cN] := HB43.out
  clear g2 g3 g4 HGG
  cases hE : eqB o.l want with
  | false =>
    rw [hE] at HEQ
    have HR : Hid (showF p k o.l o.rs o.ns top (h : Int) want = false) := Lib.hid (by unfold showF; rw [hE]; rfl)
    clear hE
    go_wp2_with fail
    refine wp_region_held_drew (S := fun W' => W'.cell? ⟨w.heap.size, 2, none⟩ = some (.slice A0 n0 c0) ∧ W'.cell? ⟨w.heap.size, 3, none⟩ = some (.slice AR nR cR) ∧ W'.cell? ⟨w.heap.size, 4, none⟩ = some (.slice AN nN cN)) (by kernel_rfl) (KS.out _ hBd) (fun hHeld => ?_)
    refine wpAnyH_take_at (i := 0) rfl rfl (by kernel_rfl) (by kernel_rfl) (by kernel_rfl) (fun _ _ _ h => h) (Or.inl ⟨by rfl, by (intro w hSw; (try dsimp only at hSw); go_simp; try with_reducible rfl)⟩) (by assumption) ?_
    (try simp only [Act.put, List.setIfInBounds_toArray, List.set_cons_zero, List.set_cons_succ])
    refine wpAnyH_take_at (i := 1) rfl rfl (by kernel_rfl) (by kernel_rfl) (by kernel_rfl) (fun _ _ _ h => h) (Or.inl ⟨by rfl, by (intro w hSw; (try dsimp only at hSw); go_simp; try with_reducible rfl)⟩) (by assumption) ?_
    (try simp only [Act.put, List.setIfInBounds_toArray, List.set_cons_zero, List.set_cons_succ])
    refine wpAnyH_take_at (i := 2) rfl rfl (by kernel_rfl) (by kernel_rfl) (by kernel_rfl) (fun _ _ _ h => h) (Or.inl ⟨by rfl, by (intro w hSw; (try dsimp only at hSw); go_simp; try with_reducible rfl)⟩) (by assumption) ?_
    (try simp only [Act.put, List.setIfInBounds_toArray, List.set_cons_zero, List.set_cons_succ])
    refine wpAnyH_take_at (i := 3) rfl rfl (by kernel_rfl) (by kernel_rfl) (by kernel_rfl) (fun _ _ _ h => h) (Or.inl ⟨by rfl, by (intro w hSw; (try dsimp only at hSw); go_simp; try with_reducible rfl)⟩) (by assumption) ?_
    (try simp only [Act.put, List.setIfInBounds_toArray, List.set_cons_zero, List.set_cons_succ])
    refine wpAnyH_ready (rs := [4]) (by kernel_rfl) (by simp) ?_
    refine AllReadyH.cons rfl (fun K hK => ?_) AllReadyH.nil
    go_simp
    refine (HCM.out 1).mono ?_
    rintro _ w4 ⟨rfl, hs4, hb4, hB4⟩
    refine hK.out _ _ (by (first | exact KS.out _ (by assumption) | (simp only [Act.put]; exact KS.out _ (by assumption)))) (fun hHeld => ?_)
    clear hK K
    (try simp only [Act.put, List.setIfInBounds_toArray, List.set_cons_zero, List.set_cons_succ])
    refine wpAnyH_ready (rs := [5]) (by kernel_rfl) (by simp) ?_
    refine AllReadyH.cons rfl (fun K hK => ?_) AllReadyH.nil
    go_simp
    refine (HEQ.out _ hs4 hb4).mono ?_
    rintro _ w5 ⟨rfl, kq, rfl⟩
    have hB5 : Blk (w4.drewN kq) w.heap.size 75 #[.pointer (some ⟨D, 0, none⟩), vi r, .slice A0 n0 c0, .slice AR nR cR, .slice AN nN cN] := hB4
    refine hK.out _ _ (by (first | exact KS.out _ (by assumption) | (simp only [Act.put]; exact KS.out _ (by assumption)))) (fun hHeld => ?_)
    clear hK K
    (try simp only [Act.put, List.setIfInBounds_toArray, List.set_cons_zero, List.set_cons_succ])
    refine wpAnyH_take_at (i := 6) rfl rfl (by kernel_rfl) (by kernel_rfl) (by kernel_rfl) (fun _ _ _ h => h) (Or.inl ⟨by rfl, by (intro w hSw; (try dsimp only at hSw); go_simp; try with_reducible rfl)⟩) (by assumption) ?_
    (try simp only [Act.put, List.setIfInBounds_toArray, List.set_cons_zero, List.set_cons_succ])
    refine wpAnyH_take_at (i := 7) rfl rfl (by kernel_rfl) (by kernel_rfl) (by kernel_rfl) (fun _ _ _ h => h) (Or.inr ⟨by rfl, rfl⟩) (by assumption) ?_
    (try simp only [Act.put, List.setIfInBounds_toArray, List.set_cons_zero, List.set_cons_succ])
    refine wpAnyH_take_at (i := 8) rfl rfl (by kernel_rfl) (by kernel_rfl) (by kernel_rfl) (fun _ _ _ h => h) (Or.inr ⟨by rfl, rfl⟩) (by assumption) ?_
    (try simp only [Act.put, List.setIfInBounds_toArray, List.set_cons_zero, List.set_cons_succ])
    refine wpAnyH_take_at (i := 9) rfl rfl (by kernel_rfl) (by kernel_rfl) (by kernel_rfl) (fun _ _ _ h => h) (Or.inr ⟨by rfl, rfl⟩) (by assumption) ?_
    (try simp only [Act.put, List.setIfInBounds_toArray, List.set_cons_zero, List.set_cons_succ])
    refine wpAnyH_take_at (i := 10) rfl rfl (by kernel_rfl) (by kernel_rfl) (by kernel_rfl) (fun _ _ _ h => h) (Or.inr ⟨by rfl, rfl⟩) (by assumption) ?_
    (try simp only [Act.put, List.setIfInBounds_toArray, List.set_cons_zero, List.set_cons_succ])
    refine wpAnyH_take_at (i := 11) rfl rfl (by kernel_rfl) (by kernel_rfl) (by kernel_rfl) (fun _ _ _ h => h) (Or.inr ⟨by rfl, rfl⟩) (by assumption) ?_
    (try simp only [Act.put, List.setIfInBounds_toArray, List.set_cons_zero, List.set_cons_succ])
    refine wpAnyH_take_at (i := 12) rfl rfl (by kernel_rfl) (by kernel_rfl) (by kernel_rfl) (fun _ _ _ h => h) (Or.inr ⟨by rfl, rfl⟩) (by assumption) ?_
    (try simp only [Act.put, List.setIfInBounds_toArray, List.set_cons_zero, List.set_cons_succ])
    refine wpAnyH_take_at (i := 13) rfl rfl (by kernel_rfl) (by kernel_rfl) (by kernel_rfl) (fun _ _ _ h => h) (Or.inl ⟨by rfl, by (intro w hSw; (try dsimp only at hSw); go_simp; try with_reducible rfl)⟩) (by assumption) ?_
    (try simp only [Act.put, List.setIfInBounds_toArray, List.set_cons_zero, List.set_cons_succ])
    refine wpAnyH_take_at (i := 14) rfl rfl (by kernel_rfl) (by kernel_rfl) (by kernel_rfl) (fun _ _ _ h => h) (Or.inl ⟨by rfl, by (intro w hSw; (try dsimp only at hSw); go_simp; try with_reducible rfl)⟩) (by assumption) ?_
    (try simp only [Act.put, List.setIfInBounds_toArray, List.set_cons_zero, List.set_cons_succ])
    refine wpAnyH_take_at (i := 15) rfl rfl (by kernel_rfl) (by kernel_rfl) (by kernel_rfl) (fun _ _ _ h => h) (Or.inr ⟨by rfl, rfl⟩) (by assumption) ?_
    (try simp only [Act.put, List.setIfInBounds_toArray, List.set_cons_zero, List.set_cons_succ])
    refine wpAnyH_take_at (i := 16) rfl rfl (by kernel_rfl) (by kernel_rfl) (by kernel_rfl) (fun _ _ _ h => h) (Or.inr ⟨by rfl, rfl⟩) (by assumption) ?_
    (try simp only [Act.put, List.setIfInBounds_toArray, List.set_cons_zero, List.set_cons_succ])
    refine wpAnyH_take_at (i := 17) rfl rfl (by kernel_rfl) (by kernel_rfl) (by kernel_rfl) (fun _ _ _ h => h) (Or.inr ⟨by rfl, rfl⟩) (by assumption) ?_
    (try simp only [Act.put, List.setIfInBounds_toArray, List.set_cons_zero, List.set_cons_succ])
    refine wpAnyH_take_at (i := 18) rfl rfl (by kernel_rfl) (by kernel_rfl) (by kernel_rfl) (fun _ _ _ h => h) (Or.inr ⟨by rfl, rfl⟩) (by assumption) ?_
    (try simp only [Act.put, List.setIfInBounds_toArray, List.set_cons_zero, List.set_cons_succ])
    refine wpAnyH_take_at (i := 19) rfl rfl (by kernel_rfl) (by kernel_rfl) (by kernel_rfl) (fun _ _ _ h => h) (Or.inr ⟨by rfl, rfl⟩) (by assumption) ?_
    (try simp only [Act.put, List.setIfInBounds_toArray, List.set_cons_zero, List.set_cons_succ])
    refine wpAnyH_take_at (i := 20) rfl rfl (by kernel_rfl) (by kernel_rfl) (by kernel_rfl) (fun _ _ _ h => h) (Or.inl ⟨by rfl, by (intro w hSw; (try dsimp only at hSw); go_simp; try with_reducible rfl)⟩) (by assumption) ?_
    (try simp only [Act.put, List.setIfInBounds_toArray, List.set_cons_zero, List.set_cons_succ])
    refine wpAnyH_ready (rs := [21]) (by kernel_rfl) (by simp) ?_
    refine AllReadyH.cons rfl (fun K hK => ?_) AllReadyH.nil
    go_simp
    refine hK.out _ _ (KS.out _ hB5) (fun hHeld => ?_)
    clear hK K
    (try simp only [Act.put, List.setIfInBounds_toArray, List.set_cons_zero, List.set_cons_succ])
    refine wpAnyH_done (by kernel_rfl) ?_ _
    clear hHeld KS
    go_wp2
    go_ret
    exact ⟨ret_bool HR.out.symm, below_drewN hb4 _⟩
  | true =>
    rw [hE] at HEQ
    obtain ⟨tk, htk⟩ : ∃ tk, tk = takenB p k o.l o.rs o.ns top (h : Int) := ⟨_, rfl⟩
    rw [← htk] at HTC
    obtain ⟨cf, hcf⟩ : ∃ cf, cf = o.rs.any fun x => decide (x.length ≠ 2) := ⟨_, rfl⟩
    rw [← hcf] at HCF
    have HR : Hid (showF p k o.l o.rs o.ns top (h : Int) want = (!cf && tk)) := Lib.hid (by unfold showF; rw [hE, htk, hcf, not_any_two]; rfl)
    clear hE htk hcf
    cases tk with
    | false =>
      go_wp2_with fail
      refine wp_region_held_drew (S := fun W' => W'.cell? ⟨w.heap.size, 2, none⟩ = some (.slice A0 n0 c0) ∧ W'.cell? ⟨w.heap.size, 3, none⟩ = some (.slice AR nR cR) ∧ W'.cell? ⟨w.heap.size, 4, none⟩ = some (.slice AN nN cN)) (by kernel_rfl) (KS.out _ hBd) (fun hHeld => ?_)
      refine wpAnyH_take_at (i := 0) rfl rfl (by kernel_rfl) (by kernel_rfl) (by kernel_rfl) (fun _ _ _ h => h) (Or.inl ⟨by rfl, by (intro w hSw; (try dsimp only at hSw); go_simp; try with_reducible rfl)⟩) (by assumption) ?_
      (try simp only [Act.put, List.setIfInBounds_toArray, List.set_cons_zero, List.set_cons_succ])
      refine wpAnyH_take_at (i := 1) rfl rfl (by kernel_rfl) (by kernel_rfl) (by kernel_rfl) (fun _ _ _ h => h) (Or.inl ⟨by rfl, by (intro w hSw; (try dsimp only at hSw); go_simp; try with_reducible rfl)⟩) (by assumption) ?_
      (try simp only [Act.put, List.setIfInBounds_toArray, List.set_cons_zero, List.set_cons_succ])
      refine wpAnyH_take_at (i := 2) rfl rfl (by kernel_rfl) (by kernel_rfl) (by kernel_rfl) (fun _ _ _ h => h) (Or.inl ⟨by rfl, by (intro w hSw; (try dsimp only at hSw); go_simp; try with_reducible rfl)⟩) (by assumption) ?_
      (try simp only [Act.put, List.setIfInBounds_toArray, List.set_cons_zero, List.set_cons_succ])
      refine wpAnyH_take_at (i := 3) rfl rfl (by kernel_rfl) (by kernel_rfl) (by kernel_rfl) (fun _ _ _ h => h) (Or.inl ⟨by rfl, by (intro w hSw; (try dsimp only at hSw); go_simp; try with_reducible rfl)⟩) (by assumption) ?_
      (try simp only [Act.put, List.setIfInBounds_toArray, List.set_cons_zero, List.set_cons_succ])
      refine wpAnyH_ready (rs := [4]) (by kernel_rfl) (by simp) ?_
      refine AllReadyH.cons rfl (fun K hK => ?_) AllReadyH.nil
      go_simp
      refine (HCM.out 1).mono ?_
      rintro _ w4 ⟨rfl, hs4, hb4, hB4⟩
      refine hK.out _ _ (by (first | exact KS.out _ (by assumption) | (simp only [Act.put]; exact KS.out _ (by assumption)))) (fun hHeld => ?_)
      clear hK K
      (try simp only [Act.put, List.setIfInBounds_toArray, List.set_cons_zero, List.set_cons_succ])
      refine wpAnyH_ready (rs := [5]) (by kernel_rfl) (by simp) ?_
      refine AllReadyH.cons rfl (fun K hK => ?_) AllReadyH.nil
      go_simp
      refine (HEQ.out _ hs4 hb4).mono ?_
      rintro _ w5 ⟨rfl, kq, rfl⟩
      have hB5 : Blk (w4.drewN kq) w.heap.size 75 #[.pointer (some ⟨D, 0, none⟩), vi r, .slice A0 n0 c0, .slice AR nR cR, .slice AN nN cN] := hB4
      refine hK.out _ _ (by (first | exact KS.out _ (by assumption) | (simp only [Act.put]; exact KS.out _ (by assumption)))) (fun hHeld => ?_)
      clear hK K
      (try simp only [Act.put, List.setIfInBounds_toArray, List.set_cons_zero, List.set_cons_succ])
      refine wpAnyH_take_at (i := 6) rfl rfl (by kernel_rfl) (by kernel_rfl) (by kernel_rfl) (fun _ _ _ h => h) (Or.inl ⟨by rfl, by (intro w hSw; (try dsimp only at hSw); go_simp; try with_reducible rfl)⟩) (by assumption) ?_
      (try simp only [Act.put, List.setIfInBounds_toArray, List.set_cons_zero, List.set_cons_succ])
      refine wpAnyH_take_at (i := 7) rfl rfl (by kernel_rfl) (by kernel_rfl) (by kernel_rfl) (fun _ _ _ h => h) (Or.inl ⟨by rfl, by (intro w hSw; (try dsimp only at hSw); go_simp; try with_reducible rfl)⟩) (by assumption) ?_
      (try simp only [Act.put, List.setIfInBounds_toArray, List.set_cons_zero, List.set_cons_succ])
      refine wpAnyH_take_at (i := 8) rfl rfl (by kernel_rfl) (by kernel_rfl) (by kernel_rfl) (fun _ _ _ h => h) (Or.inl ⟨by rfl, by (intro w hSw; (try dsimp only at hSw); go_simp; try with_reducible rfl)⟩) (by assumption) ?_
      (try simp only [Act.put, List.setIfInBounds_toArray, List.set_cons_zero, List.set_cons_succ])
      refine wpAnyH_take_at (i := 9) rfl rfl (by kernel_rfl) (by kernel_rfl) (by kernel_rfl) (fun _ _ _ h => h) (Or.inl ⟨by rfl, by (intro w hSw; (try dsimp only at hSw); go_simp; try with_reducible rfl)⟩) (by assumption) ?_
      (try simp only [Act.put, List.setIfInBounds_toArray, List.set_cons_zero, List.set_cons_succ])
      refine wpAnyH_take_at (i := 10) rfl rfl (by kernel_rfl) (by kernel_rfl) (by kernel_rfl) (fun _ _ _ h => h) (Or.inl ⟨by rfl, by (intro w hSw; (try dsimp only at hSw); go_simp; try with_reducible rfl)⟩) (by assumption) ?_
      (try simp only [Act.put, List.setIfInBounds_toArray, List.set_cons_zero, List.set_cons_succ])
      refine wpAnyH_take_at (i := 11) rfl rfl (by kernel_rfl) (by kernel_rfl) (by kernel_rfl) (fun _ _ _ h => h) (Or.inl ⟨by rfl, by (intro w hSw; (try dsimp only at hSw); go_simp; try with_reducible rfl)⟩) (by assumption) ?_
      (try simp only [Act.put, List.setIfInBounds_toArray, List.set_cons_zero, List.set_cons_succ])
      refine wpAnyH_ready (rs := [12]) (by kernel_rfl) (by simp) ?_
      refine AllReadyH.cons rfl (fun K hK => ?_) AllReadyH.nil
      go_simp
      refine (HTC.out _ (below_drewN hb4 _)).mono ?_
      rintro _ w6 ⟨rfl, hb6⟩
      have hb46 := (below_drewN hb4 kq).trans (hb6.mono (below_drewN hb4 kq).size)
      have hB6 := Blk.below hB5 hb6 hB5.lt
      refine hK.out _ _ (by (first | exact KS.out _ (by assumption) | (simp only [Act.put]; exact KS.out _ (by assumption)))) (fun hHeld => ?_)
      clear hK K
      (try simp only [Act.put, List.setIfInBounds_toArray, List.set_cons_zero, List.set_cons_succ])
      refine wpAnyH_take_at (i := 13) rfl rfl (by kernel_rfl) (by kernel_rfl) (by kernel_rfl) (fun _ _ _ h => h) (Or.inl ⟨by rfl, by (intro w hSw; (try dsimp only at hSw); go_simp; try with_reducible rfl)⟩) (by assumption) ?_
      (try simp only [Act.put, List.setIfInBounds_toArray, List.set_cons_zero, List.set_cons_succ])
      refine wpAnyH_take_at (i := 14) rfl rfl (by kernel_rfl) (by kernel_rfl) (by kernel_rfl) (fun _ _ _ h => h) (Or.inl ⟨by rfl, by (intro w hSw; (try dsimp only at hSw); go_simp; try with_reducible rfl)⟩) (by assumption) ?_
      (try simp only [Act.put, List.setIfInBounds_toArray, List.set_cons_zero, List.set_cons_succ])
      refine wpAnyH_take_at (i := 15) rfl rfl (by kernel_rfl) (by kernel_rfl) (by kernel_rfl) (fun _ _ _ h => h) (Or.inr ⟨by rfl, rfl⟩) (by assumption) ?_
      (try simp only [Act.put, List.setIfInBounds_toArray, List.set_cons_zero, List.set_cons_succ])
      refine wpAnyH_take_at (i := 16) rfl rfl (by kernel_rfl) (by kernel_rfl) (by kernel_rfl) (fun _ _ _ h => h) (Or.inr ⟨by rfl, rfl⟩) (by assumption) ?_
      (try simp only [Act.put, List.setIfInBounds_toArray, List.set_cons_zero, List.set_cons_succ])
      refine wpAnyH_take_at (i := 17) rfl rfl (by kernel_rfl) (by kernel_rfl) (by kernel_rfl) (fun _ _ _ h => h) (Or.inr ⟨by rfl, rfl⟩) (by assumption) ?_
      (try simp only [Act.put, List.setIfInBounds_toArray, List.set_cons_zero, List.set_cons_succ])
      refine wpAnyH_take_at (i := 18) rfl rfl (by kernel_rfl) (by kernel_rfl) (by kernel_rfl) (fun _ _ _ h => h) (Or.inr ⟨by rfl, rfl⟩) (by assumption) ?_
      (try simp only [Act.put, List.setIfInBounds_toArray, List.set_cons_zero, List.set_cons_succ])
      refine wpAnyH_take_at (i := 19) rfl rfl (by kernel_rfl) (by kernel_rfl) (by kernel_rfl) (fun _ _ _ h => h) (Or.inr ⟨by rfl, rfl⟩) (by assumption) ?_
      (try simp only [Act.put, List.setIfInBounds_toArray, List.set_cons_zero, List.set_cons_succ])
      refine wpAnyH_take_at (i := 20) rfl rfl (by kernel_rfl) (by kernel_rfl) (by kernel_rfl) (fun _ _ _ h => h) (Or.inl ⟨by rfl, by (intro w hSw; (try dsimp only at hSw); go_simp; try with_reducible rfl)⟩) (by assumption) ?_
      (try simp only [Act.put, List.setIfInBounds_toArray, List.set_cons_zero, List.set_cons_succ])
      refine wpAnyH_ready (rs := [21]) (by kernel_rfl) (by simp) ?_
      refine AllReadyH.cons rfl (fun K hK => ?_) AllReadyH.nil
      go_simp
      refine hK.out _ _ (KS.out _ hB6) (fun hHeld => ?_)
      clear hK K
      (try simp only [Act.put, List.setIfInBounds_toArray, List.set_cons_zero, List.set_cons_succ])
      refine wpAnyH_done (by kernel_rfl) ?_ _
      clear hHeld KS
      go_wp2
      go_ret
      exact ⟨ret_bool (by rw [HR.out]; simp), hb46⟩
    | true =>
      go_wp2_with fail
      refine wp_region_held_drew (S := fun W' => W'.cell? ⟨w.heap.size, 2, none⟩ = some (.slice A0 n0 c0) ∧ W'.cell? ⟨w.heap.size, 3, none⟩ = some (.slice AR nR cR) ∧ W'.cell? ⟨w.heap.size, 4, none⟩ = some (.slice AN nN cN)) (by kernel_rfl) (KS.out _ hBd) (fun hHeld => ?_)
      refine wpAnyH_take_at (i := 0) rfl rfl (by kernel_rfl) (by kernel_rfl) (by kernel_rfl) (fun _ _ _ h => h) (Or.inl ⟨by rfl, by (intro w hSw; (try dsimp only at hSw); go_simp; try with_reducible rfl)⟩) (by assumption) ?_
      (try simp only [Act.put, List.setIfInBounds_toArray, List.set_cons_zero, List.set_cons_succ])
      refine wpAnyH_take_at (i := 1) rfl rfl (by kernel_rfl) (by kernel_rfl) (by kernel_rfl) (fun _ _ _ h => h) (Or.inl ⟨by rfl, by (intro w hSw; (try dsimp only at hSw); go_simp; try with_reducible rfl)⟩) (by assumption) ?_
      (try simp only [Act.put, List.setIfInBounds_toArray, List.set_cons_zero, List.set_cons_succ])
      refine wpAnyH_take_at (i := 2) rfl rfl (by kernel_rfl) (by kernel_rfl) (by kernel_rfl) (fun _ _ _ h => h) (Or.inl ⟨by rfl, by (intro w hSw; (try dsimp only at hSw); go_simp; try with_reducible rfl)⟩) (by assumption) ?_
      (try simp only [Act.put, List.setIfInBounds_toArray, List.set_cons_zero, List.set_cons_succ])
      refine wpAnyH_take_at (i := 3) rfl rfl (by kernel_rfl) (by kernel_rfl) (by kernel_rfl) (fun _ _ _ h => h) (Or.inl ⟨by rfl, by (intro w hSw; (try dsimp only at hSw); go_simp; try with_reducible rfl)⟩) (by assumption) ?_
      (try simp only [Act.put, List.setIfInBounds_toArray, List.set_cons_zero, List.set_cons_succ])
      refine wpAnyH_ready (rs := [4]) (by kernel_rfl) (by simp) ?_
      refine AllReadyH.cons rfl (fun K hK => ?_) AllReadyH.nil
      go_simp
      refine (HCM.out 1).mono ?_
      rintro _ w4 ⟨rfl, hs4, hb4, hB4⟩
      refine hK.out _ _ (by (first | exact KS.out _ (by assumption) | (simp only [Act.put]; exact KS.out _ (by assumption)))) (fun hHeld => ?_)
      clear hK K
      (try simp only [Act.put, List.setIfInBounds_toArray, List.set_cons_zero, List.set_cons_succ])
      refine wpAnyH_ready (rs := [5]) (by kernel_rfl) (by simp) ?_
      refine AllReadyH.cons rfl (fun K hK => ?_) AllReadyH.nil
      go_simp
      refine (HEQ.out _ hs4 hb4).mono ?_
      rintro _ w5 ⟨rfl, kq, rfl⟩
      have hB5 : Blk (w4.drewN kq) w.heap.size 75 #[.pointer (some ⟨D, 0, none⟩), vi r, .slice A0 n0 c0, .slice AR nR cR, .slice AN nN cN] := hB4
      refine hK.out _ _ (by (first | exact KS.out _ (by assumption) | (simp only [Act.put]; exact KS.out _ (by assumption)))) (fun hHeld => ?_)
      clear hK K
      (try simp only [Act.put, List.setIfInBounds_toArray, List.set_cons_zero, List.set_cons_succ])
      refine wpAnyH_take_at (i := 6) rfl rfl (by kernel_rfl) (by kernel_rfl) (by kernel_rfl) (fun _ _ _ h => h) (Or.inl ⟨by rfl, by (intro w hSw; (try dsimp only at hSw); go_simp; try with_reducible rfl)⟩) (by assumption) ?_
      (try simp only [Act.put, List.setIfInBounds_toArray, List.set_cons_zero, List.set_cons_succ])
      refine wpAnyH_take_at (i := 7) rfl rfl (by kernel_rfl) (by kernel_rfl) (by kernel_rfl) (fun _ _ _ h => h) (Or.inl ⟨by rfl, by (intro w hSw; (try dsimp only at hSw); go_simp; try with_reducible rfl)⟩) (by assumption) ?_
      (try simp only [Act.put, List.setIfInBounds_toArray, List.set_cons_zero, List.set_cons_succ])
      refine wpAnyH_take_at (i := 8) rfl rfl (by kernel_rfl) (by kernel_rfl) (by kernel_rfl) (fun _ _ _ h => h) (Or.inl ⟨by rfl, by (intro w hSw; (try dsimp only at hSw); go_simp; try with_reducible rfl)⟩) (by assumption) ?_
      (try simp only [Act.put, List.setIfInBounds_toArray, List.set_cons_zero, List.set_cons_succ])
      refine wpAnyH_take_at (i := 9) rfl rfl (by kernel_rfl) (by kernel_rfl) (by kernel_rfl) (fun _ _ _ h => h) (Or.inl ⟨by rfl, by (intro w hSw; (try dsimp only at hSw); go_simp; try with_reducible rfl)⟩) (by assumption) ?_
      (try simp only [Act.put, List.setIfInBounds_toArray, List.set_cons_zero, List.set_cons_succ])
      refine wpAnyH_take_at (i := 10) rfl rfl (by kernel_rfl) (by kernel_rfl) (by kernel_rfl) (fun _ _ _ h => h) (Or.inl ⟨by rfl, by (intro w hSw; (try dsimp only at hSw); go_simp; try with_reducible rfl)⟩) (by assumption) ?_
      (try simp only [Act.put, List.setIfInBounds_toArray, List.set_cons_zero, List.set_cons_succ])
      refine wpAnyH_take_at (i := 11) rfl rfl (by kernel_rfl) (by kernel_rfl) (by kernel_rfl) (fun _ _ _ h => h) (Or.inl ⟨by rfl, by (intro w hSw; (try dsimp only at hSw); go_simp; try with_reducible rfl)⟩) (by assumption) ?_
      (try simp only [Act.put, List.setIfInBounds_toArray, List.set_cons_zero, List.set_cons_succ])
      refine wpAnyH_ready (rs := [12]) (by kernel_rfl) (by simp) ?_
      refine AllReadyH.cons rfl (fun K hK => ?_) AllReadyH.nil
      go_simp
      refine (HTC.out _ (below_drewN hb4 _)).mono ?_
      rintro _ w6 ⟨rfl, hb6⟩
      have hb46 := (below_drewN hb4 kq).trans (hb6.mono (below_drewN hb4 kq).size)
      have hB6 := Blk.below hB5 hb6 hB5.lt
      refine hK.out _ _ (by (first | exact KS.out _ (by assumption) | (simp only [Act.put]; exact KS.out _ (by assumption)))) (fun hHeld => ?_)
      clear hK K
      (try simp only [Act.put, List.setIfInBounds_toArray, List.set_cons_zero, List.set_cons_succ])
      refine wpAnyH_take_at (i := 13) rfl rfl (by kernel_rfl) (by kernel_rfl) (by kernel_rfl) (fun _ _ _ h => h) (Or.inl ⟨by rfl, by (intro w hSw; (try dsimp only at hSw); go_simp; try with_reducible rfl)⟩) (by assumption) ?_
      (try simp only [Act.put, List.setIfInBounds_toArray, List.set_cons_zero, List.set_cons_succ])
      refine wpAnyH_take_at (i := 14) rfl rfl (by kernel_rfl) (by kernel_rfl) (by kernel_rfl) (fun _ _ _ h => h) (Or.inl ⟨by rfl, by (intro w hSw; (try dsimp only at hSw); go_simp; try with_reducible rfl)⟩) (by assumption) ?_
      (try simp only [Act.put, List.setIfInBounds_toArray, List.set_cons_zero, List.set_cons_succ])
      refine wpAnyH_take_at (i := 15) rfl rfl (by kernel_rfl) (by kernel_rfl) (by kernel_rfl) (fun _ _ _ h => h) (Or.inl ⟨by rfl, by (intro w hSw; (try dsimp only at hSw); go_simp; try with_reducible rfl)⟩) (by assumption) ?_
      (try simp only [Act.put, List.setIfInBounds_toArray, List.set_cons_zero, List.set_cons_succ])
      refine wpAnyH_take_at (i := 16) rfl rfl (by kernel_rfl) (by kernel_rfl) (by kernel_rfl) (fun _ _ _ h => h) (Or.inl ⟨by rfl, by (intro w hSw; (try dsimp only at hSw); go_simp; try with_reducible rfl)⟩) (by assumption) ?_
      (try simp only [Act.put, List.setIfInBounds_toArray, List.set_cons_zero, List.set_cons_succ])
      refine wpAnyH_take_at (i := 17) rfl rfl (by kernel_rfl) (by kernel_rfl) (by kernel_rfl) (fun _ _ _ h => h) (Or.inl ⟨by rfl, by (intro w hSw; (try dsimp only at hSw); go_simp; try with_reducible rfl)⟩) (by assumption) ?_
      (try simp only [Act.put, List.setIfInBounds_toArray, List.set_cons_zero, List.set_cons_succ])
      refine wpAnyH_ready (rs := [18]) (by kernel_rfl) (by simp) ?_
      refine AllReadyH.cons rfl (fun K hK => ?_) AllReadyH.nil
      go_simp
      refine (HCF.out _ hb46).mono ?_
      rintro _ _ ⟨rfl, rfl⟩
      refine hK.out _ _ (by (first | exact KS.out _ (by assumption) | (simp only [Act.put]; exact KS.out _ (by assumption)))) (fun hHeld => ?_)
      clear hK K
      (try simp only [Act.put, List.setIfInBounds_toArray, List.set_cons_zero, List.set_cons_succ])
      refine wpAnyH_take_at (i := 19) rfl rfl (by kernel_rfl) (by kernel_rfl) (by kernel_rfl) (fun _ _ _ h => h) (Or.inl ⟨by rfl, by (intro w hSw; (try dsimp only at hSw); go_simp; try with_reducible rfl)⟩) (by assumption) ?_
      (try simp only [Act.put, List.setIfInBounds_toArray, List.set_cons_zero, List.set_cons_succ])
      refine wpAnyH_take_at (i := 20) rfl rfl (by kernel_rfl) (by kernel_rfl) (by kernel_rfl) (fun _ _ _ h => h) (Or.inl ⟨by rfl, by (intro w hSw; (try dsimp only at hSw); go_simp; try with_reducible rfl)⟩) (by assumption) ?_
      (try simp only [Act.put, List.setIfInBounds_toArray, List.set_cons_zero, List.set_cons_succ])
      refine wpAnyH_ready (rs := [21]) (by kernel_rfl) (by simp) ?_
      refine AllReadyH.cons rfl (fun K hK => ?_) AllReadyH.nil
      go_simp
      refine hK.out _ _ (KS.out _ hB6) (fun hHeld => ?_)
      clear hK K
      (try simp only [Act.put, List.setIfInBounds_toArray, List.set_cons_zero, List.set_cons_succ])
      refine wpAnyH_done (by kernel_rfl) ?_ _
      clear hHeld KS
      go_wp2
      go_ret
      exact ⟨ret_bool (by rw [HR.out]; simp), hb46⟩
end Go.Proofs.YtflkiddmakeabaaGreatDoor

/- Walks: slices.Clip; IndexFunc and ContainsFunc at ints, with a function that has captured cells; the closures of tree.Open. -/
set_option linter.unusedVariables false
namespace Go.Proofs.YtflkiddmakeabaaGreatDoor
open Go.RowKit Zp
/-- the first of which P says yes, or -1 -/
def idxI (P : Int → Bool) (l : List Int) : Int := if l.any P then ((l.findIdx P : Nat) : Int) else -1
theorem idxI_no {P : Int → Bool} {l : List Int} (h : l.any P = false) : idxI P l = -1 := by unfold idxI; rw [h]; rfl
theorem idxI_yes {P : Int → Bool} {l : List Int} {k : Nat} (h : l.any P = true) (hk : l.findIdx P = k) : idxI P l = k := by unfold idxI; rw [h, hk]; rfl
end Go.Proofs.YtflkiddmakeabaaGreatDoor

/- slices.ContainsFunc at ints, of a function that makes memory. -/
set_option linter.unusedVariables false
namespace Go.Proofs.YtflkiddmakeabaaGreatDoor
open Go.RowKit Zp
set_option maxRecDepth 100000 in
set_option maxHeartbeats 1000000 in
theorem indexG_any (K : Nat) (hK : ∀ (args : Array Value) (w : World), (callFunc K args).run Tryz.prog w = .ok (.enter K args) w) (caps : Array Value) (P : Int → Bool) (A : Option Addr) (N c : Nat) (l : List Int) (hN : l.length = N) (hN2 : N ≤ 9223372036854775806)
    (w : World) (hY : ∀ x ∈ l, ∀ W, Below w.heap.size w W → Calls Tryz.prog K (#[vi x] ++ caps) W (SaysW (.bool (P x)) W)) (hT : SL w A l) :
    Calls Tryz.prog 82 #[.slice A N c, .func (.func K) #[] caps] w fun e w' => e = .returned (vi (idxI P l)) ∧ Below w.heap.size w w' := by
  have HN := Lib.hid hN
  have HT := Lib.hid hT
  have HY := Lib.hid hY
  clear hN hT hY
  go_enter Tryz.func82, Tryz.ntmps82
  go_wp2
  go_loopw [8] (fun i wr => ∃ k : Nat, k ≤ N ∧ i = vi k ∧ Below w.heap.size w wr ∧ ∀ j (h : j < l.length), j < k → P l[j] = false) (fun i _ => N - (intOf i).toNat)
  case atStart => exact ⟨0, Nat.zero_le _, rfl, Below.refl _ _, fun j _ hj => absurd hj (Nat.not_lt_zero _)⟩
  case round =>
    obtain ⟨k, hk, rfl, hbw, hb⟩ := hrel
    have HBW := Lib.hid hbw
    clear hbw
    have HB := Lib.hid hb
    clear hb
    by_cases hlt : k < N
    · have hkt : k < l.length := by rw [HN.out]; exact hlt
      obtain ⟨ad, rfl, hb1, hc1⟩ := (HT.out.below HBW.out).at_ hkt
      have i1 : (0 : Int) ≤ k := by omega
      have i2 : (k : Int) < N := by omega
      have i3 : (k : Int) + 1 ≤ 9223372036854775807 := by omega
      have hyk := HY.out _ (List.getElem_mem hkt) wr HBW.out
      obtain ⟨x, hx⟩ : ∃ x, x = l[k] := ⟨_, rfl⟩
      rw [← hx] at hyk hc1
      have HYK := Lib.hid hyk
      have HX := Lib.hid hx
      clear hx hyk
      by_cases hp : P x = true
      · have HR : Hid (idxI P l = k) := Lib.hid (by
          have hpk : P l[k] = true := by rw [← HX.out]; exact hp
          exact idxI_yes (List.any_eq_true.2 ⟨_, List.getElem_mem hkt, hpk⟩) (by
            rw [List.findIdx_eq hkt]
            exact ⟨hpk, fun j hj => by simpa using HB.out j (by omega) hj⟩))
        have HP := Lib.hid hp
        clear hp
        go_wp2_with fail
        refine HYK.out.mono ?_
        rintro _ w3 ⟨rfl, hb3⟩
        have HB3 := Lib.hid (HBW.out.trans (hb3.mono HBW.out.size))
        clear hb3
        rw [HP.out]
        go_wp2
        go_ret
        exact ⟨ret_int HR.out.symm, HB3.out⟩
      · have HP := Lib.hid (show P x = false by simpa using hp)
        have HBB : Hid (∀ j (h : j < l.length), j < k + 1 → P l[j] = false) := Lib.hid (fun j h hj => by
          by_cases e : j < k
          · exact HB.out j h e
          · obtain rfl : j = k := by omega
            rw [← HX.out]; exact HP.out)
        clear hp
        go_wp2_with fail
        refine HYK.out.mono ?_
        rintro _ w3 ⟨rfl, hb3⟩
        have HB3 := Lib.hid (HBW.out.trans (hb3.mono HBW.out.size))
        clear hb3
        rw [HP.out]
        go_wp2
        go_roundw
        case rel => exact ⟨k + 1, by omega, by go_num, HB3.out, HBB.out⟩
        case measure => simp [intOf]; omega
    · obtain rfl : k = N := by omega
      have HR : Hid (idxI P l = -1) := Lib.hid (idxI_no (by
        rw [Bool.eq_false_iff]
        intro h
        obtain ⟨x, hx, hp⟩ := List.any_eq_true.1 h
        obtain ⟨j, hj, rfl⟩ := List.mem_iff_getElem.1 hx
        rw [HB.out j hj (by rw [← HN.out]; exact hj)] at hp
        cases hp))
      go_wp2
      go_ret
      exact ⟨ret_int HR.out.symm, HBW.out⟩
theorem containsG_any (K : Nat) (hK : ∀ (args : Array Value) (w : World), (callFunc K args).run Tryz.prog w = .ok (.enter K args) w) (caps : Array Value) (P : Int → Bool) (A : Option Addr) (N c : Nat) (l : List Int) (hN : l.length = N) (hN2 : N ≤ 9223372036854775806)
    (w : World) (hY : ∀ x ∈ l, ∀ W, Below w.heap.size w W → Calls Tryz.prog K (#[vi x] ++ caps) W (SaysW (.bool (P x)) W)) (hT : SL w A l) :
    Calls Tryz.prog 36 #[.slice A N c, .func (.func K) #[] caps] w fun e w' => e = .returned (.bool (l.any P)) ∧ Below w.heap.size w w' := by
  have HI := Lib.hid (indexG_any K hK caps P A N c l hN hN2 w hY hT)
  clear hY hT hN
  cases hb : l.any P
  · rw [idxI_no hb] at HI
    clear hb
    go_enter Tryz.func36, Tryz.ntmps36
    go_wp2_with fail
    refine HI.out.mono ?_
    rintro _ w3 ⟨rfl, hb3⟩
    go_wp2
    go_ret
    exact ⟨by simp, hb3⟩
  · obtain ⟨t, ht⟩ : ∃ t, l.findIdx P = t := ⟨_, rfl⟩
    rw [idxI_yes hb ht] at HI
    have h0 : (0 : Int) ≤ (t : Int) := by omega
    clear hb ht
    go_enter Tryz.func36, Tryz.ntmps36
    go_wp2_with fail
    refine HI.out.mono ?_
    rintro _ w3 ⟨rfl, hb3⟩
    go_wp2
    go_ret
    exact ⟨by simp, hb3⟩
end Go.Proofs.YtflkiddmakeabaaGreatDoor

/- append of one struct to a row of one's own. -/
set_option linter.unusedVariables false
namespace Go.Proofs.YtflkiddmakeabaaGreatDoor
open Go.RowKit
theorem run_appS (t e : TypeId) (z : Value) (sz by_ : Nat) (ht : Tryz.prog.underlying t = some (.slice e)) (hinf : (Tryz.prog.info? e).map (fun i => (i.zero, i.size, i.bytes)) = some (some z, sz, by_)) (hzs : z.cells.size = sz) (hsz : 0 < sz)
    (w : World) (news : List Value) (hnl : news.length = sz) (hone : ∀ u ∈ news, u.oneCell' = true) (base : Nat) (v : Value) (n : Nat) (xs : List Value) (hown : w.ownsRow base e sz v n xs) (h63 : n + 1 ≤ maxLen) (hby : (n + 1) * by_ ≤ 140737488355328) (hbase : base ≤ w.heap.size) (ty : TypeId) :
    ∃ v' w', (Builtin.append_ #[t, t] ty #[v, .slice (some ⟨w.heap.size, 0, none⟩) 1 1]).run Tryz.prog (w.alloc (.cells news.toArray e)) = .ok v' w' ∧ w'.ownsRow base e sz v' (n + 1) (xs ++ news) ∧ w.grownBy w' v.ownBlock ∧ (v'.ownBlock = v.ownBlock ∨ ∃ k, v'.ownBlock = some k ∧ w.heap.size ≤ k) := by
  obtain ⟨i0, hi, hz0, hz1, hz2⟩ := info_parts hinf
  obtain ⟨v', w', hrun, h2, h3, _, h5⟩ := run_append_own_at (P := Tryz.prog) (w.alloc (.cells news.toArray e)) base t ty e i0 _ sz by_ ht hi hz0 hz1 hz2 hzs hsz
    v n xs (World.ownsRow.kept hown (World.grownBy_alloc w _ none) (by
      rcases hv : Value.ownBlock v with _ | g
      · exact .inl rfl
      · exact .inr (by simp))) ⟨w.heap.size, 0, none⟩ 1 1 news (by rw [hnl, Nat.one_mul]) (by
      intro j u hj
      have e : (⟨w.heap.size, 0, none⟩ : Addr).add j = ⟨w.heap.size, j, none⟩ := by
        unfold Addr.add
        split
        · rename_i h0; subst h0; rfl
        · simp
      rw [e, (Blk.new w _ _).cell, List.getElem?_toArray]
      exact hj) hone h63 hby (by simp; omega)
  refine ⟨v', w', hrun, h2, grownBy_trans (World.grownBy_alloc w _ _) h3, ?_⟩
  rcases h5 with h | h
  · exact .inl h
  · exact .inr ⟨_, h, by simp⟩
theorem wpList_appS {ops : Array Oper} {rest : List Oper} {o : Oper} {a : Act} {Q : Exit → Act → World → Prop} (t e : TypeId) (z : Value) (sz by_ : Nat) (ht : Tryz.prog.underlying t = some (.slice e)) (hinf : (Tryz.prog.info? e).map (fun i => (i.zero, i.size, i.bytes)) = some (some z, sz, by_)) (hzs : z.cells.size = sz) (hsz : 0 < sz)
    (w W : World) (news : List Value) (hW : W = w.alloc (.cells news.toArray e)) (hnl : news.length = sz) (hone : ∀ u ∈ news, u.oneCell' = true) (hgd : o.guard = none) (s x : Operand) (ho : o.op = .call { callee := .builtin .append, args := #[s, x], argTypes := #[t, t] })
    (base : Nat) (v : Value) (n : Nat) (xs : List Value) (hs : a.eval s = v) (hx : a.eval x = .slice (some ⟨w.heap.size, 0, none⟩) 1 1) (hown : w.ownsRow base e sz v n xs) (h63 : n + 1 ≤ maxLen) (hby : (n + 1) * by_ ≤ 140737488355328) (hbase : base ≤ w.heap.size)
    (h : ∀ v' w', w'.ownsRow base e sz v' (n + 1) (xs ++ news) → w.grownBy w' v.ownBlock → (v'.ownBlock = v.ownBlock ∨ ∃ k, v'.ownBlock = some k ∧ w.heap.size ≤ k) → wpList Tryz.prog ops Q rest (a.put o.dst v') w') : wpList Tryz.prog ops Q (o :: rest) a W := by
  subst hW
  exact wpList_plain hgd fun _ hK => by
    obtain ⟨v', w', hrun, h1, h2, h3⟩ := run_appS t e z sz by_ ht hinf hzs hsz w news hnl hone base v n xs hown h63 hby hbase o.type
    unfold Oper.wp execOp
    simp only [ho, resolve, invoke, builtin, Sem.run_bind, Sem.run_pure, Result.andThen_ok, List.map_toArray, List.map_cons, List.map_nil, hs, hx, hrun]
    exact hK _ _ (h v' w' h1 h2 h3)
end Go.Proofs.YtflkiddmakeabaaGreatDoor

/- The walk of fold.Check: what may not be. -/
set_option linter.unusedVariables false
namespace Go.Proofs.YtflkiddmakeabaaGreatDoor
open Go.RowKit Zp
theorem info_round : (Tryz.prog.info? 75).map (fun i => (i.zero, i.size, i.bytes)) = some (some (.agg #[.pointer none, vi 0, .slice none 0 0, .slice none 0 0, .slice none 0 0]), 5, 88) := by kernel_rfl
set_option maxRecDepth 100000 in
set_option maxHeartbeats 1000000 in
theorem fck_may (c sg Dd n : Nat) (k asked : Int) (hk : I64 k) (hn : n ≤ 65536) (f0 f1 f2 : Value) (hno : fmayB n k asked = false) (w : World) (hc : w.cell? ⟨Dd, 1, none⟩ = some (vi n)) :
    Calls Tryz.prog 8 #[.pointer (some ⟨sg, 0, none⟩), .pointer (some ⟨c, 0, none⟩), .pointer (some ⟨Dd, 0, none⟩), vi k, vi asked, .agg #[f0, f1, f2]] w fun e w' => CkIs false [] w e w' ∧ Below w.heap.size w w' := by
  have hb0 := below_of_eq (w := w) (o := .cells #[f0, f1, f2] 26) rfl
  obtain ⟨W, hW⟩ : ∃ W, W = w.alloc (.cells #[f0, f1, f2] 26) := ⟨_, rfl⟩
  rw [← hW] at hb0
  have HW := Lib.hid hW
  have HB0 := Lib.hid hb0
  have hf := fmay_any Dd n k asked hk hn W ((hb0.cell (p := ⟨Dd, 1, none⟩) (block_lt_of_cell hc)).trans hc)
  rw [hno] at hf
  have HF := Lib.hid hf
  clear hW hb0 hf hno hc
  go_enter Tryz.func8, Tryz.ntmps8
  go_upto_region 1 with (fail)
  rw [← HW.out]
  go_wp2_with fail
  refine HF.out.mono ?_
  rintro _ _ ⟨rfl, rfl⟩
  go_wp2
  exact bodyPost_ret (v := .tuple #[.slice none 0 0, .bool false]) (by simp [results, Tryz.results8, go_sem]) rfl ⟨CkIs.no _ _, HB0.out⟩
end Go.Proofs.YtflkiddmakeabaaGreatDoor

/- The walk of fold.Check: the rounds are laid. -/
set_option linter.unusedVariables false
namespace Go.Proofs.YtflkiddmakeabaaGreatDoor
open Go.RowKit Zp
theorem Dom.to {w w' : World} {S S' D b p n : Nat} [NeZero p] {s : Fin p} (h : Dom w S D b p n s) (hF : Fld w' S' b p) (hD : D < S') (hc : ∀ j v, w.cell? ⟨D, j, none⟩ = some v → w'.cell? ⟨D, j, none⟩ = some v) : Dom w' S' D b p n s :=
  ⟨hF, hD, hc _ _ h.c0, hc _ _ h.c1, hc _ _ h.c2, hc _ _ h.c3, h.s0, h.size⟩
/-- a round that is not looked at yet -/
def newR (D : Nat) : List Value := [.pointer (some ⟨D, 0, none⟩), vi 0, .slice none 0 0, .slice none 0 0, .slice none 0 0]
def newRs (Ds : Nat → Nat) (t : Nat) : List Value := (List.range t).flatMap fun i => newR (Ds i)
theorem newRs_succ (Ds : Nat → Nat) (t : Nat) : newRs Ds (t + 1) = newRs Ds t ++ newR (Ds t) := by simp [newRs, List.range_succ]
/-- what stands when t rounds were laid -/
structure Laid5 (w wr : World) (p b2 e : Nat) [NeZero p] (s : Fin p) (Dd : Nat) (o : Array Value) (t : Nat) (Ds : Nat → Nat) (v : Value) : Prop where
  d0 : Ds 0 = Dd
  bo : Blk wr w.heap.size 26 o
  bv : Blk wr (w.heap.size + 1) 73 #[v]
  ba : Blk wr (w.heap.size + 2) 27 #[.pointer (some ⟨Ds t, 0, none⟩)]
  own : wr.ownsRow (w.heap.size + 3) 75 5 v t (newRs Ds t)
  bel : Below w.heap.size w wr
  dom : ∀ i, i ≤ t → Dom wr wr.heap.size (Ds i) b2 p (nI e i) (sqI s i) ∧ (Ds i < w.heap.size ∨ w.heap.size + 3 ≤ Ds i) ∧ v.ownBlock ≠ some (Ds i)
/-- the world that the loop begins in -/
def baseW5 (w : World) (o : Array Value) (Dd : Nat) : World := ((w.alloc (.cells o 26)).alloc (.cells #[.slice none 0 0] 73)).alloc (.cells #[.pointer (some ⟨Dd, 0, none⟩)] 27)
theorem laid5_zero {w : World} {p b2 e S2 : Nat} [NeZero p] {s : Fin p} {Dd : Nat} (o : Array Value) (h : Dom w S2 Dd b2 p (nI e 0) (sqI s 0)) : Laid5 w (baseW5 w o Dd) p b2 e s Dd o 0 (fun _ => Dd) (.slice none 0 0) := by
  have hb : Below w.heap.size w (baseW5 w o Dd) := (((Below.refl _ _).alloc (Nat.le_refl _) _).alloc (by simp) _).alloc (by simp; omega) _
  have hD := h.lt
  have hS := h.fld.le
  have hd := (h.below hb hS).upS (Nat.le_trans hS hb.size) (Nat.le_refl _)
  refine ⟨rfl, ?_, ?_, ?_, World.ownsRow_nil _ _ _ _, hb, fun i hi => ?_⟩
  · exact ((Blk.new w 26 o).alloc _).alloc _
  · have h1 := (Blk.new (w.alloc (.cells o 26)) 73 #[.slice none 0 0]).alloc (.cells #[.pointer (some ⟨Dd, 0, none⟩)] 27)
    rw [show (w.alloc (.cells o 26)).heap.size = w.heap.size + 1 by simp] at h1
    exact h1
  · have h1 := Blk.new ((w.alloc (.cells o 26)).alloc (.cells #[.slice none 0 0] 73)) 27 #[.pointer (some ⟨Dd, 0, none⟩)]
    rw [show ((w.alloc (.cells o 26)).alloc (.cells #[.slice none 0 0] 73)).heap.size = w.heap.size + 2 by simp] at h1
    exact h1
  · obtain rfl : i = 0 := by omega
    exact ⟨hd, .inl (by omega), by simp [Value.ownBlock]⟩
/-- a row more, and the half -/
theorem Laid5.step {w wr : World} {p b2 e S2 : Nat} [NeZero p] {s : Fin p} {Dd : Nat} {o : Array Value} {t : Nat} {Ds : Nat → Nat} {v : Value} (hL : Laid5 w wr p b2 e s Dd o t Ds v) (hF0 : Fld w S2 b2 p) {v' : Value} {w2 : World}
    (h1 : w2.ownsRow (w.heap.size + 3) 75 5 v' (t + 1) (newRs Ds t ++ newR (Ds t))) (h2 : wr.grownBy w2 v.ownBlock) (h3 : v'.ownBlock = v.ownBlock ∨ ∃ k, v'.ownBlock = some k ∧ wr.heap.size ≤ k) :
    let w3 := w2.setCell ⟨w.heap.size + 1, 0, none⟩ v'
    Blk w3 w.heap.size 26 o ∧ Blk w3 (w.heap.size + 1) 73 #[v'] ∧ Blk w3 (w.heap.size + 2) 27 #[.pointer (some ⟨Ds t, 0, none⟩)] ∧ w3.ownsRow (w.heap.size + 3) 75 5 v' (t + 1) (newRs Ds t ++ newR (Ds t)) ∧ Below w.heap.size w w3 ∧
      (∀ i, i ≤ t → Dom w3 w3.heap.size (Ds i) b2 p (nI e i) (sqI s i) ∧ (Ds i < w.heap.size ∨ w.heap.size + 3 ≤ Ds i) ∧ v'.ownBlock ≠ some (Ds i)) := by
  have hown : ∀ g, v.ownBlock = some g → w.heap.size + 3 ≤ g := fun g hg => (World.ownsRow.lt hL.own g hg).1
  have hne : ∀ x, x < w.heap.size + 3 → some x ≠ v.ownBlock := fun x hx hg => by have := hown x hg.symm; omega
  have b1 := Blk.grown hL.bo h2 (hne _ (by omega))
  have b2' := Blk.grown hL.bv h2 (hne _ (by omega))
  have b3 := Blk.grown hL.ba h2 (hne _ (by omega))
  have hb2 : Below w.heap.size w w2 := hL.bel.grown h2 hL.bel.size (fun x hx => by have := hown x hx; omega)
  have hg3 : w2.grownBy (w2.setCell ⟨w.heap.size + 1, 0, none⟩ v') (some (w.heap.size + 1)) := blk_grown
  have hb3 : Below w.heap.size w (w2.setCell ⟨w.heap.size + 1, 0, none⟩ v') := hb2.grown hg3 hb2.size (fun x hx => by injection hx with hx; omega)
  have hF3 : Fld (w2.setCell ⟨w.heap.size + 1, 0, none⟩ v') (w2.setCell ⟨w.heap.size + 1, 0, none⟩ v').heap.size b2 p := (hF0.below hb3 hF0.le).moreS (Nat.le_trans hF0.le hb3.size) (Nat.le_refl _)
  refine ⟨Blk.far b1 (p := ⟨w.heap.size + 1, 0, none⟩) (by show w.heap.size ≠ w.heap.size + 1; omega) _, Blk.set_ b2' 0 v', Blk.far b3 (p := ⟨w.heap.size + 1, 0, none⟩) (by show w.heap.size + 2 ≠ w.heap.size + 1; omega) _, ownsRow_setCell_below h1 (a := ⟨w.heap.size + 1, 0, none⟩) (by show w.heap.size + 1 < w.heap.size + 3; omega) _, hb3, fun i hi => ?_⟩
  obtain ⟨hd, hr, ho⟩ := hL.dom i hi
  refine ⟨hd.to hF3 (Nat.lt_of_lt_of_le hd.lt (Nat.le_trans h2.size hg3.size)) (fun j u hu => ?_), hr, ?_⟩
  · have hlt := block_lt_of_cell hu
    have e1 : w2.cell? ⟨Ds i, j, none⟩ = some u := by rw [← hu]; exact World.cell?_of_block (h2.block _ hlt (fun e => ho e.symm))
    rw [← e1]
    exact World.cell?_setCell_far w2 ⟨w.heap.size + 1, 0, none⟩ ⟨Ds i, j, none⟩ v' (by show w.heap.size + 1 ≠ Ds i; omega)
  · rcases h3 with h | ⟨k, h, hk⟩
    · rw [h]; exact ho
    · rw [h]; intro e'; injection e' with e'; have := hd.lt; omega
/-- the half is laid down -/
theorem Laid5.next {w w3 w4 : World} {p b2 e S2 : Nat} [NeZero p] {s : Fin p} {Dd : Nat} {o : Array Value} {t : Nat} {Ds : Nat → Nat} {v' : Value} (hF0 : Fld w S2 b2 p) (hd0 : Ds 0 = Dd)
    (h : Blk w3 w.heap.size 26 o ∧ Blk w3 (w.heap.size + 1) 73 #[v'] ∧ Blk w3 (w.heap.size + 2) 27 #[.pointer (some ⟨Ds t, 0, none⟩)] ∧ w3.ownsRow (w.heap.size + 3) 75 5 v' (t + 1) (newRs Ds t ++ newR (Ds t)) ∧ Below w.heap.size w w3 ∧
      (∀ i, i ≤ t → Dom w3 w3.heap.size (Ds i) b2 p (nI e i) (sqI s i) ∧ (Ds i < w.heap.size ∨ w.heap.size + 3 ≤ Ds i) ∧ v'.ownBlock ≠ some (Ds i)))
    {D' : Nat} (hD : Dom w4 w4.heap.size D' b2 p (nI e (t + 1)) (sqI s (t + 1))) (hb : Below w3.heap.size w3 w4) (hD' : w3.heap.size ≤ D') :
    Laid5 w (w4.setCell ⟨w.heap.size + 2, 0, none⟩ (.pointer (some ⟨D', 0, none⟩))) p b2 e s Dd o (t + 1) (fun i => if i ≤ t then Ds i else D') v' := by
  obtain ⟨b1, b2', b3, ho, hbel, hdom⟩ := h
  have c1 := Blk.below b1 hb b1.lt
  have c2 := Blk.below b2' hb b2'.lt
  have c3 := Blk.below b3 hb b3.lt
  have hg : w4.grownBy (w4.setCell ⟨w.heap.size + 2, 0, none⟩ (.pointer (some ⟨D', 0, none⟩))) (some (w.heap.size + 2)) := blk_grown
  have hb4 : Below w.heap.size w w4 := hbel.trans (hb.mono hbel.size)
  have hb5 : Below w.heap.size w (w4.setCell ⟨w.heap.size + 2, 0, none⟩ (.pointer (some ⟨D', 0, none⟩))) := hb4.grown hg hb4.size (fun x hx => by injection hx with hx; omega)
  have hF5 : Fld (w4.setCell ⟨w.heap.size + 2, 0, none⟩ (.pointer (some ⟨D', 0, none⟩))) (w4.setCell ⟨w.heap.size + 2, 0, none⟩ (.pointer (some ⟨D', 0, none⟩))).heap.size b2 p := (hF0.below hb5 hF0.le).moreS (Nat.le_trans hF0.le hb5.size) (Nat.le_refl _)
  have hb2lt := b2'.lt
  have hb3lt := b3.lt
  have ho4 : w4.ownsRow (w.heap.size + 3) 75 5 v' (t + 1) (newRs Ds t ++ newR (Ds t)) := World.ownsRow.kept ho (grown_of_below hb none) (by
    rcases hv : Value.ownBlock v' with _ | g
    · exact .inl rfl
    · exact .inr (by simp))
  have ers : newRs Ds t ++ newR (Ds t) = newRs (fun i => if i ≤ t then Ds i else D') (t + 1) := by
    rw [newRs_succ]
    congr 1
    · unfold newRs
      simp only [List.flatMap_def]
      congr 1
      apply List.map_congr_left
      intro i hi
      have := List.mem_range.1 hi
      (try simp only)
      rw [if_pos (by omega)]
    · (try simp only); rw [if_pos (Nat.le_refl _)]
  rw [ers] at ho4
  refine ⟨by (try simp only); rw [if_pos (Nat.zero_le _)]; exact hd0, Blk.far c1 (p := ⟨w.heap.size + 2, 0, none⟩) (by show w.heap.size ≠ w.heap.size + 2; omega) _, Blk.far c2 (p := ⟨w.heap.size + 2, 0, none⟩) (by show w.heap.size + 1 ≠ w.heap.size + 2; omega) _, ?_, ownsRow_setCell_below ho4 (a := ⟨w.heap.size + 2, 0, none⟩) (by show w.heap.size + 2 < w.heap.size + 3; omega) _, hb5, fun i hi => ?_⟩
  · have := Blk.set_ c3 0 (.pointer (some ⟨D', 0, none⟩))
    (try simp only)
    rw [if_neg (by omega)]
    exact this
  · (try simp only)
    by_cases hit : i ≤ t
    · rw [if_pos hit]
      obtain ⟨hd, hr, hov⟩ := hdom i hit
      refine ⟨hd.to hF5 (Nat.lt_of_lt_of_le hd.lt (Nat.le_trans hb.size hg.size)) (fun j u hu => ?_), hr, hov⟩
      have e1 : w4.cell? ⟨Ds i, j, none⟩ = some u := by rw [← hu]; exact hb.cell (p := ⟨Ds i, j, none⟩) hd.lt
      rw [← e1]
      exact World.cell?_setCell_far w4 ⟨w.heap.size + 2, 0, none⟩ ⟨Ds i, j, none⟩ _ (by show w.heap.size + 2 ≠ Ds i; omega)
    · rw [if_neg hit]
      obtain rfl : i = t + 1 := by omega
      refine ⟨hD.to hF5 (Nat.lt_of_lt_of_le hD.lt hg.size) (fun j u hu => ?_), .inr (by omega), fun e' => by have := (World.ownsRow.lt ho _ e').2; omega⟩
      rw [← hu]
      exact World.cell?_setCell_far w4 ⟨w.heap.size + 2, 0, none⟩ ⟨D', j, none⟩ _ (by show w.heap.size + 2 ≠ D'; omega)
end Go.Proofs.YtflkiddmakeabaaGreatDoor

/- The walk of fold.Check. -/
set_option linter.unusedVariables false
namespace Go.Proofs.YtflkiddmakeabaaGreatDoor
open Go.RowKit Zp
theorem newR_one (D : Nat) : ∀ u ∈ newR D, u.oneCell' = true := by simp [newR, Value.oneCell']
theorem row_slice {w : World} {base : Nat} {e : TypeId} {sz n : Nat} {v : Value} {xs : List Value} (h : w.ownsRow base e sz v n xs) : ∃ A c, v = .slice A n c := by
  rcases h.2 with ⟨e1, rfl⟩ | ⟨g, cap, cur, e1, _⟩
  · exact ⟨_, _, e1⟩
  · exact ⟨_, _, e1⟩
set_option maxRecDepth 100000 in
set_option maxHeartbeats 2000000 in
theorem fck_roots (p : Nat) [NeZero p] (c sg Dd b2 S2 : Nat) (s : Fin p) (e j : Nat) (he : e ≤ 16) (hje : j + 1 ≤ e) (hj16 : j ≤ 16) (a : Nat) (hmay : fmayB (nI e 0) ((nI j 0 : Nat) : Int) (a : Int) = true) (f : FldI)
    {AR : Option Addr} {nR cR : Nat} {AL : Option Addr} {nL cL : Nat} {AO : Option Addr} {nO cO : Nat} (hlR : f.roots.length = nR) (hno : f.roots.length ≠ rndK j)
    (w : World) (hd : Dom w S2 Dd b2 p (nI e 0) (sqI s 0)) :
    Calls Tryz.prog 8 #[.pointer (some ⟨sg, 0, none⟩), .pointer (some ⟨c, 0, none⟩), .pointer (some ⟨Dd, 0, none⟩), vi ((nI j 0 : Nat) : Int), vi (a : Int), .agg #[.slice AR nR cR, .slice AL nL cL, .slice AO nO cO]] w fun ee w' => CkIs false [] w ee w' ∧ Below w.heap.size w w' := by
  have hd1 := hd.c1
  have hFd := hd.fld
  obtain ⟨W0, hW0⟩ : ∃ W0, W0 = w.alloc (.cells #[.slice AR nR cR, .slice AL nL cL, .slice AO nO cO] 26) := ⟨_, rfl⟩
  obtain ⟨W, hW⟩ : ∃ W, W = (W0.alloc (.cells #[.slice none 0 0] 73)).alloc (.cells #[.pointer (some ⟨Dd, 0, none⟩)] 27) := ⟨_, rfl⟩
  have hL0 : Laid5 w W p b2 e s Dd #[.slice AR nR cR, .slice AL nL cL, .slice AO nO cO] 0 (fun _ => Dd) (.slice none 0 0) := by
    rw [hW, hW0]
    exact laid5_zero _ hd
  have hb0 := below_of_eq hW0
  have hf := fmay_any Dd (nI e 0) ((nI j 0 : Nat) : Int) (a : Int) (by have := nI_le hj16 0; constructor <;> omega) (nI_le he 0) W0 ((hb0.cell (p := ⟨Dd, 1, none⟩) (block_lt_of_cell hd1)).trans hd1)
  rw [hmay] at hf
  have HMAY := Lib.hid hf
  have HZ0 : Hid (W0.heap.size = w.heap.size + 1) := Lib.hid (by rw [hW0]; simp)
  have HW0 := Lib.hid hW0
  have HW := Lib.hid hW
  have HL0 := Lib.hid hL0
  have HFD := Lib.hid hFd
  clear hf hW0 hW hL0 hb0 hd1 hFd hmay
  go_enter Tryz.func8, Tryz.ntmps8
  go_upto_region 1 with (fail)
  rw [← HW0.out]
  go_wp2_with fail
  refine HMAY.out.mono ?_
  rintro _ _ ⟨rfl, rfl⟩
  go_upto_region 5 with (fail)
  rw [← HW.out]
  (try rw [show W0.heap.size + 1 = w.heap.size + 2 by rw [HZ0.out]])
  rw [HZ0.out]
  go_wp2
  go_loopw [3] (fun k wr => ∃ (t : Nat) (Ds : Nat → Nat) (v : Value), t ≤ rndK j ∧ k = vi ((nI j t : Nat) : Int) ∧ Laid5 w wr p b2 e s Dd #[.slice AR nR cR, .slice AL nL cL, .slice AO nO cO] t Ds v) (fun k _ => (intOf k).toNat)
  case atStart => exact ⟨0, _, _, Nat.zero_le _, rfl, HL0.out⟩
  case round =>
    obtain ⟨t, Ds, v, ht, rfl, hL⟩ := hrel
    by_cases hlt : t < rndK j
    · have htj : t < j := by unfold rndK at hlt; omega
      have hte : t < e := by omega
      have t1 : decide ((4 : Int) < ((nI j t : Nat) : Int)) = true := decide_eq_true (by have := four_lt.2 hlt; omega)
      have hst : nI j t = 2 * nI j (t + 1) := nI_step htj
      have hpos := nI_pos j (t + 1)
      have hq : wrap64 (((nI j t : Nat) : Int) / 2) = ((nI j (t + 1) : Nat) : Int) := half_wrap hst (nI_le hj16 t)
      have HMS : Hid (nI j (t + 1) < nI j t) := Lib.hid (by omega)
      have HL := Lib.hid hL
      have v0 := (hL.bv.cell 0).trans (show _ = some v from rfl)
      have a0 := (hL.ba.cell 0).trans (show _ = some (.pointer (some ⟨Ds t, 0, none⟩)) from rfl)
      have hown := hL.own
      have HLT := Lib.hid hlt
      have ht64 : t ≤ 64 := by omega
      clear hst hpos hL hlt
      go_upto_region 8 with (at_builtin; refine wpList_appS 73 75 _ 5 88 Tryz.underlying73 info_round (by rfl) (by omega) wr _ (newR (Ds t)) (by rfl) (by rfl) (newR_one _) (by rfl) _ _ (by rfl) (w.heap.size + 3) v t (newRs Ds t) (by rfl) (by rfl) HL.out.own (by simp only [maxLen]; omega) (by omega) (by have := HL.out.ba.lt; omega) ?_; intro v2 w2 h1 h2 h3; have hne2 : some (w.heap.size + 1) ≠ v.ownBlock := (fun hg => by have := (World.ownsRow.lt HL.out.own _ hg.symm).1; omega); have hB2 := Blk.grown HL.out.bv h2 hne2; have y1 := (hB2.cell 0).trans (show _ = some v from rfl); have y2 := hB2.frozen 0; obtain ⟨A2, c2, hv2⟩ := row_slice h1; subst hv2)
      have hst := HL.out.step HFD.out h1 h2 h3
      obtain ⟨w3, hw3⟩ : ∃ w3, w3 = w2.setCell ⟨w.heap.size + 1, 0, none⟩ (.slice A2 (t + 1) c2) := ⟨_, rfl⟩
      simp only at hst
      rw [← hw3] at hst ⊢
      have HST := Lib.hid hst
      have hb3 := hst.2.2.1
      have hd3 := (hst.2.2.2.2.2 t (Nat.le_refl _)).1
      have HH := Lib.hid (half_any p w3.heap.size (Ds t) b2 (nI e t) (nI e (t + 1)) (nI_step hte) (nI_pos _ _) (sqI s t) w3 hd3)
      clear hst hw3 h1 h2 h3 hB2 hne2 y1 y2 v0 a0 hown hd3
      have a0 := (hb3.cell 0).trans (show _ = some (.pointer (some ⟨Ds t, 0, none⟩)) from rfl)
      have HB3 := Lib.hid hb3
      clear hb3
      go_wp2_with fail
      refine HH.out.mono ?_
      rintro _ w4 ⟨D', rfl, hD', hb4, hle⟩
      have hB4 := Blk.below HB3.out hb4 HB3.out.lt
      have y1 := (hB4.cell 0).trans (show _ = some (.pointer (some ⟨Ds t, 0, none⟩)) from rfl)
      have y2 := hB4.frozen 0
      rw [el_fv] at hD'
      have HNX := Lib.hid (Laid5.next HFD.out HL.out.d0 HST.out hD' hb4 hle)
      clear hD' hb4 hle a0 hB4
      go_wp2
      go_roundw
      case rel => exact ⟨t + 1, _, _, Nat.succ_le_of_lt HLT.out, by first | rfl | (rw [hq]), HNX.out⟩
      case measure =>
        rw [hq]
        show Int.toNat ((nI j (t + 1) : Nat) : Int) < Int.toNat ((nI j t : Nat) : Int)
        rw [Int.toNat_natCast, Int.toNat_natCast]
        exact HMS.out
    · have t1 : decide ((4 : Int) < ((nI j t : Nat) : Int)) = false := decide_eq_false (by have h4 : ¬ 4 < nI j t := fun h => hlt (four_lt.1 h); omega)
      have et : t = rndK j := by omega
      obtain ⟨A2, c2, rfl⟩ := row_slice hL.own
      have t2 : ((nR : Int) != (t : Int)) = true := by rw [bne_iff_ne, ← hlR]; intro h; exact hno (by omega)
      have v0 := (hL.bv.cell 0).trans (show _ = some (.slice A2 t c2) from rfl)
      have f0 := (hL.bo.cell 0).trans (show _ = some (.slice AR nR cR) from rfl)
      have HB := Lib.hid hL.bel
      clear hL et ht hlt hno
      go_wp2
      exact bodyPost_ret (v := .tuple #[.slice none 0 0, .bool false]) (by simp [results, Tryz.results8, go_sem]) rfl ⟨CkIs.no _ _, HB.out⟩
end Go.Proofs.YtflkiddmakeabaaGreatDoor
