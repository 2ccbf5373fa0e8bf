/- A bundle of texts: Nk, Nl. -/
import Derived.Test.YtijhajkakmohnaaGreatDoorB09
/- The walk of the closure of tree.Open that keeps the roots. -/
set_option linter.unusedVariables false
set_option linter.unusedSimpArgs false
namespace Go.Proofs.YtijhajkakmohnaaGreatDoor
open Go.RowKit Zp
set_option maxRecDepth 100000 in
set_option maxHeartbeats 2000000 in
theorem open2_any (p S b s k z : Nat) [NeZero p] (oo : Nat → Nat → Fin p) (A : Option Addr) (N c : Nat) (ls : List (List Int)) (hN : ls.length = N) (hN2 : N ≤ 65536) (hR : ∀ l ∈ ls, l.length * 8 + 80 ≤ 140737488355328) (ob sb rb : Nat) (ov rv : Value) (W4 : World) (hob : ob < W4.heap.size)
    (hE : ∀ W, W4.grownBy W (some ob) → Fld W S b p ∧ Spg W s b k z oo ∧ TB W A ls ∧ W.cell? ⟨sb, 0, none⟩ = some (.pointer (some ⟨s, 0, none⟩)) ∧ W.cell? ⟨rb, 0, none⟩ = some (.slice A N c))
    (pre : List (Nat × Nat)) (a m : Nat) (W : World) (hJ : NodesJ (fun g => rootD (digL p k) (rowF ls) g.1 g.2) W4 ob ov rv pre W) (hpl : pre.length ≤ a) (h1 : 1 ≤ m) (ha : a + m ≤ N) :
    Calls Tryz.prog 47 #[.agg #[vi (a : Int), vi ((a : Int) + (m : Int))], .pointer (some ⟨ob, 0, none⟩), .pointer (some ⟨sb, 0, none⟩), .pointer (some ⟨rb, 0, none⟩)] W fun e W' => (∃ r, e = .returned r) ∧ NodesJ (fun g => rootD (digL p k) (rowF ls) g.1 g.2) W4 ob ov rv (pre ++ [(a, m)]) W' ∧ KeepG W W' := by
  obtain ⟨H, hH⟩ : ∃ H : Nat × Nat → List Int, H = fun g => rootD (digL p k) (rowF ls) g.1 g.2 := ⟨_, rfl⟩
  have HRT : Hid (∀ W', Fld W' S b p → Spg W' s b k z oo → TB W' A ls → Calls Tryz.prog 37 #[.pointer (some ⟨s, 0, none⟩), .slice A N c, .agg #[vi (a : Int), vi ((a : Int) + (m : Int))]] W' (RootIs (H (a, m)) W')) := Lib.hid (fun W' F G T => by
    have h := troot_any p S b s k z oo A N c ls hN hN2 hR m a h1 ha W' F G T
    rw [hH]
    simpa [Gp] using h)
  rw [← hH] at hJ ⊢
  obtain ⟨nv, vs, hblk, hno, hus, hgr⟩ := hJ
  obtain ⟨AV, nV, cV, rfl, hnV, _⟩ := ownR_shape hno
  have HVL := Lib.hid (show vs.length < 5864062014805 by have := hus.1; rw [List.length_map] at this; omega)
  obtain ⟨W1, hW1⟩ : ∃ W1, W1 = W.alloc (.cells #[vi a, vi ((a : Int) + m)] 92) := ⟨_, rfl⟩
  have hb1 : Below W.heap.size W W1 := by rw [hW1]; exact (Below.refl _ _).alloc (Nat.le_refl _) _
  have hBg : Blk W1 W.heap.size 92 #[vi a, vi ((a : Int) + m)] := by rw [hW1]; exact Blk.new _ _ _
  have KX : Hid (∀ W', Below W1.heap.size W1 W' → (Fld W' S b p ∧ Spg W' s b k z oo ∧ TB W' A ls) ∧ Blk W' ob 25 #[ov, rv, .slice AV nV cV] ∧ OwnR W' W4.heap.size (.slice AV nV cV) vs ∧ UsAt W' vs (pre.map H) ∧ W4.grownBy W' (some ob)) := Lib.hid fun W' hb => by
    have hb' := hb1.trans (hb.mono hb1.size)
    have hg' := grownBy_trans hgr (grown_of_below hb' (some ob))
    obtain ⟨e1, e2, e3, _⟩ := hE W' hg'
    exact ⟨⟨e1, e2, e3⟩, Blk.below hblk hb' hblk.lt, OwnR.below hno hb', hus.below hb', hg'⟩
  have KS : Hid (∀ W', (W4.grownBy W' (some ob) ∧ KeepG W1 W') → W'.cell? ⟨sb, 0, none⟩ = some (.pointer (some ⟨s, 0, none⟩)) ∧ W'.cell? ⟨rb, 0, none⟩ = some (.slice A N c) ∧ W'.cell? ⟨W.heap.size, 0, none⟩ = some (vi a) ∧ W'.cell? ⟨W.heap.size, 1, none⟩ = some (vi ((a : Int) + m))) := Lib.hid fun W' hb => by
    obtain ⟨_, _, _, e4, e5⟩ := hE W' hb.1
    have hq := hb.2.2 _ _ hBg
    exact ⟨e4, e5, (hq.cell 0).trans rfl, (hq.cell 1).trans rfl⟩
  have HOB := Lib.hid hob
  have HKG := Lib.hid (KeepG.of hb1)
  have hb11 : Below W1.heap.size W1 W1.drew := below_drewN (Below.refl _ _) 1
  have kk1 : W4.grownBy W1.drew (some ob) ∧ KeepG W1 W1.drew := ⟨(KX.out _ hb11).2.2.2.2, KeepG.of hb11⟩
  have c1 := ((KX.out _ (Below.refl _ _)).2.1.cell 2).trans (show _ = some (.slice AV nV cV) from rfl)
  have c2 := ((KX.out _ hb11).2.1.cell 2).trans (show _ = some (.slice AV nV cV) from rfl)
  have HW1 := Lib.hid hW1
  clear hH hE hblk hno hus hgr hob hpl h1 ha hN hN2 hR hb1 hBg hW1 hnV
  go_enter Tryz.func47, Tryz.ntmps47
  go_wp2_with fail
  rw [← HW1.out]
  refine wp_region_held_drew (S := fun w' => w'.cell? ⟨sb, 0, none⟩ = some (.pointer (some ⟨s, 0, none⟩)) ∧ w'.cell? ⟨rb, 0, none⟩ = some (.slice A N c) ∧ w'.cell? ⟨W.heap.size, 0, none⟩ = some (vi a) ∧ w'.cell? ⟨W.heap.size, 1, none⟩ = some (vi ((a : Int) + m))) (by kernel_rfl) (KS.out _ kk1) (fun hHeld => ?_)
  refine wpAnyH_take_at (i := 0) rfl rfl (by kernel_rfl) (by kernel_rfl) (by kernel_rfl) (fun _ _ _ h => h) (Or.inl ⟨by rfl, by (intro w hSw; (try dsimp only at hSw); go_simp; try with_reducible rfl)⟩) (by assumption) ?_
  (try simp only [Act.put, List.setIfInBounds_toArray, List.set_cons_zero, List.set_cons_succ])
  refine wpAnyH_take_at (i := 2) rfl rfl (by kernel_rfl) (by kernel_rfl) (by kernel_rfl) (fun _ _ _ h => h) (Or.inl ⟨by rfl, by (intro w hSw; (try dsimp only at hSw); go_simp; try with_reducible rfl)⟩) (by assumption) ?_
  (try simp only [Act.put, List.setIfInBounds_toArray, List.set_cons_zero, List.set_cons_succ])
  refine wpAnyH_take_at (i := 3) rfl rfl (by kernel_rfl) (by kernel_rfl) (by kernel_rfl) (fun _ _ _ h => h) (Or.inl ⟨by rfl, by (intro w hSw; (try dsimp only at hSw); go_simp; try with_reducible rfl)⟩) (by assumption) ?_
  (try simp only [Act.put, List.setIfInBounds_toArray, List.set_cons_zero, List.set_cons_succ])
  refine wpAnyH_take_at (i := 4) rfl rfl (by kernel_rfl) (by kernel_rfl) (by kernel_rfl) (fun _ _ _ h => h) (Or.inl ⟨by rfl, by (intro w hSw; (try dsimp only at hSw); go_simp; try with_reducible rfl)⟩) (by assumption) ?_
  (try simp only [Act.put, List.setIfInBounds_toArray, List.set_cons_zero, List.set_cons_succ])
  refine wpAnyH_ready (rs := [1, 5]) (by kernel_rfl) (by simp) ?_
  refine AllReadyH.cons rfl (fun K hK => ?_) (AllReadyH.cons rfl (fun K hK => ?_) AllReadyH.nil)
  · go_simp
    refine hK.out _ _ (by (first | exact KS.out _ (by assumption) | (simp only [Act.put]; exact KS.out _ (by assumption)))) (fun hHeld => ?_)
    clear hK K
    (try simp only [Act.put, List.setIfInBounds_toArray, List.set_cons_zero, List.set_cons_succ])
    refine wpAnyH_ready (rs := [5]) (by kernel_rfl) (by simp) ?_
    refine AllReadyH.cons rfl (fun K hK => ?_) AllReadyH.nil
    go_simp
    refine (HRT.out _ (KX.out _ hb11).1.1 (KX.out _ hb11).1.2.1 (KX.out _ hb11).1.2.2).mono ?_
    rintro _ w3 ⟨g3, rfl, ⟨x3, y3⟩, s3, l3, i3, n3, hb3⟩
    have hb13 : Below W1.heap.size W1 w3 := hb11.trans (hb3.mono hb11.size)
    have HX3 := Lib.hid (show _ ∧ _ ∧ _ ∧ _ ∧ W4.heap.size ≤ w3.heap.size ∧ Below W1.heap.size W1 w3 from ⟨(KX.out _ hb13).2.1, (KX.out _ hb13).2.2.1, (KX.out _ hb13).2.2.2.1, (KX.out _ hb13).2.2.2.2, (KX.out _ hb13).2.2.2.2.size, hb13⟩)
    have HG3 := Lib.hid (And.intro y3 (And.intro s3 (And.intro l3 i3)))
    have kk3 : W4.grownBy w3 (some ob) ∧ KeepG W1 w3 := ⟨(KX.out _ hb13).2.2.2.2, KeepG.of hb13⟩
    have hba := (Below.refl w3.heap.size w3).alloc (Nat.le_refl _) (.cells #[.slice (some ⟨g3, 0, none⟩) 4 4] 22)
    have kk4 : W4.grownBy (w3.alloc (.cells #[.slice (some ⟨g3, 0, none⟩) 4 4] 22)) (some ob) ∧ KeepG W1 (w3.alloc (.cells #[.slice (some ⟨g3, 0, none⟩) 4 4] 22)) := ⟨grownBy_trans kk3.1 (grown_of_below hba _), kk3.2.trans (KeepG.of hba)⟩
    have c3 := (HX3.out.1.cell 2).trans (show _ = some (.slice AV nV cV) from rfl)
    have c4 := ((Blk.alloc HX3.out.1 (.cells #[.slice (some ⟨g3, 0, none⟩) 4 4] 22)).cell 2).trans (show _ = some (.slice AV nV cV) from rfl)
    clear y3 s3 l3 i3 n3 hb3 hb13 hba
    refine hK.out _ _ (by (first | exact KS.out _ (by assumption) | (simp only [Act.put]; exact KS.out _ (by assumption)))) (fun hHeld => ?_)
    clear hK K
    (try simp only [Act.put, List.setIfInBounds_toArray, List.set_cons_zero, List.set_cons_succ])
    refine wpAnyH_ready (rs := [6]) (by kernel_rfl) (by simp) ?_
    refine AllReadyH.cons rfl (fun K hK => ?_) AllReadyH.nil
    go_simp
    refine hK.out _ _ (by (first | exact KS.out _ (by assumption) | (simp only [Act.put]; exact KS.out _ (by assumption)))) (fun hHeld => ?_)
    clear hK K
    (try simp only [Act.put, List.setIfInBounds_toArray, List.set_cons_zero, List.set_cons_succ])
    refine wpAnyH_ready (rs := [7]) (by kernel_rfl) (by simp) ?_
    refine AllReadyH.cons rfl (fun K hK => ?_) AllReadyH.nil
    refine step_appR w3 (some ⟨g3, 0, none⟩) 4 4 (by rfl) _ _ (by rfl) W4.heap.size _ vs (by rfl) (by rfl) HX3.out.2.1 HVL.out HX3.out.2.2.2.2.1 ?_
    intro v5 w5 hg5
    obtain ⟨hq5, hj5, hk5⟩ := NodesJ.push (x := (a, m)) (H := H) HOB.out HX3.out.1 HX3.out.2.1 HX3.out.2.2.1 HX3.out.2.2.2.1 HG3.out.1 (by decide) (by decide) HG3.out.2.1 HG3.out.2.2.1 HG3.out.2.2.2 hg5
    obtain ⟨A5, n5, c5, rfl, hn5, _⟩ := ownR_shape hg5.own
    have kk5 : W4.grownBy w5 (some ob) ∧ KeepG W1 w5 := ⟨grownBy_new HX3.out.2.2.2.1 hg5.grown fun k hk => (World.ownsRow.lt HX3.out.2.1 k hk).1, (KeepG.of HX3.out.2.2.2.2.2).trans (KeepG.grew hg5 HX3.out.2.1)⟩
    have kk6 : W4.grownBy (w5.setCell ⟨ob, 2, none⟩ (.slice A5 n5 c5)) (some ob) ∧ KeepG W1 (w5.setCell ⟨ob, 2, none⟩ (.slice A5 n5 c5)) := ⟨grownBy_trans kk5.1 blk_grown, (KeepG.of HX3.out.2.2.2.2.2).trans hk5⟩
    have e2 := (hq5.cell 2).trans (show _ = some (.slice AV nV cV) from rfl)
    have z2 := hq5.frozen 2
    have HFIN := Lib.hid (And.intro hj5 (HKG.out.trans kk6.2))
    clear hj5 hk5 hq5 hg5 hn5
    refine hK.out _ _ (by (first | exact KS.out _ (by assumption) | (simp only [Act.put]; exact KS.out _ (by assumption)))) (fun hHeld => ?_)
    clear hK K
    (try simp only [Act.put, List.setIfInBounds_toArray, List.set_cons_zero, List.set_cons_succ])
    refine wpAnyH_ready (rs := [8]) (by kernel_rfl) (by simp) ?_
    refine AllReadyH.cons rfl (fun K hK => ?_) AllReadyH.nil
    go_simp
    refine hK.out _ _ (by (first | exact KS.out _ (by assumption) | (simp only [Act.put]; exact KS.out _ (by assumption)))) (fun hHeld => ?_)
    clear hK K
    (try simp only [Act.put, List.setIfInBounds_toArray, List.set_cons_zero, List.set_cons_succ])
    refine wpAnyH_ready (rs := [9]) (by kernel_rfl) (by simp) ?_
    refine AllReadyH.cons rfl (fun K hK => ?_) AllReadyH.nil
    go_simp
    refine hK.out _ _ (by (first | exact KS.out _ (by assumption) | (simp only [Act.put]; exact KS.out _ (by assumption)))) (fun hHeld => ?_)
    clear hK K
    (try simp only [Act.put, List.setIfInBounds_toArray, List.set_cons_zero, List.set_cons_succ])
    refine wpAnyH_done (by kernel_rfl) ?_ _
    go_wp2
    go_end0
    exact ⟨⟨_, rfl⟩, HFIN.out.1, HFIN.out.2⟩
  · go_simp
    refine (HRT.out _ (KX.out _ hb11).1.1 (KX.out _ hb11).1.2.1 (KX.out _ hb11).1.2.2).mono ?_
    rintro _ w3 ⟨g3, rfl, ⟨x3, y3⟩, s3, l3, i3, n3, hb3⟩
    have hb13 : Below W1.heap.size W1 w3 := hb11.trans (hb3.mono hb11.size)
    have HX3 := Lib.hid (show _ ∧ _ ∧ _ ∧ _ ∧ W4.heap.size ≤ w3.heap.size ∧ Below W1.heap.size W1 w3 from ⟨(KX.out _ hb13).2.1, (KX.out _ hb13).2.2.1, (KX.out _ hb13).2.2.2.1, (KX.out _ hb13).2.2.2.2, (KX.out _ hb13).2.2.2.2.size, hb13⟩)
    have HG3 := Lib.hid (And.intro y3 (And.intro s3 (And.intro l3 i3)))
    have kk3 : W4.grownBy w3 (some ob) ∧ KeepG W1 w3 := ⟨(KX.out _ hb13).2.2.2.2, KeepG.of hb13⟩
    have hba := (Below.refl w3.heap.size w3).alloc (Nat.le_refl _) (.cells #[.slice (some ⟨g3, 0, none⟩) 4 4] 22)
    have kk4 : W4.grownBy (w3.alloc (.cells #[.slice (some ⟨g3, 0, none⟩) 4 4] 22)) (some ob) ∧ KeepG W1 (w3.alloc (.cells #[.slice (some ⟨g3, 0, none⟩) 4 4] 22)) := ⟨grownBy_trans kk3.1 (grown_of_below hba _), kk3.2.trans (KeepG.of hba)⟩
    have c3 := (HX3.out.1.cell 2).trans (show _ = some (.slice AV nV cV) from rfl)
    have c4 := ((Blk.alloc HX3.out.1 (.cells #[.slice (some ⟨g3, 0, none⟩) 4 4] 22)).cell 2).trans (show _ = some (.slice AV nV cV) from rfl)
    clear y3 s3 l3 i3 n3 hb3 hb13 hba
    refine hK.out _ _ (by (first | exact KS.out _ (by assumption) | (simp only [Act.put]; exact KS.out _ (by assumption)))) (fun hHeld => ?_)
    clear hK K
    (try simp only [Act.put, List.setIfInBounds_toArray, List.set_cons_zero, List.set_cons_succ])
    refine wpAnyH_ready (rs := [1, 6]) (by kernel_rfl) (by simp) ?_
    refine AllReadyH.cons rfl (fun K hK => ?_) (AllReadyH.cons rfl (fun K hK => ?_) AllReadyH.nil)
    · go_simp
      refine hK.out _ _ (by (first | exact KS.out _ (by assumption) | (simp only [Act.put]; exact KS.out _ (by assumption)))) (fun hHeld => ?_)
      clear hK K
      (try simp only [Act.put, List.setIfInBounds_toArray, List.set_cons_zero, List.set_cons_succ])
      refine wpAnyH_ready (rs := [6]) (by kernel_rfl) (by simp) ?_
      refine AllReadyH.cons rfl (fun K hK => ?_) AllReadyH.nil
      go_simp
      refine hK.out _ _ (by (first | exact KS.out _ (by assumption) | (simp only [Act.put]; exact KS.out _ (by assumption)))) (fun hHeld => ?_)
      clear hK K
      (try simp only [Act.put, List.setIfInBounds_toArray, List.set_cons_zero, List.set_cons_succ])
      refine wpAnyH_ready (rs := [7]) (by kernel_rfl) (by simp) ?_
      refine AllReadyH.cons rfl (fun K hK => ?_) AllReadyH.nil
      refine step_appR w3 (some ⟨g3, 0, none⟩) 4 4 (by rfl) _ _ (by rfl) W4.heap.size _ vs (by rfl) (by rfl) HX3.out.2.1 HVL.out HX3.out.2.2.2.2.1 ?_
      intro v5 w5 hg5
      obtain ⟨hq5, hj5, hk5⟩ := NodesJ.push (x := (a, m)) (H := H) HOB.out HX3.out.1 HX3.out.2.1 HX3.out.2.2.1 HX3.out.2.2.2.1 HG3.out.1 (by decide) (by decide) HG3.out.2.1 HG3.out.2.2.1 HG3.out.2.2.2 hg5
      obtain ⟨A5, n5, c5, rfl, hn5, _⟩ := ownR_shape hg5.own
      have kk5 : W4.grownBy w5 (some ob) ∧ KeepG W1 w5 := ⟨grownBy_new HX3.out.2.2.2.1 hg5.grown fun k hk => (World.ownsRow.lt HX3.out.2.1 k hk).1, (KeepG.of HX3.out.2.2.2.2.2).trans (KeepG.grew hg5 HX3.out.2.1)⟩
      have kk6 : W4.grownBy (w5.setCell ⟨ob, 2, none⟩ (.slice A5 n5 c5)) (some ob) ∧ KeepG W1 (w5.setCell ⟨ob, 2, none⟩ (.slice A5 n5 c5)) := ⟨grownBy_trans kk5.1 blk_grown, (KeepG.of HX3.out.2.2.2.2.2).trans hk5⟩
      have e2 := (hq5.cell 2).trans (show _ = some (.slice AV nV cV) from rfl)
      have z2 := hq5.frozen 2
      have HFIN := Lib.hid (And.intro hj5 (HKG.out.trans kk6.2))
      clear hj5 hk5 hq5 hg5 hn5
      refine hK.out _ _ (by (first | exact KS.out _ (by assumption) | (simp only [Act.put]; exact KS.out _ (by assumption)))) (fun hHeld => ?_)
      clear hK K
      (try simp only [Act.put, List.setIfInBounds_toArray, List.set_cons_zero, List.set_cons_succ])
      refine wpAnyH_ready (rs := [8]) (by kernel_rfl) (by simp) ?_
      refine AllReadyH.cons rfl (fun K hK => ?_) AllReadyH.nil
      go_simp
      refine hK.out _ _ (by (first | exact KS.out _ (by assumption) | (simp only [Act.put]; exact KS.out _ (by assumption)))) (fun hHeld => ?_)
      clear hK K
      (try simp only [Act.put, List.setIfInBounds_toArray, List.set_cons_zero, List.set_cons_succ])
      refine wpAnyH_ready (rs := [9]) (by kernel_rfl) (by simp) ?_
      refine AllReadyH.cons rfl (fun K hK => ?_) AllReadyH.nil
      go_simp
      refine hK.out _ _ (by (first | exact KS.out _ (by assumption) | (simp only [Act.put]; exact KS.out _ (by assumption)))) (fun hHeld => ?_)
      clear hK K
      (try simp only [Act.put, List.setIfInBounds_toArray, List.set_cons_zero, List.set_cons_succ])
      refine wpAnyH_done (by kernel_rfl) ?_ _
      go_wp2
      go_end0
      exact ⟨⟨_, rfl⟩, HFIN.out.1, HFIN.out.2⟩
    · go_simp
      refine hK.out _ _ (by (first | exact KS.out _ (by assumption) | (simp only [Act.put]; exact KS.out _ (by assumption)))) (fun hHeld => ?_)
      clear hK K
      (try simp only [Act.put, List.setIfInBounds_toArray, List.set_cons_zero, List.set_cons_succ])
      refine wpAnyH_ready (rs := [1]) (by kernel_rfl) (by simp) ?_
      refine AllReadyH.cons rfl (fun K hK => ?_) AllReadyH.nil
      go_simp
      refine hK.out _ _ (by (first | exact KS.out _ (by assumption) | (simp only [Act.put]; exact KS.out _ (by assumption)))) (fun hHeld => ?_)
      clear hK K
      (try simp only [Act.put, List.setIfInBounds_toArray, List.set_cons_zero, List.set_cons_succ])
      refine wpAnyH_ready (rs := [7]) (by kernel_rfl) (by simp) ?_
      refine AllReadyH.cons rfl (fun K hK => ?_) AllReadyH.nil
      refine step_appR w3 (some ⟨g3, 0, none⟩) 4 4 (by rfl) _ _ (by rfl) W4.heap.size _ vs (by rfl) (by rfl) HX3.out.2.1 HVL.out HX3.out.2.2.2.2.1 ?_
      intro v5 w5 hg5
      obtain ⟨hq5, hj5, hk5⟩ := NodesJ.push (x := (a, m)) (H := H) HOB.out HX3.out.1 HX3.out.2.1 HX3.out.2.2.1 HX3.out.2.2.2.1 HG3.out.1 (by decide) (by decide) HG3.out.2.1 HG3.out.2.2.1 HG3.out.2.2.2 hg5
      obtain ⟨A5, n5, c5, rfl, hn5, _⟩ := ownR_shape hg5.own
      have kk5 : W4.grownBy w5 (some ob) ∧ KeepG W1 w5 := ⟨grownBy_new HX3.out.2.2.2.1 hg5.grown fun k hk => (World.ownsRow.lt HX3.out.2.1 k hk).1, (KeepG.of HX3.out.2.2.2.2.2).trans (KeepG.grew hg5 HX3.out.2.1)⟩
      have kk6 : W4.grownBy (w5.setCell ⟨ob, 2, none⟩ (.slice A5 n5 c5)) (some ob) ∧ KeepG W1 (w5.setCell ⟨ob, 2, none⟩ (.slice A5 n5 c5)) := ⟨grownBy_trans kk5.1 blk_grown, (KeepG.of HX3.out.2.2.2.2.2).trans hk5⟩
      have e2 := (hq5.cell 2).trans (show _ = some (.slice AV nV cV) from rfl)
      have z2 := hq5.frozen 2
      have HFIN := Lib.hid (And.intro hj5 (HKG.out.trans kk6.2))
      clear hj5 hk5 hq5 hg5 hn5
      refine hK.out _ _ (by (first | exact KS.out _ (by assumption) | (simp only [Act.put]; exact KS.out _ (by assumption)))) (fun hHeld => ?_)
      clear hK K
      (try simp only [Act.put, List.setIfInBounds_toArray, List.set_cons_zero, List.set_cons_succ])
      refine wpAnyH_ready (rs := [8]) (by kernel_rfl) (by simp) ?_
      refine AllReadyH.cons rfl (fun K hK => ?_) AllReadyH.nil
      go_simp
      refine hK.out _ _ (by (first | exact KS.out _ (by assumption) | (simp only [Act.put]; exact KS.out _ (by assumption)))) (fun hHeld => ?_)
      clear hK K
      (try simp only [Act.put, List.setIfInBounds_toArray, List.set_cons_zero, List.set_cons_succ])
      refine wpAnyH_ready (rs := [9]) (by kernel_rfl) (by simp) ?_
      refine AllReadyH.cons rfl (fun K hK => ?_) AllReadyH.nil
      go_simp
      refine hK.out _ _ (by (first | exact KS.out _ (by assumption) | (simp only [Act.put]; exact KS.out _ (by assumption)))) (fun hHeld => ?_)
      clear hK K
      (try simp only [Act.put, List.setIfInBounds_toArray, List.set_cons_zero, List.set_cons_succ])
      refine wpAnyH_done (by kernel_rfl) ?_ _
      go_wp2
      go_end0
      exact ⟨⟨_, rfl⟩, HFIN.out.1, HFIN.out.2⟩
end Go.Proofs.YtijhajkakmohnaaGreatDoor

/- The walk of tree.Open. -/
set_option linter.unusedVariables false
set_option linter.unusedSimpArgs false
namespace Go.Proofs.YtijhajkakmohnaaGreatDoor
open Go.RowKit Zp
/-- an Opening of the caller's, and no error -/
def TOpenedIs (l : List Int) (rs ns : List (List Int)) (w : World) (e : Ending) (w' : World) : Prop :=
  ∃ A0 n0 c0 AR nR cR AN nN cN, e = .returned (.tuple #[.agg #[.slice A0 n0 c0, .slice AR nR cR, .slice AN nN cN], .nilIface]) ∧ OpnAt w' A0 n0 c0 l AR nR cR rs AN nN cN ns ∧ Below w.heap.size w w'
theorem OpenedUp.tup {l : List Int} {rs ns : List (List Int)} {w w' : World} {v : Value} (h : OpenedUp l rs ns w (.returned v) w') : TOpenedIs l rs ns w (.returned (.tuple #[v, .nilIface])) w' := by
  obtain ⟨A0, n0, c0, AR, nR, cR, AN, nN, cN, e, h1, h2, _⟩ := h
  injection e with e
  exact ⟨A0, n0, c0, AR, nR, cR, AN, nN, cN, by rw [e], h1, h2⟩
/-- no Opening, but an error -/
def TOpenNo (n : Int) (w : World) (e : Ending) (w' : World) : Prop := e = .returned (.tuple #[.agg #[.slice none 0 0, .slice none 0 0, .slice none 0 0], .iface 89 (vi n)]) ∧ Below w.heap.size w w'
/-- the three blocks that tree.Open begins with -/
structure Ent (w W : World) (s A : Option Addr) (N c : Nat) : Prop where
  hs : Blk W w.heap.size 26 #[.pointer s]
  hr : Blk W (w.heap.size + 1) 23 #[.slice A N c]
  ho : Blk W (w.heap.size + 1 + 1) 25 #[.slice none 0 0, .slice none 0 0, .slice none 0 0]
  hb : Below w.heap.size w W
  hz : w.heap.size + 1 + 1 < W.heap.size
theorem Ent.new (w : World) (s A : Option Addr) (N c : Nat) : Ent w (((w.alloc (.cells #[.pointer s] 26)).alloc (.cells #[.slice A N c] 23)).alloc (.cells #[.slice none 0 0, .slice none 0 0, .slice none 0 0] 25)) s A N c := by
  refine ⟨((Blk.new w _ _).alloc _).alloc _, ?_, ?_, (((Below.refl _ _).alloc (Nat.le_refl _) _).alloc (by simp) _).alloc (by simp; omega) _, by simp⟩
  · have h := (Blk.new (w.alloc (.cells #[.pointer s] 26)) 23 #[.slice A N c]).alloc (.cells #[.slice none 0 0, .slice none 0 0, .slice none 0 0] 25)
    simpa using h
  · have h := Blk.new ((w.alloc (.cells #[.pointer s] 26)).alloc (.cells #[.slice A N c] 23)) 25 #[.slice none 0 0, .slice none 0 0, .slice none 0 0]
    simpa using h
theorem Ent.below {w W W' : World} {s A : Option Addr} {N c : Nat} (h : Ent w W s A N c) (hb : Below (w.heap.size + 1 + 1 + 1) W W') : Ent w W' s A N c :=
  ⟨Blk.below h.hs hb (by omega), Blk.below h.hr hb (by omega), Blk.below h.ho hb (by omega), h.hb.trans (hb.mono (by omega)), Nat.lt_of_lt_of_le h.hz hb.size⟩
theorem Ent.cs {w W : World} {s A : Option Addr} {N c : Nat} (h : Ent w W s A N c) : W.cell? ⟨w.heap.size, 0, none⟩ = some (.pointer s) := (h.hs.cell 0).trans rfl
theorem Ent.cr {w W : World} {s A : Option Addr} {N c : Nat} (h : Ent w W s A N c) : W.cell? ⟨w.heap.size + 1, 0, none⟩ = some (.slice A N c) := (h.hr.cell 0).trans rfl
set_option maxRecDepth 100000 in
set_option maxHeartbeats 2000000 in
theorem topen_no1 (s A : Option Addr) (N c : Nat) (hN : rightB N = false) (A0 : Option Addr) (n0 c0 : Nat) (w : World) :
    Calls Tryz.prog 14 #[.pointer s, .slice A N c, .slice A0 n0 c0] w (TOpenNo 2 w) := by
  have HR := Lib.hid (fun w => right_any (N : Int) w)
  have HN := Lib.hid hN
  have hE := Ent.new w s A N c
  obtain ⟨W0, hW0⟩ : ∃ W0, W0 = ((w.alloc (.cells #[.pointer s] 26)).alloc (.cells #[.slice A N c] 23)).alloc (.cells #[.slice none 0 0, .slice none 0 0, .slice none 0 0] 25) := ⟨_, rfl⟩
  rw [← hW0] at hE
  have HW0 := Lib.hid hW0
  have HE := Lib.hid hE
  have e1 := hE.cr
  have f0 := (hE.ho.cell 0).trans (show _ = some (.slice none 0 0) from rfl)
  have f1 := (hE.ho.cell 1).trans (show _ = some (.slice none 0 0) from rfl)
  have f2 := (hE.ho.cell 2).trans (show _ = some (.slice none 0 0) from rfl)
  have z0 := hE.ho.frozen 0
  have z1 := hE.ho.frozen 1
  have z2 := hE.ho.frozen 2
  obtain ⟨hset, hgr⟩ := blk_set3 hE.ho (.slice none 0 0) (.slice none 0 0) (.slice none 0 0)
  have HS := Lib.hid hset
  have HB := Lib.hid (hE.hb.grown hgr hE.hb.size (fun x hx => by injection hx with hx; omega))
  clear hN hW0 hE hset hgr
  go_enter Tryz.func14, Tryz.ntmps14
  go_upto_region 1 with (fail)
  rw [← HW0.out]
  go_wp2_with fail
  refine (HR.out _).mono ?_
  rintro e w' ⟨rfl, rfl⟩
  rw [HN.out]
  go_wp2
  have q0 := (HS.out.cell 0).trans (show _ = some (.slice none 0 0) from rfl)
  have q1 := (HS.out.cell 1).trans (show _ = some (.slice none 0 0) from rfl)
  have q2 := (HS.out.cell 2).trans (show _ = some (.slice none 0 0) from rfl)
  exact bodyPost_ret (v := .tuple #[.agg #[.slice none 0 0, .slice none 0 0, .slice none 0 0], .iface 89 (vi 2)]) (by simp [results, Tryz.results14, go_sem, q0, q1, q2]) rfl ⟨rfl, HB.out⟩
set_option maxRecDepth 100000 in
set_option maxHeartbeats 2000000 in
theorem topen_no2 (s : Nat) (A : Option Addr) (N c : Nat) (h1 : 1 ≤ N) (hN2 : N ≤ 65536) (A0 : Option Addr) (n0 c0 : Nat) (l : List Int) (hl : l.length = n0) (hn0 : n0 ≤ 9223372036854775806) (hin : l.any (outB N) = true) (w : World) (hs : SL w A0 l) :
    Calls Tryz.prog 14 #[.pointer (some ⟨s, 0, none⟩), .slice A N c, .slice A0 n0 c0] w (TOpenNo 3 w) := by
  have HR := Lib.hid (fun w => right_any (N : Int) w)
  have HN := Lib.hid (show rightB (N : Int) = true from decide_eq_true (by constructor <;> omega))
  have hE := Ent.new w (some ⟨s, 0, none⟩) A N c
  obtain ⟨W0, hW0⟩ : ∃ W0, W0 = ((w.alloc (.cells #[.pointer (some ⟨s, 0, none⟩)] 26)).alloc (.cells #[.slice A N c] 23)).alloc (.cells #[.slice none 0 0, .slice none 0 0, .slice none 0 0] 25) := ⟨_, rfl⟩
  rw [← hW0] at hE
  have HW0 := Lib.hid hW0
  have HE := Lib.hid hE
  have e1 := hE.cr
  have hcf := containsI_any 39 (enters_of Tryz.func39 (by kernel_rfl) rfl) #[.pointer (some ⟨w.heap.size + 1, 0, none⟩)] (outB N) A0 n0 c0 l hl (by omega) W0 (fun x _ => open1_any x _ A N c W0 e1) (hs.below hE.hb)
  rw [hin] at hcf
  have HCF := Lib.hid hcf
  clear hcf hW0
  have f0 := (hE.ho.cell 0).trans (show _ = some (.slice none 0 0) from rfl)
  have f1 := (hE.ho.cell 1).trans (show _ = some (.slice none 0 0) from rfl)
  have f2 := (hE.ho.cell 2).trans (show _ = some (.slice none 0 0) from rfl)
  have z0 := hE.ho.frozen 0
  have z1 := hE.ho.frozen 1
  have z2 := hE.ho.frozen 2
  obtain ⟨hset, hgr⟩ := blk_set3 hE.ho (.slice none 0 0) (.slice none 0 0) (.slice none 0 0)
  have HS := Lib.hid hset
  have HB := Lib.hid (hE.hb.grown hgr hE.hb.size (fun x hx => by injection hx with hx; omega))
  clear hE hset hgr hs hl hn0 hin h1 hN2
  go_enter Tryz.func14, Tryz.ntmps14
  go_upto_region 1 with (fail)
  rw [← HW0.out]
  go_wp2_with fail
  refine (HR.out _).mono ?_
  rintro e w' ⟨rfl, rfl⟩
  rw [HN.out]
  go_wp2_with fail
  refine HCF.out.mono ?_
  rintro e w' ⟨rfl, rfl⟩
  go_wp2
  have q0 := (HS.out.cell 0).trans (show _ = some (.slice none 0 0) from rfl)
  have q1 := (HS.out.cell 1).trans (show _ = some (.slice none 0 0) from rfl)
  have q2 := (HS.out.cell 2).trans (show _ = some (.slice none 0 0) from rfl)
  exact bodyPost_ret (v := .tuple #[.agg #[.slice none 0 0, .slice none 0 0, .slice none 0 0], .iface 89 (vi 3)]) (by simp [results, Tryz.results14, go_sem, q0, q1, q2]) rfl ⟨rfl, HB.out⟩
set_option maxRecDepth 100000 in
set_option maxHeartbeats 16000000 in
theorem topen_yes (p S b s k z : Nat) [NeZero p] (oo : Nat → Nat → Fin p) (A : Option Addr) (N c : Nat) (ls : List (List Int)) (hN : ls.length = N) (h1 : 1 ≤ N) (hN2 : N ≤ 65536) (hR : ∀ t ∈ ls, t.length * 8 ≤ 140737488351232)
    (A0 : Option Addr) (n0 c0 : Nat) (l : List Int) (hl : l.length = n0) (hn0 : n0 * 8 ≤ 140737488351232) (hin : l.any (outB N) = false) (w : World) (F : Fld w S b p) (G : Spg w s b k z oo) (hs : SL w A0 l) (hT : TB w A ls) :
    Calls Tryz.prog 14 #[.pointer (some ⟨s, 0, none⟩), .slice A N c, .slice A0 n0 c0] w (TOpenedIs (onceL l) (openR p ls (onceL l)) ((hidL (onceL l) 0 N).map fun g => rootD (digL p k) (rowF ls) g.1 g.2) w) := by
  have HR := Lib.hid (fun w => right_any (N : Int) w)
  have HN := Lib.hid (show rightB (N : Int) = true from decide_eq_true (by constructor <;> omega))
  have hE := Ent.new w (some ⟨s, 0, none⟩) A N c
  obtain ⟨W0, hW0⟩ : ∃ W0, W0 = ((w.alloc (.cells #[.pointer (some ⟨s, 0, none⟩)] 26)).alloc (.cells #[.slice A N c] 23)).alloc (.cells #[.slice none 0 0, .slice none 0 0, .slice none 0 0] 25) := ⟨_, rfl⟩
  rw [← hW0] at hE
  have HW0 := Lib.hid hW0
  have HE := Lib.hid hE
  have e1 := hE.cr
  have hcf := containsI_any 39 (enters_of Tryz.func39 (by kernel_rfl) rfl) #[.pointer (some ⟨w.heap.size + 1, 0, none⟩)] (outB N) A0 n0 c0 l hl (by omega) W0 (fun x _ => open1_any x _ A N c W0 e1) (hs.below hE.hb)
  rw [hin] at hcf
  have HCF := Lib.hid hcf
  clear hcf hW0
  obtain ⟨T, hTT⟩ : ∃ T, T = onceL l := ⟨_, rfl⟩
  have hTa : Asc T := by rw [hTT]; exact asc_onceL l
  have hTin : ∀ x ∈ T, 0 ≤ x ∧ x < N := fun x hx => by
    rw [hTT, mem_onceL] at hx
    have h := List.any_eq_false.1 hin x hx
    unfold outB at h
    exact Classical.byContradiction fun h' => h (decide_eq_true h')
  have hTl := hTa.len hTin
  have hcm := compact_once l
  rw [← hTT] at hcm ⊢
  have HCL := Lib.hid (fun W' (h : Below w.heap.size w W') => clone_any A0 n0 c0 l hl (by omega) W' (hs.below h))
  have HCM := Lib.hid hcm
  have HLS := Lib.hid (And.intro hN (And.intro h1 (And.intro hN2 (And.intro hR (And.intro hTl (And.intro hTa hTin))))))
  have HLL := Lib.hid (And.intro hl hn0)
  have HX := Lib.hid (fun W' (h : Below w.heap.size w W') => (show Fld W' S b p ∧ Spg W' s b k z oo ∧ TB W' A ls from ⟨F.below h F.le, G.below h (block_lt_of_cell G.c0), hT.below h⟩))
  have HPM := Lib.hid F.max
  have HT0 := Lib.hid hT
  have HEB := Lib.hid hE.hb
  clear hE hs hl hn0 hin h1 hN2 hN hR F G hT hTT hTa hTin hTl hcm
  go_enter Tryz.func14, Tryz.ntmps14
  go_upto_region 1 with (fail)
  rw [← HW0.out]
  go_wp2_with fail
  refine (HR.out _).mono ?_
  rintro e w' ⟨rfl, rfl⟩
  rw [HN.out]
  go_wp2_with fail
  refine HCF.out.mono ?_
  rintro e w' ⟨rfl, rfl⟩
  go_wp2_with fail
  refine (HCL.out _ HEB.out).mono ?_
  rintro _ w1 ⟨v1, rfl, ho1, hb1⟩
  obtain ⟨A1, n1, c1, rfl, hl1, hc1, _, _⟩ := ho1.shapeN
  go_wp2_with fail
  obtain ⟨W2, hW2⟩ : ∃ W2, W2 = w1.alloc (.cells #[.slice A1 n1 c1, .slice none 0 0, .slice none 0 0] 25) := ⟨_, rfl⟩
  obtain ⟨ob, hob⟩ : ∃ ob, ob = w1.heap.size := ⟨_, rfl⟩
  have hB2 : Blk W2 ob 25 #[.slice A1 n1 c1, .slice none 0 0, .slice none 0 0] := by rw [hW2, hob]; exact Blk.new _ _ _
  have hb2 : Below W0.heap.size W0 W2 := by rw [hW2]; exact hb1.alloc hb1.size _
  have ho2 : Own W2 W0.heap.size (.slice A1 n1 c1) l := by rw [hW2]; exact ho1.alloc' _
  have hne : some ob ≠ (Value.slice A1 n1 c1).ownBlock := fun e => by have := (ho1.lt ob e.symm).2; omega
  have hob0 : W0.heap.size ≤ ob := by rw [hob]; exact hb1.size
  rw [← hW2, ← hob]
  have HNE := Lib.hid hne
  have HO0 := Lib.hid hob0
  clear hW2 hob hb1 ho1 hne hob0
  have hn1 : n1 ≤ 4000000000000000000 := by have := HLL.out; omega
  refine (sort_any ho2 hl1 hn1).mono ?_
  rintro _ w3 ⟨rfl, ho3, hg3⟩
  have hB3 := Blk.grown hB2 hg3 HNE.out
  have hb3 := hb2.grown hg3 hb2.size (fun k hk => (ho2.lt k hk).1)
  have d3 := (hB3.cell 0).trans (show _ = some (.slice A1 n1 c1) from rfl)
  have HCC := Lib.hid (compact_any ho3 (by rw [List.length_mergeSort]; exact hl1) hn1)
  have HB3 := Lib.hid (And.intro hB3 (And.intro hb3 ho3))
  clear hB2 hb2 ho2 hB3 hb3 ho3 hg3 hl1 hn1
  go_wp2_with fail
  refine HCC.out.mono ?_
  rintro _ w4 ⟨rfl, ho4, hg4⟩
  rw [HCM.out] at ho4
  rw [HCM.out]
  have hB4 := Blk.grown HB3.out.1 hg4 HNE.out
  have hb4 := HB3.out.2.1.grown hg4 HB3.out.2.1.size (fun k hk => (HB3.out.2.2.lt k hk).1)
  obtain ⟨_, _, _, ev, hl4, _, _, hs4⟩ := ho4.shapeN
  injection ev with ev1 ev2 ev3
  subst ev1 ev2 ev3
  have HCL4 := Lib.hid (clone_any A1 T.length c1 T rfl (by have := HLS.out.2.2.2.2.1; have := HLS.out.2.2.1; omega) w4 hs4)
  have HB4 := Lib.hid (And.intro hB4 hb4)
  obtain ⟨tl, htl⟩ : ∃ tl, tl = T.length := ⟨_, rfl⟩
  rw [← htl] at HCL4 ⊢
  clear hB4 hb4 hl4 hs4 ho4 hg4 d3 HCC htl
  go_wp2_with fail
  refine HCL4.out.mono ?_
  rintro _ w5 ⟨v5, rfl, ho5, hb5⟩
  obtain ⟨A5, n5, c5, rfl, hl5, hc5, _, hs5⟩ := ho5.shapeN
  have HCI := Lib.hid (clipI_any A5 n5 c5 hc5 w5 (own_none ho5))
  have hB5 := Blk.below HB4.out.1 hb5 HB4.out.1.lt
  have d5 := (hB5.cell 0).trans (show _ = some (.slice A1 n1 c1) from rfl)
  have z5 := hB5.frozen 0
  have hobw : ob < w4.heap.size := HB4.out.1.lt
  obtain ⟨W6, hW6⟩ : ∃ W6, W6 = w5.setCell ⟨ob, 0, none⟩ (.slice A5 n5 n5) := ⟨_, rfl⟩
  have hg6 : w5.grownBy W6 (some ob) := by rw [hW6]; exact blk_grown
  have hB6 : Blk W6 ob 25 #[.slice A5 n5 n5, .slice none 0 0, .slice none 0 0] := by rw [hW6]; exact hB5.set_ 0 _
  have ho6 := own_past ho5 hg6 hobw
  have hb05 := HB4.out.2.trans (hb5.mono HB4.out.2.size)
  have hb06 := hb05.grown hg6 hb05.size (fun k hk => by injection hk with hk; have := HO0.out; omega)
  have KE : Hid (∀ W', W6.grownBy W' (some ob) → SL W' A5 T ∧ (Fld W' S b p ∧ Spg W' s b k z oo ∧ TB W' A ls) ∧ W'.cell? ⟨w.heap.size, 0, none⟩ = some (.pointer (some ⟨s, 0, none⟩)) ∧ W'.cell? ⟨w.heap.size + 1, 0, none⟩ = some (.slice A N c) ∧ Ent w W' (some ⟨s, 0, none⟩) A N c ∧ Below w.heap.size w W' ∧ Own W' w4.heap.size (.slice A5 n5 c5) T) := Lib.hid fun W' hg => by
    have hz := HE.out.hz
    have h0 := HO0.out
    have hb0 := hb06.grown hg hb06.size (fun k hk => by injection hk with hk; omega)
    have hE' := HE.out.below (hb0.mono (by omega))
    have hbw := HEB.out.trans (hb0.mono HEB.out.size)
    have how := ho6.keep fun g hgv => hg.block g (ho6.lt g hgv).2 (fun e => by injection e with e; have := (ho6.lt g hgv).1; omega)
    obtain ⟨_, _, _, ev, _, _, _, hsl⟩ := how.shapeN
    injection ev with ev1 ev2 ev3
    subst ev1 ev2 ev3
    exact ⟨hsl, HX.out W' hbw, hE'.cs, hE'.cr, hE', hbw, how⟩
  have HB6 := Lib.hid hB6
  have HL5 := Lib.hid hl5
  have HC5 := Lib.hid (And.intro hc5 hobw)
  have HW6 := Lib.hid hW6
  clear ho5 hl5 hc5 hs5 hB5 hobw hW6 hg6 hB6 ho6 hb05 hb06 hb5
  go_wp2_with fail
  refine HCI.out.mono ?_
  rintro _ _ ⟨rfl, rfl⟩
  go_upto_region 8 with (fail)
  rw [← HW6.out]
  have d6 := (HB6.out.cell 0).trans (show _ = some (.slice A5 n5 n5) from rfl)
  go_wp2
  obtain ⟨B1, hB1⟩ : ∃ B1, B1 = W6.heap.size := ⟨_, rfl⟩
  have hob1 : ob < B1 := by rw [hB1]; exact HB6.out.lt
  have HBZ := Lib.hid (show W6.heap.size ≤ B1 by rw [hB1]; exact Nat.le_refl _)
  have HOB1 := Lib.hid (And.intro hob1 (show B1 ≤ W6.heap.size by rw [hB1]; exact Nat.le_refl _))
  clear hB1 hob1 d6
  go_loopw [10, 37] (fun _ i wr => ∃ (kk : Nat) (v : Value) (us : List Value), kk ≤ T.length ∧ i = vi kk ∧ BldR wr B1 ob (.slice A5 n5 n5) v us ((openR p ls T).take kk) ∧ W6.grownBy wr (some ob)) (fun _ i _ => n5 - (intOf i).toNat)
  case atStart => exact ⟨0, .slice none 0 0, [], Nat.zero_le _, rfl, ⟨HB6.out, HOB1.out.1, HOB1.out.2, World.ownsRow_nil _ _ _ _, RowsOwn.nil _ _⟩, ⟨rfl, rfl, rfl, Nat.le_refl _, fun _ _ _ => rfl⟩⟩
  case round =>
    obtain ⟨kk, v, us, hk, rfl, hbld, hgr⟩ := hrel
    rw [HL5.out] at hk
    obtain ⟨AV, nV, cV, rfl, hnV, hcV⟩ := ownR_shape hbld.ro
    by_cases hlt : kk < n5
    · have hkT : kk < T.length := by rw [HL5.out]; exact hlt
      obtain ⟨ad, rfl, hab, hcell⟩ := (KE.out _ hgr).1.at_ hkT
      have hx := HLS.out.2.2.2.2.2.2 _ (List.getElem_mem hkT)
      obtain ⟨m, hm⟩ := Int.eq_ofNat_of_zero_le hx.1
      have htk := openR_take p ls T hkT hm
      rw [hm] at hcell hx
      have hmN : m < ls.length := by rw [HLS.out.1]; omega
      obtain ⟨ad2, A2, n2, c2, rfl, hb2, hc2, hl2, hn2, hs2, hi2⟩ := HT0.out m hmN
      have hrl := HLS.out.2.2.2.1 _ (List.getElem_mem hmN)
      rw [rowF_at hmN] at htk
      have HTK := Lib.hid htk
      have hsx : ∀ W', Below w.heap.size w W' → SL W' A2 ls[m] := fun W' h => hs2.below h
      have HI2 := Lib.hid hi2
      have HRL := Lib.hid hrl
      generalize ls[m] = x at *
      have HEL := Lib.hid (fun W' (hs : SL W' A2 x) (hc : W'.cell? ⟨b, 0, none⟩ = some (vi p)) => elements_any p b HPM.out A2 n2 c2 x hl2 HI2.out (by have := HRL.out; omega) W' hs hc)
      have HFD := Lib.hid (fun W' (G : Spg W' s b k z oo) => sfield_s s b k z oo W' G)
      have HSX := Lib.hid hsx
      have i1 : (0 : Int) ≤ (kk : Int) := by omega
      have i2 : (kk : Int) < (n5 : Int) := by omega
      have i3 : (0 : Int) ≤ (m : Int) := by omega
      have i4 : (m : Int) < (N : Int) := hx.2
      have hwr : IntKind.i64.wrap ((kk : Int) + 1) = (kk : Int) + 1 := IntWalk.i64_in _ (by have := HLS.out.2.2.2.2.1; have := HL5.out; have := HLS.out.2.2.1; omega)
      have HUS := Lib.hid (show us.length < 5864062014805 by have := hbld.rr.1; rw [List.length_take] at this; have := HLS.out.2.2.2.2.1; have := HL5.out; have := HLS.out.2.2.1; omega)
      have HBL := Lib.hid hbld
      have HC2 := Lib.hid (And.intro hb2 hc2)
      have hb11 : Below wr.heap.size wr wr.drew := below_drewN (Below.refl _ _) 1
      have kk1 : W6.grownBy wr.drew (some ob) := grownBy_trans hgr (grown_of_below hb11 _)
      have KS : Hid (∀ W', W6.grownBy W' (some ob) → W'.cell? ⟨w.heap.size, 0, none⟩ = some (.pointer (some ⟨s, 0, none⟩)) ∧ W'.cell? ⟨w.heap.size + 1, 0, none⟩ = some (.slice (some ad2) N c) ∧ W'.cell? (ad2.add m) = some (.slice A2 n2 c2)) := Lib.hid fun W' hg => by
        have h := KE.out W' hg
        exact ⟨h.2.2.1, h.2.2.2.1, (h.2.2.2.2.2.1.cell (p := ad2.add m) HC2.out.1).trans HC2.out.2⟩
      have c1 := (hbld.blk.cell 1).trans (show _ = some (.slice AV nV cV) from rfl)
      have c2' := ((Blk.drew hbld.blk).cell 1).trans (show _ = some (.slice AV nV cV) from rfl)
      clear htk hm hx hl2 hn2 hs2 hi2 hrl hmN hkT hbld hb2 hc2 hsx hab
      go_wp2_with fail
      refine wp_region_held_drew (S := fun w' => w'.cell? ⟨w.heap.size, 0, none⟩ = some (.pointer (some ⟨s, 0, none⟩)) ∧ w'.cell? ⟨w.heap.size + 1, 0, none⟩ = some (.slice (some ad2) N c) ∧ w'.cell? (ad2.add m) = some (.slice A2 n2 c2)) (by kernel_rfl) (KS.out _ kk1) (fun hHeld => ?_)
      refine wpAnyH_take_at (i := 0) rfl rfl (by kernel_rfl) (by kernel_rfl) (by kernel_rfl) (fun _ _ _ h => h) (Or.inl ⟨by rfl, by (intro w hSw; (try dsimp only at hSw); go_simp; try with_reducible rfl)⟩) (by assumption) ?_
      (try simp only [Act.put, List.setIfInBounds_toArray, List.set_cons_zero, List.set_cons_succ])
      refine wpAnyH_take_at (i := 2) rfl rfl (by kernel_rfl) (by kernel_rfl) (by kernel_rfl) (fun _ _ _ h => h) (Or.inl ⟨by rfl, by (intro w hSw; (try dsimp only at hSw); go_simp; try with_reducible rfl)⟩) (by assumption) ?_
      (try simp only [Act.put, List.setIfInBounds_toArray, List.set_cons_zero, List.set_cons_succ])
      refine wpAnyH_take_at (i := 4) rfl rfl (by kernel_rfl) (by kernel_rfl) (by kernel_rfl) (fun _ _ _ h => h) (Or.inl ⟨by rfl, by (intro w hSw; (try dsimp only at hSw); go_simp; try with_reducible rfl)⟩) (by assumption) ?_
      (try simp only [Act.put, List.setIfInBounds_toArray, List.set_cons_zero, List.set_cons_succ])
      refine wpAnyH_take_at (i := 5) rfl rfl (by kernel_rfl) (by kernel_rfl) (by kernel_rfl) (fun _ _ _ h => h) (Or.inl ⟨by rfl, by (intro w hSw; (try dsimp only at hSw); go_simp; try with_reducible rfl)⟩) (by assumption) ?_
      (try simp only [Act.put, List.setIfInBounds_toArray, List.set_cons_zero, List.set_cons_succ])
      refine wpAnyH_take_at (i := 6) rfl rfl (by kernel_rfl) (by kernel_rfl) (by kernel_rfl) (fun _ _ _ h => h) (Or.inl ⟨by rfl, by (intro w hSw; (try dsimp only at hSw); go_simp; try with_reducible rfl)⟩) (by assumption) ?_
      (try simp only [Act.put, List.setIfInBounds_toArray, List.set_cons_zero, List.set_cons_succ])
      refine wpAnyH_take_at (i := 7) rfl rfl (by kernel_rfl) (by kernel_rfl) (by kernel_rfl) (fun _ _ _ h => h) (Or.inl ⟨by rfl, by (intro w hSw; (try dsimp only at hSw); go_simp; try with_reducible rfl)⟩) (by assumption) ?_
      (try simp only [Act.put, List.setIfInBounds_toArray, List.set_cons_zero, List.set_cons_succ])
      refine wpAnyH_ready (rs := [1,3]) (by kernel_rfl) (by simp) ?_
      refine AllReadyH.cons rfl (fun K hK => ?_) (AllReadyH.cons rfl (fun K hK => ?_) AllReadyH.nil)
      · go_simp
        refine hK.out _ _ (by (first | exact KS.out _ (by assumption) | (simp only [Act.put]; exact KS.out _ (by assumption)))) (fun hHeld => ?_)
        clear hK K
        (try simp only [Act.put, List.setIfInBounds_toArray, List.set_cons_zero, List.set_cons_succ])
        refine wpAnyH_ready (rs := [3]) (by kernel_rfl) (by simp) ?_
        refine AllReadyH.cons rfl (fun K hK => ?_) AllReadyH.nil
        go_simp
        refine (HFD.out _ (KE.out _ kk1).2.1.2.1).mono ?_
        rintro _ _ ⟨rfl, rfl⟩
        refine hK.out _ _ (by (first | exact KS.out _ (by assumption) | (simp only [Act.put]; exact KS.out _ (by assumption)))) (fun hHeld => ?_)
        clear hK K
        (try simp only [Act.put, List.setIfInBounds_toArray, List.set_cons_zero, List.set_cons_succ])
        refine wpAnyH_ready (rs := [8]) (by kernel_rfl) (by simp) ?_
        refine AllReadyH.cons rfl (fun K hK => ?_) AllReadyH.nil
        go_simp
        refine (HEL.out _ (HSX.out _ (KE.out _ kk1).2.2.2.2.2.1) (KE.out _ kk1).2.1.1.c0).mono ?_
        rintro _ w8 ⟨v8, rfl, ho8, hb8⟩
        obtain ⟨A8, n8, c8, rfl, hl8, _, _, _⟩ := ho8.shapeN
        have hb8' := hb11.trans (hb8.mono hb11.size)
        have hbl8 := HBL.out.below hb8'
        have kk8 : W6.grownBy w8 (some ob) := grownBy_trans kk1 (grown_of_below hb8 _)
        have hba := (Below.refl w8.heap.size w8).alloc (Nat.le_refl _) (.cells #[.slice A8 n8 c8] 22)
        have kk8a : W6.grownBy (w8.alloc (.cells #[.slice A8 n8 c8] 22)) (some ob) := grownBy_trans kk8 (grown_of_below hba _)
        have d8 := (hbl8.blk.cell 1).trans (show _ = some (.slice AV nV cV) from rfl)
        have d8a := ((Blk.alloc hbl8.blk (.cells #[.slice A8 n8 c8] 22)).cell 1).trans (show _ = some (.slice AV nV cV) from rfl)
        have HB8 := Lib.hid (And.intro hbl8 (ho8.more (Nat.le_trans HBL.out.sz hb11.size)))
        clear ho8 hl8 hb8 hb8' hbl8 hba
        refine hK.out _ _ (by (first | exact KS.out _ (by assumption) | (simp only [Act.put]; exact KS.out _ (by assumption)))) (fun hHeld => ?_)
        clear hK K
        (try simp only [Act.put, List.setIfInBounds_toArray, List.set_cons_zero, List.set_cons_succ])
        refine wpAnyH_ready (rs := [9]) (by kernel_rfl) (by simp) ?_
        refine AllReadyH.cons rfl (fun K hK => ?_) AllReadyH.nil
        go_simp
        refine hK.out _ _ (by (first | exact KS.out _ (by assumption) | (simp only [Act.put]; exact KS.out _ (by assumption)))) (fun hHeld => ?_)
        clear hK K
        (try simp only [Act.put, List.setIfInBounds_toArray, List.set_cons_zero, List.set_cons_succ])
        refine wpAnyH_ready (rs := [10]) (by kernel_rfl) (by simp) ?_
        refine AllReadyH.cons rfl (fun K hK => ?_) AllReadyH.nil
        refine step_appR w8 A8 n8 c8 (by rfl) _ _ (by rfl) B1 _ us (by rfl) (by rfl) HB8.out.1.ro HUS.out HB8.out.1.sz ?_
        intro v9 w9 hg9
        obtain ⟨hq9, hbld9, _⟩ := HB8.out.1.push HB8.out.2 hg9
        obtain ⟨A9, n9, c9, rfl, hn9, hc9⟩ := ownR_shape hg9.own
        have kk9 : W6.grownBy w9 (some ob) := grownBy_new kk8 hg9.grown fun j hj => Nat.le_trans HBZ.out (World.ownsRow.lt HB8.out.1.ro j hj).1
        have kk10 : W6.grownBy (w9.setCell ⟨ob, 1, none⟩ (.slice A9 n9 c9)) (some ob) := grownBy_trans kk9 blk_grown
        have d9 := (hq9.cell 1).trans (show _ = some (.slice AV nV cV) from rfl)
        have z9 := hq9.frozen 1
        have HB10 := Lib.hid hbld9
        clear hbld9 hq9 hg9 hn9 hc9
        refine hK.out _ _ (by (first | exact KS.out _ (by assumption) | (simp only [Act.put]; exact KS.out _ (by assumption)))) (fun hHeld => ?_)
        clear hK K
        (try simp only [Act.put, List.setIfInBounds_toArray, List.set_cons_zero, List.set_cons_succ])
        refine wpAnyH_ready (rs := [11]) (by kernel_rfl) (by simp) ?_
        refine AllReadyH.cons rfl (fun K hK => ?_) AllReadyH.nil
        go_simp
        refine hK.out _ _ (by (first | exact KS.out _ (by assumption) | (simp only [Act.put]; exact KS.out _ (by assumption)))) (fun hHeld => ?_)
        clear hK K
        (try simp only [Act.put, List.setIfInBounds_toArray, List.set_cons_zero, List.set_cons_succ])
        refine wpAnyH_ready (rs := [12]) (by kernel_rfl) (by simp) ?_
        refine AllReadyH.cons rfl (fun K hK => ?_) AllReadyH.nil
        go_simp
        refine hK.out _ _ (by (first | exact KS.out _ (by assumption) | (simp only [Act.put]; exact KS.out _ (by assumption)))) (fun hHeld => ?_)
        clear hK K
        (try simp only [Act.put, List.setIfInBounds_toArray, List.set_cons_zero, List.set_cons_succ])
        refine wpAnyH_done (by kernel_rfl) ?_ _
        go_wp2
        go_roundw
        case rel => exact ⟨kk + 1, _, _, by rw [HL5.out]; omega, by go_num, by rw [HTK.out]; exact HB10.out, kk10⟩
        case measure => simp [intOf]; omega
      · go_simp
        refine (HFD.out _ (KE.out _ kk1).2.1.2.1).mono ?_
        rintro _ _ ⟨rfl, rfl⟩
        refine hK.out _ _ (by (first | exact KS.out _ (by assumption) | (simp only [Act.put]; exact KS.out _ (by assumption)))) (fun hHeld => ?_)
        clear hK K
        (try simp only [Act.put, List.setIfInBounds_toArray, List.set_cons_zero, List.set_cons_succ])
        refine wpAnyH_ready (rs := [1,8]) (by kernel_rfl) (by simp) ?_
        refine AllReadyH.cons rfl (fun K hK => ?_) (AllReadyH.cons rfl (fun K hK => ?_) AllReadyH.nil)
        · go_simp
          refine hK.out _ _ (by (first | exact KS.out _ (by assumption) | (simp only [Act.put]; exact KS.out _ (by assumption)))) (fun hHeld => ?_)
          clear hK K
          (try simp only [Act.put, List.setIfInBounds_toArray, List.set_cons_zero, List.set_cons_succ])
          refine wpAnyH_ready (rs := [8]) (by kernel_rfl) (by simp) ?_
          refine AllReadyH.cons rfl (fun K hK => ?_) AllReadyH.nil
          go_simp
          refine (HEL.out _ (HSX.out _ (KE.out _ kk1).2.2.2.2.2.1) (KE.out _ kk1).2.1.1.c0).mono ?_
          rintro _ w8 ⟨v8, rfl, ho8, hb8⟩
          obtain ⟨A8, n8, c8, rfl, hl8, _, _, _⟩ := ho8.shapeN
          have hb8' := hb11.trans (hb8.mono hb11.size)
          have hbl8 := HBL.out.below hb8'
          have kk8 : W6.grownBy w8 (some ob) := grownBy_trans kk1 (grown_of_below hb8 _)
          have hba := (Below.refl w8.heap.size w8).alloc (Nat.le_refl _) (.cells #[.slice A8 n8 c8] 22)
          have kk8a : W6.grownBy (w8.alloc (.cells #[.slice A8 n8 c8] 22)) (some ob) := grownBy_trans kk8 (grown_of_below hba _)
          have d8 := (hbl8.blk.cell 1).trans (show _ = some (.slice AV nV cV) from rfl)
          have d8a := ((Blk.alloc hbl8.blk (.cells #[.slice A8 n8 c8] 22)).cell 1).trans (show _ = some (.slice AV nV cV) from rfl)
          have HB8 := Lib.hid (And.intro hbl8 (ho8.more (Nat.le_trans HBL.out.sz hb11.size)))
          clear ho8 hl8 hb8 hb8' hbl8 hba
          refine hK.out _ _ (by (first | exact KS.out _ (by assumption) | (simp only [Act.put]; exact KS.out _ (by assumption)))) (fun hHeld => ?_)
          clear hK K
          (try simp only [Act.put, List.setIfInBounds_toArray, List.set_cons_zero, List.set_cons_succ])
          refine wpAnyH_ready (rs := [9]) (by kernel_rfl) (by simp) ?_
          refine AllReadyH.cons rfl (fun K hK => ?_) AllReadyH.nil
          go_simp
          refine hK.out _ _ (by (first | exact KS.out _ (by assumption) | (simp only [Act.put]; exact KS.out _ (by assumption)))) (fun hHeld => ?_)
          clear hK K
          (try simp only [Act.put, List.setIfInBounds_toArray, List.set_cons_zero, List.set_cons_succ])
          refine wpAnyH_ready (rs := [10]) (by kernel_rfl) (by simp) ?_
          refine AllReadyH.cons rfl (fun K hK => ?_) AllReadyH.nil
          refine step_appR w8 A8 n8 c8 (by rfl) _ _ (by rfl) B1 _ us (by rfl) (by rfl) HB8.out.1.ro HUS.out HB8.out.1.sz ?_
          intro v9 w9 hg9
          obtain ⟨hq9, hbld9, _⟩ := HB8.out.1.push HB8.out.2 hg9
          obtain ⟨A9, n9, c9, rfl, hn9, hc9⟩ := ownR_shape hg9.own
          have kk9 : W6.grownBy w9 (some ob) := grownBy_new kk8 hg9.grown fun j hj => Nat.le_trans HBZ.out (World.ownsRow.lt HB8.out.1.ro j hj).1
          have kk10 : W6.grownBy (w9.setCell ⟨ob, 1, none⟩ (.slice A9 n9 c9)) (some ob) := grownBy_trans kk9 blk_grown
          have d9 := (hq9.cell 1).trans (show _ = some (.slice AV nV cV) from rfl)
          have z9 := hq9.frozen 1
          have HB10 := Lib.hid hbld9
          clear hbld9 hq9 hg9 hn9 hc9
          refine hK.out _ _ (by (first | exact KS.out _ (by assumption) | (simp only [Act.put]; exact KS.out _ (by assumption)))) (fun hHeld => ?_)
          clear hK K
          (try simp only [Act.put, List.setIfInBounds_toArray, List.set_cons_zero, List.set_cons_succ])
          refine wpAnyH_ready (rs := [11]) (by kernel_rfl) (by simp) ?_
          refine AllReadyH.cons rfl (fun K hK => ?_) AllReadyH.nil
          go_simp
          refine hK.out _ _ (by (first | exact KS.out _ (by assumption) | (simp only [Act.put]; exact KS.out _ (by assumption)))) (fun hHeld => ?_)
          clear hK K
          (try simp only [Act.put, List.setIfInBounds_toArray, List.set_cons_zero, List.set_cons_succ])
          refine wpAnyH_ready (rs := [12]) (by kernel_rfl) (by simp) ?_
          refine AllReadyH.cons rfl (fun K hK => ?_) AllReadyH.nil
          go_simp
          refine hK.out _ _ (by (first | exact KS.out _ (by assumption) | (simp only [Act.put]; exact KS.out _ (by assumption)))) (fun hHeld => ?_)
          clear hK K
          (try simp only [Act.put, List.setIfInBounds_toArray, List.set_cons_zero, List.set_cons_succ])
          refine wpAnyH_done (by kernel_rfl) ?_ _
          go_wp2
          go_roundw
          case rel => exact ⟨kk + 1, _, _, by rw [HL5.out]; omega, by go_num, by rw [HTK.out]; exact HB10.out, kk10⟩
          case measure => simp [intOf]; omega
        · go_simp
          refine (HEL.out _ (HSX.out _ (KE.out _ kk1).2.2.2.2.2.1) (KE.out _ kk1).2.1.1.c0).mono ?_
          rintro _ w8 ⟨v8, rfl, ho8, hb8⟩
          obtain ⟨A8, n8, c8, rfl, hl8, _, _, _⟩ := ho8.shapeN
          have hb8' := hb11.trans (hb8.mono hb11.size)
          have hbl8 := HBL.out.below hb8'
          have kk8 : W6.grownBy w8 (some ob) := grownBy_trans kk1 (grown_of_below hb8 _)
          have hba := (Below.refl w8.heap.size w8).alloc (Nat.le_refl _) (.cells #[.slice A8 n8 c8] 22)
          have kk8a : W6.grownBy (w8.alloc (.cells #[.slice A8 n8 c8] 22)) (some ob) := grownBy_trans kk8 (grown_of_below hba _)
          have d8 := (hbl8.blk.cell 1).trans (show _ = some (.slice AV nV cV) from rfl)
          have d8a := ((Blk.alloc hbl8.blk (.cells #[.slice A8 n8 c8] 22)).cell 1).trans (show _ = some (.slice AV nV cV) from rfl)
          have HB8 := Lib.hid (And.intro hbl8 (ho8.more (Nat.le_trans HBL.out.sz hb11.size)))
          clear ho8 hl8 hb8 hb8' hbl8 hba
          refine hK.out _ _ (by (first | exact KS.out _ (by assumption) | (simp only [Act.put]; exact KS.out _ (by assumption)))) (fun hHeld => ?_)
          clear hK K
          (try simp only [Act.put, List.setIfInBounds_toArray, List.set_cons_zero, List.set_cons_succ])
          refine wpAnyH_ready (rs := [1,9]) (by kernel_rfl) (by simp) ?_
          refine AllReadyH.cons rfl (fun K hK => ?_) (AllReadyH.cons rfl (fun K hK => ?_) AllReadyH.nil)
          · go_simp
            refine hK.out _ _ (by (first | exact KS.out _ (by assumption) | (simp only [Act.put]; exact KS.out _ (by assumption)))) (fun hHeld => ?_)
            clear hK K
            (try simp only [Act.put, List.setIfInBounds_toArray, List.set_cons_zero, List.set_cons_succ])
            refine wpAnyH_ready (rs := [9]) (by kernel_rfl) (by simp) ?_
            refine AllReadyH.cons rfl (fun K hK => ?_) AllReadyH.nil
            go_simp
            refine hK.out _ _ (by (first | exact KS.out _ (by assumption) | (simp only [Act.put]; exact KS.out _ (by assumption)))) (fun hHeld => ?_)
            clear hK K
            (try simp only [Act.put, List.setIfInBounds_toArray, List.set_cons_zero, List.set_cons_succ])
            refine wpAnyH_ready (rs := [10]) (by kernel_rfl) (by simp) ?_
            refine AllReadyH.cons rfl (fun K hK => ?_) AllReadyH.nil
            refine step_appR w8 A8 n8 c8 (by rfl) _ _ (by rfl) B1 _ us (by rfl) (by rfl) HB8.out.1.ro HUS.out HB8.out.1.sz ?_
            intro v9 w9 hg9
            obtain ⟨hq9, hbld9, _⟩ := HB8.out.1.push HB8.out.2 hg9
            obtain ⟨A9, n9, c9, rfl, hn9, hc9⟩ := ownR_shape hg9.own
            have kk9 : W6.grownBy w9 (some ob) := grownBy_new kk8 hg9.grown fun j hj => Nat.le_trans HBZ.out (World.ownsRow.lt HB8.out.1.ro j hj).1
            have kk10 : W6.grownBy (w9.setCell ⟨ob, 1, none⟩ (.slice A9 n9 c9)) (some ob) := grownBy_trans kk9 blk_grown
            have d9 := (hq9.cell 1).trans (show _ = some (.slice AV nV cV) from rfl)
            have z9 := hq9.frozen 1
            have HB10 := Lib.hid hbld9
            clear hbld9 hq9 hg9 hn9 hc9
            refine hK.out _ _ (by (first | exact KS.out _ (by assumption) | (simp only [Act.put]; exact KS.out _ (by assumption)))) (fun hHeld => ?_)
            clear hK K
            (try simp only [Act.put, List.setIfInBounds_toArray, List.set_cons_zero, List.set_cons_succ])
            refine wpAnyH_ready (rs := [11]) (by kernel_rfl) (by simp) ?_
            refine AllReadyH.cons rfl (fun K hK => ?_) AllReadyH.nil
            go_simp
            refine hK.out _ _ (by (first | exact KS.out _ (by assumption) | (simp only [Act.put]; exact KS.out _ (by assumption)))) (fun hHeld => ?_)
            clear hK K
            (try simp only [Act.put, List.setIfInBounds_toArray, List.set_cons_zero, List.set_cons_succ])
            refine wpAnyH_ready (rs := [12]) (by kernel_rfl) (by simp) ?_
            refine AllReadyH.cons rfl (fun K hK => ?_) AllReadyH.nil
            go_simp
            refine hK.out _ _ (by (first | exact KS.out _ (by assumption) | (simp only [Act.put]; exact KS.out _ (by assumption)))) (fun hHeld => ?_)
            clear hK K
            (try simp only [Act.put, List.setIfInBounds_toArray, List.set_cons_zero, List.set_cons_succ])
            refine wpAnyH_done (by kernel_rfl) ?_ _
            go_wp2
            go_roundw
            case rel => exact ⟨kk + 1, _, _, by rw [HL5.out]; omega, by go_num, by rw [HTK.out]; exact HB10.out, kk10⟩
            case measure => simp [intOf]; omega
          · go_simp
            refine hK.out _ _ (by (first | exact KS.out _ (by assumption) | (simp only [Act.put]; exact KS.out _ (by assumption)))) (fun hHeld => ?_)
            clear hK K
            (try simp only [Act.put, List.setIfInBounds_toArray, List.set_cons_zero, List.set_cons_succ])
            refine wpAnyH_ready (rs := [1]) (by kernel_rfl) (by simp) ?_
            refine AllReadyH.cons rfl (fun K hK => ?_) AllReadyH.nil
            go_simp
            refine hK.out _ _ (by (first | exact KS.out _ (by assumption) | (simp only [Act.put]; exact KS.out _ (by assumption)))) (fun hHeld => ?_)
            clear hK K
            (try simp only [Act.put, List.setIfInBounds_toArray, List.set_cons_zero, List.set_cons_succ])
            refine wpAnyH_ready (rs := [10]) (by kernel_rfl) (by simp) ?_
            refine AllReadyH.cons rfl (fun K hK => ?_) AllReadyH.nil
            refine step_appR w8 A8 n8 c8 (by rfl) _ _ (by rfl) B1 _ us (by rfl) (by rfl) HB8.out.1.ro HUS.out HB8.out.1.sz ?_
            intro v9 w9 hg9
            obtain ⟨hq9, hbld9, _⟩ := HB8.out.1.push HB8.out.2 hg9
            obtain ⟨A9, n9, c9, rfl, hn9, hc9⟩ := ownR_shape hg9.own
            have kk9 : W6.grownBy w9 (some ob) := grownBy_new kk8 hg9.grown fun j hj => Nat.le_trans HBZ.out (World.ownsRow.lt HB8.out.1.ro j hj).1
            have kk10 : W6.grownBy (w9.setCell ⟨ob, 1, none⟩ (.slice A9 n9 c9)) (some ob) := grownBy_trans kk9 blk_grown
            have d9 := (hq9.cell 1).trans (show _ = some (.slice AV nV cV) from rfl)
            have z9 := hq9.frozen 1
            have HB10 := Lib.hid hbld9
            clear hbld9 hq9 hg9 hn9 hc9
            refine hK.out _ _ (by (first | exact KS.out _ (by assumption) | (simp only [Act.put]; exact KS.out _ (by assumption)))) (fun hHeld => ?_)
            clear hK K
            (try simp only [Act.put, List.setIfInBounds_toArray, List.set_cons_zero, List.set_cons_succ])
            refine wpAnyH_ready (rs := [11]) (by kernel_rfl) (by simp) ?_
            refine AllReadyH.cons rfl (fun K hK => ?_) AllReadyH.nil
            go_simp
            refine hK.out _ _ (by (first | exact KS.out _ (by assumption) | (simp only [Act.put]; exact KS.out _ (by assumption)))) (fun hHeld => ?_)
            clear hK K
            (try simp only [Act.put, List.setIfInBounds_toArray, List.set_cons_zero, List.set_cons_succ])
            refine wpAnyH_ready (rs := [12]) (by kernel_rfl) (by simp) ?_
            refine AllReadyH.cons rfl (fun K hK => ?_) AllReadyH.nil
            go_simp
            refine hK.out _ _ (by (first | exact KS.out _ (by assumption) | (simp only [Act.put]; exact KS.out _ (by assumption)))) (fun hHeld => ?_)
            clear hK K
            (try simp only [Act.put, List.setIfInBounds_toArray, List.set_cons_zero, List.set_cons_succ])
            refine wpAnyH_done (by kernel_rfl) ?_ _
            go_wp2
            go_roundw
            case rel => exact ⟨kk + 1, _, _, by rw [HL5.out]; omega, by go_num, by rw [HTK.out]; exact HB10.out, kk10⟩
            case measure => simp [intOf]; omega
    · have ek : kk = n5 := by omega
      rw [show (openR p ls T).take kk = openR p ls T by rw [ek, ← HL5.out, ← openR_len p ls T, List.take_length]] at hbld
      have hJ0 : NodesJ (fun g => rootD (digL p k) (rowF ls) g.1 g.2) wr ob (.slice A5 n5 n5) (.slice AV nV cV) [] wr := ⟨.slice none 0 0, [], hbld.blk, World.ownsRow_nil _ _ _ _, UsAt.nil _, ⟨rfl, rfl, rfl, Nat.le_refl _, fun _ _ _ => rfl⟩⟩
      have hEE : ∀ W', wr.grownBy W' (some ob) → Fld W' S b p ∧ Spg W' s b k z oo ∧ TB W' A ls ∧ W'.cell? ⟨w.heap.size, 0, none⟩ = some (.pointer (some ⟨s, 0, none⟩)) ∧ W'.cell? ⟨w.heap.size + 1, 0, none⟩ = some (.slice A N c) := fun W' hg => by
        have h := KE.out W' (grownBy_trans hgr hg)
        exact ⟨h.2.1.1, h.2.1.2.1, h.2.1.2.2, h.2.2.1, h.2.2.2.1⟩
      have hid := hidden_gen 47 (enters_of Tryz.func47 (by kernel_rfl) rfl) #[.pointer (some ⟨ob, 0, none⟩), .pointer (some ⟨w.heap.size, 0, none⟩), .pointer (some ⟨w.heap.size + 1, 0, none⟩)] N HLS.out.2.2.1 A5 n5 n5 T HL5.out (by have := HLS.out.2.2.2.2.1; have := HL5.out; have := HLS.out.2.2.1; omega) HLS.out.2.2.2.2.2.1 (NodesJ (fun g => rootD (digL p k) (rowF ls) g.1 g.2) wr ob (.slice A5 n5 n5) (.slice AV nV cV)) (fun pre W W' h hb => h.below hb) (fun pre W h => by
          obtain ⟨_, _, _, _, _, hg⟩ := h
          exact (KE.out W (grownBy_trans hgr hg)).1)
        (fun pre a m W hj hpl h1 ha => open2_any p S b s k z oo A N c ls HLS.out.1 HLS.out.2.2.1 (fun l hl => by have := HLS.out.2.2.2.1 l hl; omega) ob _ _ _ _ wr hbld.blk.lt hEE pre a m W hj hpl h1 ha) N 0 HLS.out.2.1 (by omega) [] wr (Nat.zero_le _) hJ0
      rw [show Gp 0 (0 + N) = .agg #[vi 0, vi (N : Int)] by simp [Gp]] at hid
      have HID := Lib.hid hid
      have HBL := Lib.hid hbld
      have HGR := Lib.hid hgr
      have d0 := (hbld.blk.cell 0).trans (show _ = some (.slice A5 n5 n5) from rfl)
      have e3 := (KE.out _ hgr).2.2.2.1
      clear hid hJ0 hEE hbld hgr
      go_wp2_with fail
      refine HID.out.mono ?_
      rintro _ w9 ⟨⟨r, rfl⟩, hj9, _⟩
      rw [List.nil_append] at hj9
      obtain ⟨nv, vs, hB9, hN9, hU9, hg9⟩ := hj9
      obtain ⟨AN, nN, cN, rfl, hnN, hcN⟩ := ownR_shape hN9
      have HCA := Lib.hid (fun W => clipR_any AV nV cV hcV W (ownR_none HBL.out.ro))
      have HCN := Lib.hid (fun W => clipR_any AN nN cN hcN W (ownR_none hN9))
      have kk9 := grownBy_trans HGR.out hg9
      have hg9d : wr.grownBy w9.drew (some ob) := grownBy_trans hg9 (grown_of_below (below_drewN (Below.refl _ _) 1) _)
      have d9 := (hB9.cell 0).trans (show _ = some (.slice A5 n5 n5) from rfl)
      have k9 := KE.out _ kk9
      have hob1 := HOB1.out.1
      have hz := HE.out.hz
      have h0 := HO0.out
      have hc5 := HC5.out.2
      have d1 := (hB9.cell 1).trans (show _ = some (.slice AV nV cV) from rfl)
      have d2 := (hB9.cell 2).trans (show _ = some (.slice AN nN cN) from rfl)
      have z1 := hB9.frozen 1
      have z2 := hB9.frozen 2
      have hO9 : Blk w9.drew ob 25 #[.slice A5 n5 n5, .slice AV nV cV, .slice AN nN cN] := hB9
      have hQ9 : Blk w9.drew (w.heap.size + 1 + 1) 25 #[.slice none 0 0, .slice none 0 0, .slice none 0 0] := k9.2.2.2.2.1.ho
      have hgs : w9.drew.grownBy ((w9.drew.setCell ⟨ob, 1, none⟩ (.slice AV nV nV)).setCell ⟨ob, 2, none⟩ (.slice AN nN nN)) (some ob) := grownBy_trans blk_grown blk_grown
      have hfin := opened_fin (q := w.heap.size + 1 + 1) (ob := ob) (w := w) (w5 := w9.drew) (Own.drewN k9.2.2.2.2.2.2 1) (by omega) (fun g hg => by have := (k9.2.2.2.2.2.2.lt g hg).1; omega) (ownR_past HBL.out.ro hg9d hob1) (rowsOwn_past HBL.out.rr hg9d hob1) hob1 hN9 hU9 HBL.out.blk.lt (by omega) hO9 hQ9 hgs (by omega) (below_drewN k9.2.2.2.2.2.1 1)
        n5 nV nN (Nat.le_refl _) (by have := HLS.out.2.2.2.2.1; have := HLS.out.2.2.1; omega) (by rw [openR_len]; have := HLS.out.2.2.2.2.1; have := HLS.out.2.2.1; omega) (by have := hidL_le' T N 0 HLS.out.2.1; rw [List.length_map]; have := HLS.out.2.2.1; omega) (fun x hx => by have := HLS.out.2.2.2.2.2.2 x hx; have := HLS.out.2.2.1; constructor <;> omega) (openR_i64 p HPM.out ls T) (openR_r8 p ls T HLS.out.2.2.2.1) (fun t ht => by obtain ⟨g, _, rfl⟩ := List.mem_map.1 ht; exact rootD_len p k _ _ _)
      have HFIN := Lib.hid hfin.tup
      have hgs' : w9.grownBy ((w9.setCell ⟨ob, 1, none⟩ (.slice AV nV nV)).setCell ⟨ob, 2, none⟩ (.slice AN nN nN)) (some ob) := grownBy_trans blk_grown blk_grown
      have hQ10 := Blk.grown k9.2.2.2.2.1.ho hgs' (by intro e; injection e with e; omega)
      obtain ⟨hset, _⟩ := blk_set3 hQ10 (.slice A5 n5 n5) (.slice AV nV nV) (.slice AN nN nN)
      have q0 := (hset.cell 0).trans (show _ = some (.slice A5 n5 n5) from rfl)
      have q1 := (hset.cell 1).trans (show _ = some (.slice AV nV nV) from rfl)
      have q2 := (hset.cell 2).trans (show _ = some (.slice AN nN nN) from rfl)
      have HQ := Lib.hid (And.intro q0 (And.intro q1 q2))
      have f0 := (k9.2.2.2.2.1.ho.cell 0).trans (show _ = some (.slice none 0 0) from rfl)
      have f1 := (k9.2.2.2.2.1.ho.cell 1).trans (show _ = some (.slice none 0 0) from rfl)
      have f2 := (k9.2.2.2.2.1.ho.cell 2).trans (show _ = some (.slice none 0 0) from rfl)
      have y0 := k9.2.2.2.2.1.ho.frozen 0
      have y1 := k9.2.2.2.2.1.ho.frozen 1
      have y2 := k9.2.2.2.2.1.ho.frozen 2
      have hqo : ¬ w.heap.size + 1 + 1 = ob := by omega
      clear hfin hg9d hB9 hN9 hU9 hg9 hO9 hQ9 hgs hgs' hQ10 hset q0 q1 q2 kk9 k9 HID d0 hob1 hz h0 hc5 e3
      go_wp2
      refine wp_region_held_drew (S := fun _ => True) (by kernel_rfl) trivial (fun hHeld => ?_)
      refine wpAnyH_take_at (i := 0) rfl rfl (by kernel_rfl) (by kernel_rfl) (by kernel_rfl) (fun _ _ _ h => h) (Or.inl ⟨by rfl, by (intro w hSw; (try dsimp only at hSw); go_simp; try with_reducible rfl)⟩) (by assumption) ?_
      (try simp only [Act.put, List.setIfInBounds_toArray, List.set_cons_zero, List.set_cons_succ])
      refine wpAnyH_take_at (i := 3) rfl rfl (by kernel_rfl) (by kernel_rfl) (by kernel_rfl) (fun _ _ _ h => h) (Or.inl ⟨by rfl, by (intro w hSw; (try dsimp only at hSw); go_simp; try with_reducible rfl)⟩) (by assumption) ?_
      (try simp only [Act.put, List.setIfInBounds_toArray, List.set_cons_zero, List.set_cons_succ])
      refine wpAnyH_ready (rs := [1,4]) (by kernel_rfl) (by simp) ?_
      refine AllReadyH.cons rfl (fun K hK => ?_) (AllReadyH.cons rfl (fun K hK => ?_) AllReadyH.nil)
      · go_simp
        refine hK.out _ _ trivial (fun hHeld => ?_)
        clear hK K
        (try simp only [Act.put, List.setIfInBounds_toArray, List.set_cons_zero, List.set_cons_succ])
        refine wpAnyH_ready (rs := [2,4]) (by kernel_rfl) (by simp) ?_
        refine AllReadyH.cons rfl (fun K hK => ?_) (AllReadyH.cons rfl (fun K hK => ?_) AllReadyH.nil)
        · go_simp
          refine (HCA.out _).mono ?_
          rintro _ _ ⟨rfl, rfl⟩
          refine hK.out _ _ trivial (fun hHeld => ?_)
          clear hK K
          (try simp only [Act.put, List.setIfInBounds_toArray, List.set_cons_zero, List.set_cons_succ])
          refine wpAnyH_ready (rs := [4]) (by kernel_rfl) (by simp) ?_
          refine AllReadyH.cons rfl (fun K hK => ?_) AllReadyH.nil
          go_simp
          refine hK.out _ _ trivial (fun hHeld => ?_)
          clear hK K
          (try simp only [Act.put, List.setIfInBounds_toArray, List.set_cons_zero, List.set_cons_succ])
          refine wpAnyH_take_at (i := 6) rfl rfl (by kernel_rfl) (by kernel_rfl) (by kernel_rfl) (fun _ _ _ h => h) (Or.inl ⟨by rfl, by (intro w hSw; (try dsimp only at hSw); go_simp; try with_reducible rfl)⟩) (by assumption) ?_
          (try simp only [Act.put, List.setIfInBounds_toArray, List.set_cons_zero, List.set_cons_succ])
          refine wpAnyH_ready (rs := [5]) (by kernel_rfl) (by simp) ?_
          refine AllReadyH.cons rfl (fun K hK => ?_) AllReadyH.nil
          go_simp
          refine (HCN.out _).mono ?_
          rintro _ _ ⟨rfl, rfl⟩
          refine hK.out _ _ trivial (fun hHeld => ?_)
          clear hK K
          (try simp only [Act.put, List.setIfInBounds_toArray, List.set_cons_zero, List.set_cons_succ])
          refine wpAnyH_ready (rs := [7]) (by kernel_rfl) (by simp) ?_
          refine AllReadyH.cons rfl (fun K hK => ?_) AllReadyH.nil
          go_simp
          refine hK.out _ _ trivial (fun hHeld => ?_)
          clear hK K
          (try simp only [Act.put, List.setIfInBounds_toArray, List.set_cons_zero, List.set_cons_succ])
          refine wpAnyH_ready (rs := [8]) (by kernel_rfl) (by simp) ?_
          refine AllReadyH.cons rfl (fun K hK => ?_) AllReadyH.nil
          go_simp
          refine hK.out _ _ trivial (fun hHeld => ?_)
          clear hK K
          (try simp only [Act.put, List.setIfInBounds_toArray, List.set_cons_zero, List.set_cons_succ])
          refine wpAnyH_ready (rs := [9]) (by kernel_rfl) (by simp) ?_
          refine AllReadyH.cons rfl (fun K hK => ?_) AllReadyH.nil
          go_simp
          refine hK.out _ _ trivial (fun hHeld => ?_)
          clear hK K
          (try simp only [Act.put, List.setIfInBounds_toArray, List.set_cons_zero, List.set_cons_succ])
          refine wpAnyH_done (by kernel_rfl) ?_ _
          go_wp2
          obtain ⟨q0, q1, q2⟩ := HQ.out
          exact bodyPost_ret (v := .tuple #[.agg #[.slice A5 n5 n5, .slice AV nV nV, .slice AN nN nN], .nilIface]) (by simp [results, Tryz.results14, go_sem, q0, q1, q2]) rfl HFIN.out
        · go_simp
          refine hK.out _ _ trivial (fun hHeld => ?_)
          clear hK K
          (try simp only [Act.put, List.setIfInBounds_toArray, List.set_cons_zero, List.set_cons_succ])
          refine wpAnyH_ready (rs := [2]) (by kernel_rfl) (by simp) ?_
          refine AllReadyH.cons rfl (fun K hK => ?_) AllReadyH.nil
          go_simp
          refine (HCA.out _).mono ?_
          rintro _ _ ⟨rfl, rfl⟩
          refine hK.out _ _ trivial (fun hHeld => ?_)
          clear hK K
          (try simp only [Act.put, List.setIfInBounds_toArray, List.set_cons_zero, List.set_cons_succ])
          refine wpAnyH_take_at (i := 6) rfl rfl (by kernel_rfl) (by kernel_rfl) (by kernel_rfl) (fun _ _ _ h => h) (Or.inl ⟨by rfl, by (intro w hSw; (try dsimp only at hSw); go_simp; try with_reducible rfl)⟩) (by assumption) ?_
          (try simp only [Act.put, List.setIfInBounds_toArray, List.set_cons_zero, List.set_cons_succ])
          refine wpAnyH_ready (rs := [5]) (by kernel_rfl) (by simp) ?_
          refine AllReadyH.cons rfl (fun K hK => ?_) AllReadyH.nil
          go_simp
          refine (HCN.out _).mono ?_
          rintro _ _ ⟨rfl, rfl⟩
          refine hK.out _ _ trivial (fun hHeld => ?_)
          clear hK K
          (try simp only [Act.put, List.setIfInBounds_toArray, List.set_cons_zero, List.set_cons_succ])
          refine wpAnyH_ready (rs := [7]) (by kernel_rfl) (by simp) ?_
          refine AllReadyH.cons rfl (fun K hK => ?_) AllReadyH.nil
          go_simp
          refine hK.out _ _ trivial (fun hHeld => ?_)
          clear hK K
          (try simp only [Act.put, List.setIfInBounds_toArray, List.set_cons_zero, List.set_cons_succ])
          refine wpAnyH_ready (rs := [8]) (by kernel_rfl) (by simp) ?_
          refine AllReadyH.cons rfl (fun K hK => ?_) AllReadyH.nil
          go_simp
          refine hK.out _ _ trivial (fun hHeld => ?_)
          clear hK K
          (try simp only [Act.put, List.setIfInBounds_toArray, List.set_cons_zero, List.set_cons_succ])
          refine wpAnyH_ready (rs := [9]) (by kernel_rfl) (by simp) ?_
          refine AllReadyH.cons rfl (fun K hK => ?_) AllReadyH.nil
          go_simp
          refine hK.out _ _ trivial (fun hHeld => ?_)
          clear hK K
          (try simp only [Act.put, List.setIfInBounds_toArray, List.set_cons_zero, List.set_cons_succ])
          refine wpAnyH_done (by kernel_rfl) ?_ _
          go_wp2
          obtain ⟨q0, q1, q2⟩ := HQ.out
          exact bodyPost_ret (v := .tuple #[.agg #[.slice A5 n5 n5, .slice AV nV nV, .slice AN nN nN], .nilIface]) (by simp [results, Tryz.results14, go_sem, q0, q1, q2]) rfl HFIN.out
      · go_simp
        refine hK.out _ _ trivial (fun hHeld => ?_)
        clear hK K
        (try simp only [Act.put, List.setIfInBounds_toArray, List.set_cons_zero, List.set_cons_succ])
        refine wpAnyH_ready (rs := [1]) (by kernel_rfl) (by simp) ?_
        refine AllReadyH.cons rfl (fun K hK => ?_) AllReadyH.nil
        go_simp
        refine hK.out _ _ trivial (fun hHeld => ?_)
        clear hK K
        (try simp only [Act.put, List.setIfInBounds_toArray, List.set_cons_zero, List.set_cons_succ])
        refine wpAnyH_ready (rs := [2]) (by kernel_rfl) (by simp) ?_
        refine AllReadyH.cons rfl (fun K hK => ?_) AllReadyH.nil
        go_simp
        refine (HCA.out _).mono ?_
        rintro _ _ ⟨rfl, rfl⟩
        refine hK.out _ _ trivial (fun hHeld => ?_)
        clear hK K
        (try simp only [Act.put, List.setIfInBounds_toArray, List.set_cons_zero, List.set_cons_succ])
        refine wpAnyH_take_at (i := 6) rfl rfl (by kernel_rfl) (by kernel_rfl) (by kernel_rfl) (fun _ _ _ h => h) (Or.inl ⟨by rfl, by (intro w hSw; (try dsimp only at hSw); go_simp; try with_reducible rfl)⟩) (by assumption) ?_
        (try simp only [Act.put, List.setIfInBounds_toArray, List.set_cons_zero, List.set_cons_succ])
        refine wpAnyH_ready (rs := [5]) (by kernel_rfl) (by simp) ?_
        refine AllReadyH.cons rfl (fun K hK => ?_) AllReadyH.nil
        go_simp
        refine (HCN.out _).mono ?_
        rintro _ _ ⟨rfl, rfl⟩
        refine hK.out _ _ trivial (fun hHeld => ?_)
        clear hK K
        (try simp only [Act.put, List.setIfInBounds_toArray, List.set_cons_zero, List.set_cons_succ])
        refine wpAnyH_ready (rs := [7]) (by kernel_rfl) (by simp) ?_
        refine AllReadyH.cons rfl (fun K hK => ?_) AllReadyH.nil
        go_simp
        refine hK.out _ _ trivial (fun hHeld => ?_)
        clear hK K
        (try simp only [Act.put, List.setIfInBounds_toArray, List.set_cons_zero, List.set_cons_succ])
        refine wpAnyH_ready (rs := [8]) (by kernel_rfl) (by simp) ?_
        refine AllReadyH.cons rfl (fun K hK => ?_) AllReadyH.nil
        go_simp
        refine hK.out _ _ trivial (fun hHeld => ?_)
        clear hK K
        (try simp only [Act.put, List.setIfInBounds_toArray, List.set_cons_zero, List.set_cons_succ])
        refine wpAnyH_ready (rs := [9]) (by kernel_rfl) (by simp) ?_
        refine AllReadyH.cons rfl (fun K hK => ?_) AllReadyH.nil
        go_simp
        refine hK.out _ _ trivial (fun hHeld => ?_)
        clear hK K
        (try simp only [Act.put, List.setIfInBounds_toArray, List.set_cons_zero, List.set_cons_succ])
        refine wpAnyH_done (by kernel_rfl) ?_ _
        go_wp2
        obtain ⟨q0, q1, q2⟩ := HQ.out
        exact bodyPost_ret (v := .tuple #[.agg #[.slice A5 n5 n5, .slice AV nV nV, .slice AN nN nN], .nilIface]) (by simp [results, Tryz.results14, go_sem, q0, q1, q2]) rfl HFIN.out
end Go.Proofs.YtijhajkakmohnaaGreatDoor
