/- Mix and what it is made of. -/
import Derived.Test.YtabhndfdioimcaaSn
import Derived.Test.YtabhndfdioimcaaAppA
set_option linter.unusedVariables false
namespace Go.Proofs.Ytabhndfdioimcaa
open Go.RowKit Zp

theorem Spg.below {p : Nat} [NeZero p] {B : Nat} {w w' : World} {s b k z : Nat} {oo : Nat → Nat → Fin p} (h : Spg w s b k z oo) (hb : Below B w w') (hs : s < B) : Spg w' s b k z oo :=
  ⟨(hb.cell (p := ⟨s, 0, none⟩) hs).trans h.c0, (hb.cell (p := ⟨s, 1, none⟩) hs).trans h.c1, (hb.cell (p := ⟨s, 2, none⟩) hs).trans h.c2, h.k2, h.kp, h.least, h.cop, h.zp, h.root,
   h.mat.keep fun q hq => hb.cell (by rw [hq]; exact hs), h.oth.keep fun q hq => hb.cell (by rw [hq]; exact hs), h.undo⟩
set_option maxRecDepth 100000 in
set_option maxHeartbeats 2000000 in
theorem mix1_any (p S b s k z g : Nat) [NeZero p] (oo : Nat → Nat → Fin p) (x : Nat → Int) (hx : ∀ i, I64 (x i)) (w : World) (F : Fld w S b p) (G : Spg w s b k z oo) (hg : w.cell? ⟨g, 0, none⟩ = some (.pointer (some ⟨s, 0, none⟩))) :
    Calls Try.prog 32 #[.agg (st x), .pointer (some ⟨g, 0, none⟩)] w fun e w' => e = .returned (.agg (st fun i => fv (ap (cauchy p) (fun j => el p (x j)) i))) ∧ Below w.heap.size w w' := by
  have hsl := block_lt_of_cell G.c0
  have hgl := block_lt_of_cell hg
  have hb1 : Below w.heap.size w (w.alloc (.cells (st x) 59)) := (Below.refl _ _).alloc (Nat.le_refl _) _
  have hb2 := hb1.alloc hb1.size (.cells (st fun _ => 0) 59)
  have hB0 := (Blk.new w 59 (st x)).alloc (.cells (st fun _ => 0) 59)
  have hB1 := Blk.new (w.alloc (.cells (st x) 59)) 59 (st fun _ => 0)
  rw [World.size_alloc] at hB1
  have hmx : Try.prog.follows .mixedOrders = true := by kernel_rfl
  go_enter Try.func32, Try.ntmps32
  go_wp2
  rw [st_zero] at hb2 hB0 hB1
  generalize World.alloc _ _ = W0 at hb2 hB0 hB1
  rw [← st_zero] at hB1
  have hFW := (F.below hb2 F.le)
  have hGW := G.below hb2 hsl
  have hgW := (hb2.cell (p := ⟨g, 0, none⟩) hgl).trans hg
  have x0 := hB0.at8 (show 0 < 8 by omega)
  have x1 := hB0.at8 (show 1 < 8 by omega)
  have x2 := hB0.at8 (show 2 < 8 by omega)
  have x3 := hB0.at8 (show 3 < 8 by omega)
  have x4 := hB0.at8 (show 4 < 8 by omega)
  have x5 := hB0.at8 (show 5 < 8 by omega)
  have x6 := hB0.at8 (show 6 < 8 by omega)
  have x7 := hB0.at8 (show 7 < 8 by omega)
  have HT := Lib.hid (fun n => times_any p S b s s 3 (cauchy p) x hx (W0.drewN n) (hFW.below (below_drewN (Below.refl _ _) n) hFW.le) hGW.c0 hGW.mat)
  have HB1 := Lib.hid hB1
  have HBB := Lib.hid hb2
  have hlt := hB1.lt
  obtain ⟨R, hR⟩ : ∃ R : Nat → Int, R = fun i => fv (ap (cauchy p) (fun j => el p (x j)) i) := ⟨_, rfl⟩
  rw [← hR] at HT
  have HR := Lib.hid hR
  clear hR hB0 hB1 hb2 hb1 hFW hGW
  refine wp_region_quiet_tail 5 hmx (by kernel_rfl) ?_
  simp only [List.take_succ_cons, List.take_zero, List.drop_succ_cons, List.drop_zero]
  repeat (quiet_step (fail))
  refine wpQuiet_nil ?_
  intro _ hw'
  obtain ⟨nq1, hw''⟩ := hw'
  subst hw''
  clear x0 x1 x2 x3 x4 x5 x6 x7 hgW
  go_wp2_with (first | (go_at_call 33; refine (HT.out nq1).mono ?_; rintro _ w3 ⟨rfl, hb3⟩; have h3 := Blk.below (HB1.out.drewN nq1) hb3 hlt; have HB3 := Lib.hid h3; have HB4 := Lib.hid hb3; clear hb3) | (refine wpList_store_row rfl 59 _ _ rfl (w.heap.size + 1) _ rfl rfl _ _ h3 (info8 _) (by rw [st_size, st_size]) (st_one _) ?_))
  have hBR : Blk (w3.setRow (w.heap.size + 1) (st R)) (w.heap.size + 1) 59 (st R) := setRow_heap _ _ _ _ _ _ h3
  refine bodyPost_ret (v := .agg (st R)) (results_cell_row (P := Try.prog) (by rfl) _ _ (w.heap.size + 1) _ _ _ _ (by rfl) hBR Try.underlying59 rfl (info8 _)) rfl ⟨by rw [HR.out], below_setRow8 ((below_drewN HBB.out nq1).trans (HB4.out.mono (below_drewN HBB.out nq1).size)) (by omega) _⟩
end Go.Proofs.Ytabhndfdioimcaa
