/- A bundle of texts: Wg, Wh, Fold, Wi, Wk2, Ye, Yf, Yg. -/
import Derived.Test.YtpkhcncempoohaaGreatDoorQ07
import Derived.Test.YtpkhcncempoohaaGreatDoorQ03
import Derived.Test.YtpkhcncempoohaaGreatDoorQ00
import Derived.Deep.RegionHeld3
import Derived.Test.YtpkhcncempoohaaGreatDoorQ06
import Derived.Deep.QuietTactic
import Derived.BigQuiet
import Derived.Shelf.Strconv.AtoiAll
import Derived.Lib.AtoiErrMem
import Derived.Shelf.Abstract
set_option linter.unusedVariables false
set_option linter.unusedSimpArgs false
set_option linter.unusedSectionVars false
namespace Go.Proofs.YtpkhcncempoohaaGreatDoor
open Go.RowKit Zp
theorem FB.div {b p : Nat} [NeZero p] {w : World} (h : FB w b p) (x y : Int) (hx : I64 x) (hy : I64 y) (W : World) (hb : Below w.heap.size w W) : Calls Tryz.prog 96 #[.pointer (some ⟨b, 0, none⟩), vi x, vi y] W fun e w' => e = .returned (vi (fv (el p x * Zp.inv (el p y)))) ∧ Below w.heap.size w w' :=
  (div_any p h.lo h.hi b x y hx hy W (h.c0 hb)).mono fun e w' ⟨h1, k, h2⟩ => ⟨h1, by rw [h2]; exact below_drewN hb _⟩
structure AtC (w : World) (c8 c21 c15 P b p : Nat) (dv : Nat → Int) (a : Int) : Prop where
  fb : FB w b p
  e8 : w.cell? ⟨c8, 0, none⟩ = some (.pointer (some ⟨P, 0, none⟩))
  eP : w.cell? ⟨P, 0, none⟩ = some (.pointer (some ⟨b, 0, none⟩))
  ed : ∀ κ, κ < 4 → w.cell? ⟨c21, κ, none⟩ = some (vi (dv κ))
  ea : w.cell? ⟨c15, 2, none⟩ = some (vi a)
  id : ∀ κ, I64 (dv κ)
  ia : I64 a
theorem AtC.tn {w w' : World} {X : List Nat} {c8 c21 c15 P b p : Nat} {dv : Nat → Int} {a : Int} (h : AtC w c8 c21 c15 P b p dv a) (ht : Tn X w w') (h8 : ¬ c8 ∈ X) (h21 : ¬ c21 ∈ X) (h15 : ¬ c15 ∈ X) (hP : ¬ P ∈ X) (hb : ¬ b ∈ X) : AtC w' c8 c21 c15 P b p dv a :=
  ⟨⟨ht.cell h.fb.cp hb, h.fb.lo, h.fb.hi⟩, ht.cell h.e8 h8, ht.cell h.eP hP, fun κ hκ => ht.cell (h.ed κ hκ) h21, ht.cell h.ea h15, h.id, h.ia⟩
def At1P (c23 c24 : Nat) (S E : Int) (w : World) (e : Ending) (w' : World) : Prop := (∃ v, e = .returned v) ∧ Tn [c23, c24] w w' ∧ Blk w' c23 3 #[vi S] ∧ Blk w' c24 3 #[vi E]
set_option maxRecDepth 100000 in
set_option maxHeartbeats 4000000 in
theorem at1_any (c8 c21 c15 P b p : Nat) [NeZero p] (dv : Nat → Int) (a : Int) (c23 c24 : Nat) (s e h : Int) (hs : I64 s) (he : I64 e) (hh : I64 h) (κ : Nat) (hκ : κ < 4) (w : World) (hA : AtC w c8 c21 c15 P b p dv a) (hS : Blk w c23 3 #[vi s]) (hE : Blk w c24 3 #[vi e])
    (h34 : c23 ≠ c24) (n8 : ¬ c8 ∈ [c23, c24]) (n21 : ¬ c21 ∈ [c23, c24]) (n15 : ¬ c15 ∈ [c23, c24]) (nP : ¬ P ∈ [c23, c24]) (nb : ¬ b ∈ [c23, c24]) :
    Calls Tryz.prog 97 #[vi h, vi κ, .pointer (some ⟨c8, 0, none⟩), .pointer (some ⟨c23, 0, none⟩), .pointer (some ⟨c24, 0, none⟩), .pointer (some ⟨c21, 0, none⟩), .pointer (some ⟨c15, 0, none⟩)] w (At1P c23 c24 (fv (el p s + el p e * (el p h * Zp.inv (el p (dv κ))))) (fv (el p e * el p a)) w) := by
  have k1 : (0 : Int) ≤ (κ : Int) := by omega
  have k2 : (κ : Int) < 4 := by omega
  have hp2 := hA.fb.hi
  have id := hA.id κ
  have HA := Lib.hid hA
  have HSE := Lib.hid (And.intro hS hE)
  have HI := Lib.hid hA.ia
  have KS : Hid (∀ W, Below w.heap.size w W → W.cell? ⟨c8, 0, none⟩ = some (.pointer (some ⟨P, 0, none⟩)) ∧ W.cell? ⟨P, 0, none⟩ = some (.pointer (some ⟨b, 0, none⟩)) ∧ W.cell? ⟨c23, 0, none⟩ = some (vi s) ∧ W.cell? ⟨c24, 0, none⟩ = some (vi e) ∧ W.cell? ⟨c21, κ, none⟩ = some (vi (dv κ))) := Lib.hid fun W hW => ⟨(hW.cell (block_lt_of_cell HA.out.e8)).trans HA.out.e8, (hW.cell (block_lt_of_cell HA.out.eP)).trans HA.out.eP, ((HSE.out.1.below hW HSE.out.1.lt).cell 0).trans rfl, ((HSE.out.2.below hW HSE.out.2.lt).cell 0).trans rfl, (hW.cell (block_lt_of_cell (HA.out.ed κ hκ))).trans (HA.out.ed κ hκ)⟩
  have hbZ : Below w.heap.size w w.drew := below_drewN (Below.refl _ _) 1
  clear hA hS hE
  go_enter Tryz.func97, Tryz.ntmps97
  go_upto_region 0 with (fail)
  refine wp_region_M (C := fun W => W.cell? ⟨c8, 0, none⟩ = some (.pointer (some ⟨P, 0, none⟩)) ∧ W.cell? ⟨P, 0, none⟩ = some (.pointer (some ⟨b, 0, none⟩)) ∧ W.cell? ⟨c23, 0, none⟩ = some (vi s) ∧ W.cell? ⟨c24, 0, none⟩ = some (vi e) ∧ W.cell? ⟨c21, κ, none⟩ = some (vi (dv κ))) 21 (by kernel_rfl) ?_
  have xx := KS.out _ hbZ
  refine wpAnyM_take (i := 0) rfl rfl (by kernel_rfl) (by kernel_rfl) (by kernel_rfl) (fun _ _ _ h => h) (by decide) (by kernel_rfl) (by kernel_rfl) (Or.inl ⟨by rfl, by (intro w hSw; (try dsimp only at hSw); go_simp; try with_reducible rfl)⟩) (by assumption) ?_
  (try simp only [Act.put, List.setIfInBounds_toArray, List.set_cons_zero, List.set_cons_succ])
  refine wpAnyM_takeT (i := 1) rfl rfl (by kernel_rfl) (by kernel_rfl) (by kernel_rfl) (fun _ _ _ h => h) (by decide) (Or.inl ⟨by rfl, by (intro w hSw; go_simp; try with_reducible rfl)⟩) (by first | exact fun _ => by assumption | exact fun h => absurd h (by decide)) ?_
  (try simp only [Act.put, List.setIfInBounds_toArray, List.set_cons_zero, List.set_cons_succ])
  refine wpAnyM_takeT (i := 2) rfl rfl (by kernel_rfl) (by kernel_rfl) (by kernel_rfl) (fun _ _ _ h => h) (by decide) (Or.inl ⟨by rfl, by (intro w hSw; go_simp; try with_reducible rfl)⟩) (by first | exact fun _ => by assumption | exact fun h => absurd h (by decide)) ?_
  (try simp only [Act.put, List.setIfInBounds_toArray, List.set_cons_zero, List.set_cons_succ])
  refine wpAnyM_take (i := 3) rfl rfl (by kernel_rfl) (by kernel_rfl) (by kernel_rfl) (fun _ _ _ h => h) (by decide) (by kernel_rfl) (by kernel_rfl) (Or.inl ⟨by rfl, by (intro w hSw; (try dsimp only at hSw); go_simp; try with_reducible rfl)⟩) (by assumption) ?_
  (try simp only [Act.put, List.setIfInBounds_toArray, List.set_cons_zero, List.set_cons_succ])
  refine wpAnyM_take (i := 4) rfl rfl (by kernel_rfl) (by kernel_rfl) (by kernel_rfl) (fun _ _ _ h => h) (by decide) (by kernel_rfl) (by kernel_rfl) (Or.inl ⟨by rfl, by (intro w hSw; (try dsimp only at hSw); go_simp; try with_reducible rfl)⟩) (by assumption) ?_
  (try simp only [Act.put, List.setIfInBounds_toArray, List.set_cons_zero, List.set_cons_succ])
  refine wpAnyM_take (i := 5) rfl rfl (by kernel_rfl) (by kernel_rfl) (by kernel_rfl) (fun _ _ _ h => h) (by decide) (by kernel_rfl) (by kernel_rfl) (Or.inl ⟨by rfl, by (intro w hSw; (try dsimp only at hSw); go_simp; try with_reducible rfl)⟩) (by assumption) ?_
  (try simp only [Act.put, List.setIfInBounds_toArray, List.set_cons_zero, List.set_cons_succ])
  refine wpAnyM_takeT (i := 6) rfl rfl (by kernel_rfl) (by kernel_rfl) (by kernel_rfl) (fun _ _ _ h => h) (by decide) (Or.inl ⟨by rfl, by (intro w hSw; go_simp; try with_reducible rfl)⟩) (by first | exact fun _ => by assumption | exact fun h => absurd h (by decide)) ?_
  (try simp only [Act.put, List.setIfInBounds_toArray, List.set_cons_zero, List.set_cons_succ])
  refine wpAnyM_takeT (i := 7) rfl rfl (by kernel_rfl) (by kernel_rfl) (by kernel_rfl) (fun _ _ _ h => h) (by decide) (Or.inl ⟨by rfl, by (intro w hSw; go_simp; try with_reducible rfl)⟩) (by first | exact fun _ => by assumption | exact fun h => absurd h (by decide)) ?_
  (try simp only [Act.put, List.setIfInBounds_toArray, List.set_cons_zero, List.set_cons_succ])
  refine wpAnyM_take (i := 8) rfl rfl (by kernel_rfl) (by kernel_rfl) (by kernel_rfl) (fun _ _ _ h => h) (by decide) (by kernel_rfl) (by kernel_rfl) (Or.inl ⟨by rfl, by (intro w hSw; (try dsimp only at hSw); go_simp; try with_reducible rfl)⟩) (by assumption) ?_
  (try simp only [Act.put, List.setIfInBounds_toArray, List.set_cons_zero, List.set_cons_succ])
  refine wpAnyM_take (i := 9) rfl rfl (by kernel_rfl) (by kernel_rfl) (by kernel_rfl) (fun _ _ _ h => h) (by decide) (by kernel_rfl) (by kernel_rfl) (Or.inl ⟨by rfl, by (intro w hSw; (try dsimp only at hSw); go_simp; try with_reducible rfl)⟩) (by assumption) ?_
  (try simp only [Act.put, List.setIfInBounds_toArray, List.set_cons_zero, List.set_cons_succ])
  refine wpAnyM_take (i := 10) rfl rfl (by kernel_rfl) (by kernel_rfl) (by kernel_rfl) (fun _ _ _ h => h) (by decide) (by kernel_rfl) (by kernel_rfl) (Or.inl ⟨by rfl, by (intro w hSw; (try dsimp only at hSw); go_simp; try with_reducible rfl)⟩) (by assumption) ?_
  (try simp only [Act.put, List.setIfInBounds_toArray, List.set_cons_zero, List.set_cons_succ])
  refine wpAnyM_takeT (i := 11) rfl rfl (by kernel_rfl) (by kernel_rfl) (by kernel_rfl) (fun _ _ _ h => h) (by decide) (Or.inl ⟨by rfl, by (intro w hSw; go_simp; try with_reducible rfl)⟩) (by first | exact fun _ => by assumption | exact fun h => absurd h (by decide)) ?_
  (try simp only [Act.put, List.setIfInBounds_toArray, List.set_cons_zero, List.set_cons_succ])
  refine wpAnyM_takeT (i := 12) rfl rfl (by kernel_rfl) (by kernel_rfl) (by kernel_rfl) (fun _ _ _ h => h) (by decide) (Or.inl ⟨by rfl, by (intro w hSw; go_simp; try with_reducible rfl)⟩) (by first | exact fun _ => by assumption | exact fun h => absurd h (by decide)) ?_
  (try simp only [Act.put, List.setIfInBounds_toArray, List.set_cons_zero, List.set_cons_succ])
  refine wpAnyM_take (i := 13) rfl rfl (by kernel_rfl) (by kernel_rfl) (by kernel_rfl) (fun _ _ _ h => h) (by decide) (by kernel_rfl) (by kernel_rfl) (Or.inl ⟨by rfl, by (intro w hSw; (try dsimp only at hSw); go_simp; try with_reducible rfl)⟩) (by assumption) ?_
  (try simp only [Act.put, List.setIfInBounds_toArray, List.set_cons_zero, List.set_cons_succ])
  refine wpAnyM_takeT (i := 14) rfl rfl (by kernel_rfl) (by kernel_rfl) (by kernel_rfl) (fun _ _ _ h => h) (by decide) (Or.inl ⟨by rfl, by (intro w hSw; go_simp; try with_reducible rfl)⟩) (by first | exact fun _ => by assumption | exact fun h => absurd h (by decide)) ?_
  (try simp only [Act.put, List.setIfInBounds_toArray, List.set_cons_zero, List.set_cons_succ])
  refine wpAnyM_takeT (i := 15) rfl rfl (by kernel_rfl) (by kernel_rfl) (by kernel_rfl) (fun _ _ _ h => h) (by decide) (Or.inl ⟨by rfl, by (intro w hSw; go_simp; try with_reducible rfl)⟩) (by first | exact fun _ => by assumption | exact fun h => absurd h (by decide)) ?_
  (try simp only [Act.put, List.setIfInBounds_toArray, List.set_cons_zero, List.set_cons_succ])
  refine wpAnyM_takeT (i := 16) rfl rfl (by kernel_rfl) (by kernel_rfl) (by kernel_rfl) (fun _ _ _ h => h) (by decide) (Or.inl ⟨by rfl, by (intro w hSw; go_simp; try with_reducible rfl)⟩) (by first | exact fun _ => by assumption | exact fun h => absurd h (by decide)) ?_
  (try simp only [Act.put, List.setIfInBounds_toArray, List.set_cons_zero, List.set_cons_succ])
  refine wpAnyM_take (i := 17) rfl rfl (by kernel_rfl) (by kernel_rfl) (by kernel_rfl) (fun _ _ _ h => h) (by decide) (by kernel_rfl) (by kernel_rfl) (Or.inl ⟨by rfl, by (intro w hSw; (try dsimp only at hSw); go_simp; try with_reducible rfl)⟩) (by assumption) ?_
  (try simp only [Act.put, List.setIfInBounds_toArray, List.set_cons_zero, List.set_cons_succ])
  clear xx
  refine wpAnyM_ready (rs := [18]) (by kernel_rfl) (by simp) ?_
  refine AllReadyM.cons rfl (fun K hK => ?_) AllReadyM.nil
  go_simp
  refine (HA.out.fb.div _ _ hh id _ hbZ).mono ?_
  rintro _ w1 ⟨rfl, hb1⟩
  refine hK.out _ _ (fun _ => KS.out _ hb1) ?_
  clear hK K
  (try simp only [Act.put, List.setIfInBounds_toArray, List.set_cons_zero, List.set_cons_succ])
  refine wpAnyM_ready (rs := [19]) (by kernel_rfl) (by simp) ?_
  refine AllReadyM.cons rfl (fun K hK => ?_) AllReadyM.nil
  go_simp
  refine (HA.out.fb.mul _ _ he (i64_fv _ hp2) _ hb1).mono ?_
  rintro _ w2 ⟨rfl, hb2⟩
  refine hK.out _ _ (fun _ => KS.out _ hb2) ?_
  clear hK K
  (try simp only [Act.put, List.setIfInBounds_toArray, List.set_cons_zero, List.set_cons_succ])
  refine wpAnyM_ready (rs := [20]) (by kernel_rfl) (by simp) ?_
  refine AllReadyM.cons rfl (fun K hK => ?_) AllReadyM.nil
  go_simp
  refine (HA.out.fb.add _ _ hs (i64_fv _ hp2) _ hb2).mono ?_
  rintro _ w3 ⟨rfl, hb3⟩
  refine hK.out _ _ (fun _ => KS.out _ hb3) ?_
  clear hK K
  (try simp only [Act.put, List.setIfInBounds_toArray, List.set_cons_zero, List.set_cons_succ])
  have hS3 := HSE.out.1.below hb3 HSE.out.1.lt
  have hE3 := HSE.out.2.below hb3 HSE.out.2.lt
  have zz := hS3.frozen 0
  have yy := (hS3.cell 0).trans (show _ = some (vi s) from rfl)
  have HS3 := Lib.hid (And.intro hS3 (And.intro hE3 hb3))
  clear hS3 hE3
  refine wpAnyM_ready (rs := [21]) (by kernel_rfl) (by simp) ?_
  refine AllReadyM.cons rfl (fun K hK => ?_) AllReadyM.nil
  go_simp
  refine hK.out _ _ (fun h => absurd h (by decide)) ?_
  clear hK K
  (try simp only [Act.put, List.setIfInBounds_toArray, List.set_cons_zero, List.set_cons_succ])
  refine wpAnyM_done (by kernel_rfl) ?_ _
  clear zz yy
  obtain ⟨S', hS'⟩ : ∃ S', S' = fv (el p s + el p e * (el p h * Zp.inv (el p (dv κ)))) := ⟨_, rfl⟩
  simp only [el_fv]
  rw [← hS']
  obtain ⟨w4, hw4⟩ : ∃ w4, w4 = w3.setCell ⟨c23, 0, none⟩ (vi S') := ⟨_, rfl⟩
  rw [← hw4]
  have hT4 : Tn [c23, c24] w w4 := by rw [hw4]; exact (Tn.of_below HS3.out.2.2).setCell (.inl (by simp)) _
  have hB23 : Blk w4 c23 3 #[vi S'] := by rw [hw4]; exact HS3.out.1.set_ 0 _
  have hB24 : Blk w4 c24 3 #[vi e] := by rw [hw4]; exact (Below.heap_setCell w3 ⟨c23, 0, none⟩ (vi S') c24 (fun h => h34 h.symm)).trans HS3.out.2.1
  have HA4 := Lib.hid (HA.out.tn hT4 n8 n21 n15 nP nb)
  have HB4 := Lib.hid (And.intro hT4 (And.intro hB23 hB24))
  have KT : Hid (∀ W, Below w4.heap.size w4 W → W.cell? ⟨c8, 0, none⟩ = some (.pointer (some ⟨P, 0, none⟩)) ∧ W.cell? ⟨P, 0, none⟩ = some (.pointer (some ⟨b, 0, none⟩)) ∧ W.cell? ⟨c24, 0, none⟩ = some (vi e) ∧ W.cell? ⟨c15, 2, none⟩ = some (vi a)) := Lib.hid fun W hW => ⟨(hW.cell (block_lt_of_cell HA4.out.e8)).trans HA4.out.e8, (hW.cell (block_lt_of_cell HA4.out.eP)).trans HA4.out.eP, ((HB4.out.2.2.below hW HB4.out.2.2.lt).cell 0).trans rfl, (hW.cell (block_lt_of_cell HA4.out.ea)).trans HA4.out.ea⟩
  have HS' := Lib.hid hS'
  have ia := HI.out
  have hbZ4 : Below w4.heap.size w4 w4.drew := below_drewN (Below.refl _ _) 1
  clear hT4 hB23 hB24 hw4 hS' hb3 hb1 hb2 hbZ
  go_upto_region 1 with (fail)
  refine wp_region_M (C := fun W => W.cell? ⟨c8, 0, none⟩ = some (.pointer (some ⟨P, 0, none⟩)) ∧ W.cell? ⟨P, 0, none⟩ = some (.pointer (some ⟨b, 0, none⟩)) ∧ W.cell? ⟨c24, 0, none⟩ = some (vi e) ∧ W.cell? ⟨c15, 2, none⟩ = some (vi a)) 8 (by kernel_rfl) ?_
  have xx := KT.out _ hbZ4
  refine wpAnyM_take (i := 0) rfl rfl (by kernel_rfl) (by kernel_rfl) (by kernel_rfl) (fun _ _ _ h => h) (by decide) (by kernel_rfl) (by kernel_rfl) (Or.inl ⟨by rfl, by (intro w hSw; (try dsimp only at hSw); go_simp; try with_reducible rfl)⟩) (by assumption) ?_
  (try simp only [Act.put, List.setIfInBounds_toArray, List.set_cons_zero, List.set_cons_succ])
  refine wpAnyM_takeT (i := 1) rfl rfl (by kernel_rfl) (by kernel_rfl) (by kernel_rfl) (fun _ _ _ h => h) (by decide) (Or.inl ⟨by rfl, by (intro w hSw; go_simp; try with_reducible rfl)⟩) (by first | exact fun _ => by assumption | exact fun h => absurd h (by decide)) ?_
  (try simp only [Act.put, List.setIfInBounds_toArray, List.set_cons_zero, List.set_cons_succ])
  refine wpAnyM_takeT (i := 2) rfl rfl (by kernel_rfl) (by kernel_rfl) (by kernel_rfl) (fun _ _ _ h => h) (by decide) (Or.inl ⟨by rfl, by (intro w hSw; go_simp; try with_reducible rfl)⟩) (by first | exact fun _ => by assumption | exact fun h => absurd h (by decide)) ?_
  (try simp only [Act.put, List.setIfInBounds_toArray, List.set_cons_zero, List.set_cons_succ])
  refine wpAnyM_take (i := 3) rfl rfl (by kernel_rfl) (by kernel_rfl) (by kernel_rfl) (fun _ _ _ h => h) (by decide) (by kernel_rfl) (by kernel_rfl) (Or.inl ⟨by rfl, by (intro w hSw; (try dsimp only at hSw); go_simp; try with_reducible rfl)⟩) (by assumption) ?_
  (try simp only [Act.put, List.setIfInBounds_toArray, List.set_cons_zero, List.set_cons_succ])
  refine wpAnyM_take (i := 4) rfl rfl (by kernel_rfl) (by kernel_rfl) (by kernel_rfl) (fun _ _ _ h => h) (by decide) (by kernel_rfl) (by kernel_rfl) (Or.inl ⟨by rfl, by (intro w hSw; (try dsimp only at hSw); go_simp; try with_reducible rfl)⟩) (by assumption) ?_
  (try simp only [Act.put, List.setIfInBounds_toArray, List.set_cons_zero, List.set_cons_succ])
  refine wpAnyM_takeT (i := 5) rfl rfl (by kernel_rfl) (by kernel_rfl) (by kernel_rfl) (fun _ _ _ h => h) (by decide) (Or.inl ⟨by rfl, by (intro w hSw; go_simp; try with_reducible rfl)⟩) (by first | exact fun _ => by assumption | exact fun h => absurd h (by decide)) ?_
  (try simp only [Act.put, List.setIfInBounds_toArray, List.set_cons_zero, List.set_cons_succ])
  refine wpAnyM_take (i := 6) rfl rfl (by kernel_rfl) (by kernel_rfl) (by kernel_rfl) (fun _ _ _ h => h) (by decide) (by kernel_rfl) (by kernel_rfl) (Or.inl ⟨by rfl, by (intro w hSw; (try dsimp only at hSw); go_simp; try with_reducible rfl)⟩) (by assumption) ?_
  (try simp only [Act.put, List.setIfInBounds_toArray, List.set_cons_zero, List.set_cons_succ])
  clear xx
  refine wpAnyM_ready (rs := [7]) (by kernel_rfl) (by simp) ?_
  refine AllReadyM.cons rfl (fun K hK => ?_) AllReadyM.nil
  go_simp
  refine (HA4.out.fb.mul _ _ he ia _ hbZ4).mono ?_
  rintro _ w5 ⟨rfl, hb5⟩
  refine hK.out _ _ (fun _ => KT.out _ hb5) ?_
  clear hK K
  (try simp only [Act.put, List.setIfInBounds_toArray, List.set_cons_zero, List.set_cons_succ])
  have hE5 := HB4.out.2.2.below hb5 HB4.out.2.2.lt
  have hS5 := HB4.out.2.1.below hb5 HB4.out.2.1.lt
  have zz := hE5.frozen 0
  have yy := (hE5.cell 0).trans (show _ = some (vi e) from rfl)
  have HS5 := Lib.hid (And.intro hS5 (And.intro hE5 hb5))
  clear hS5 hE5
  refine wpAnyM_ready (rs := [8]) (by kernel_rfl) (by simp) ?_
  refine AllReadyM.cons rfl (fun K hK => ?_) AllReadyM.nil
  go_simp
  refine hK.out _ _ (fun h => absurd h (by decide)) ?_
  clear hK K
  (try simp only [Act.put, List.setIfInBounds_toArray, List.set_cons_zero, List.set_cons_succ])
  refine wpAnyM_done (by kernel_rfl) ?_ _
  clear zz yy hb5
  rw [← HS'.out]
  exact ⟨rfl, _, results_none rfl _ _ _, ⟨_, rfl⟩, (HB4.out.1.trans (Tn.of_below HS5.out.2.2)).setCell (.inl (by simp)) _, (Below.heap_setCell w5 ⟨c24, 0, none⟩ _ c23 h34).trans HS5.out.1, HS5.out.2.1.set_ 0 _⟩
end Go.Proofs.YtpkhcncempoohaaGreatDoor

namespace Go.Proofs.YtpkhcncempoohaaGreatDoor
open Go.RowKit Zp
section
variable {p : Nat} [NeZero p]
def termsK (code : List InsI) (size : Int) (out : Fin p) (zc : Nat) (y x : Fin p) (r r' : Nat → Fin p) (d : Nat → Fin p) : List (Fin p) := (compK code size out zc y x).map fun f => f.1 r r' * Zp.inv (d f.2)
theorem kinR_at : ∀ j, j < 26 → kinR[j]? = some (kindN j) := by decide
theorem ruT_len (code : List InsI) (size : Int) (out : Fin p) : (ruT code size out).length = 26 := rfl
omit [NeZero p] in
theorem ruS_len (code : List InsI) : (ruS (p := p) code).length = code.length := by simp [ruS]
theorem compK_at (code : List InsI) (size : Int) (out : Fin p) (zc : Nat) (y x : Fin p) {k : Nat} (hk : k < code.length + 26) :
    ∃ F : RowF p, (rulesF code size out)[k]? = some F ∧ (compK code size out zc y x)[k]? = some (F, kindN (k - code.length)) := by
  unfold compK rulesF
  by_cases h : k < code.length
  · have h1 : k < (ruS (p := p) code).length := by rw [ruS_len]; exact h
    refine ⟨(ruS (p := p) code)[k], ?_, ?_⟩
    · rw [List.getElem?_append_left h1, List.getElem?_eq_getElem h1]
    · rw [List.getElem?_append_left (by rw [List.length_map]; exact h1), List.getElem?_map, List.getElem?_eq_getElem h1, show k - code.length = 0 by omega]
      rfl
  · obtain ⟨j, hj⟩ : ∃ j, j = k - code.length := ⟨_, rfl⟩
    have hj26 : j < (ruT code size out).length := by rw [ruT_len]; omega
    refine ⟨(ruT code size out)[j], ?_, ?_⟩
    · rw [List.getElem?_append_right (by rw [ruS_len]; omega), ruS_len, ← hj, List.getElem?_eq_getElem hj26]
    · rw [List.getElem?_append_right (by rw [List.length_map, ruS_len]; omega), List.length_map, ruS_len, ← hj]
      rw [List.getElem?_append_left (by rw [List.length_zip, ruT_len]; show j < min 26 26; omega)]
      rw [List.getElem?_zip_eq_some]
      exact ⟨List.getElem?_eq_getElem hj26, kinR_at j (by rw [ruT_len] at hj26; exact hj26)⟩
theorem termsK_rule (code : List InsI) (size : Int) (out : Fin p) (zc : Nat) (y x : Fin p) (r r' : Nat → Fin p) (d : Nat → Fin p) {k : Nat} (hk : k < code.length + 26) :
    (termsK code size out zc y x r r' d).getD k 0 = ((rulesF code size out).map fun F => F r r').getD k 0 * Zp.inv (d (kindN (k - code.length))) := by
  obtain ⟨F, h1, h2⟩ := compK_at code size out zc y x hk
  unfold termsK
  rw [List.getD_eq_getElem?_getD, List.getD_eq_getElem?_getD, List.getElem?_map, List.getElem?_map, h1, h2]
  rfl
theorem termsK_z (code : List InsI) (size : Int) (out : Fin p) (zc : Nat) (y x : Fin p) (r r' : Nat → Fin p) (d : Nat → Fin p) :
    (termsK code size out zc y x r r' d).getD (code.length + 26) 0 = (r' zc * prodR y x 12 16 r - r zc * prodR y x 3 7 r) * Zp.inv (d 0) ∧ (termsK code size out zc y x r r' d).getD (code.length + 27) 0 = (r zc - 1) * Zp.inv (d 2) := by
  have hl : ((ruT code size out).zip kinR).length = 26 := by rw [List.length_zip, ruT_len]; rfl
  unfold termsK compK
  simp only [List.getD_eq_getElem?_getD, List.map_append]
  constructor
  · rw [List.getElem?_append_right (by simp [ruS_len]), List.getElem?_append_right (by simp only [List.length_map, ruS_len, hl]; omega)]
    simp only [List.length_map, ruS_len, hl, List.map_cons, List.map_nil]
    rw [show code.length + 26 - code.length - 26 = 0 by omega]
    rfl
  · rw [List.getElem?_append_right (by simp [ruS_len]), List.getElem?_append_right (by simp only [List.length_map, ruS_len, hl]; omega)]
    simp only [List.length_map, ruS_len, hl, List.map_cons, List.map_nil]
    rw [show code.length + 27 - code.length - 26 = 1 by omega]
    rfl
end
end Go.Proofs.YtpkhcncempoohaaGreatDoor

namespace Go.Proofs.YtpkhcncempoohaaGreatDoor
open Go.RowKit Zp
set_option maxRecDepth 100000 in
set_option maxHeartbeats 1000000 in
theorem point_any (p S D b : Nat) [NeZero p] (n : Nat) (s : Fin p) (i : Int) (hi : I64 i) (w : World) (hD : Dom w S D b p n s) :
    Calls Tryz.prog 93 #[.pointer (some ⟨D, 0, none⟩), vi i] w fun e w' => e = .returned (vi (fv (s * pw (rootI p n) (i % (n : Int)).toNat))) ∧ ∃ k, w' = w.drewN k := by
  have hp1 := hD.fld.two
  have hp2 := hD.fld.max
  have hn0 := hD.size.pos
  have hn1 := hD.size.le
  have hd0 := hD.c0
  have hd1 := hD.c1
  have hd2 := hD.c2
  have hd3 := hD.c3
  have hcb := hD.fld.c0
  obtain ⟨r, hr⟩ : ∃ r, r = rootI p n := ⟨_, rfl⟩
  rw [← hr] at hd3 ⊢
  obtain ⟨j, hj⟩ : ∃ j, j = (i % (n : Int)).toNat := ⟨_, rfl⟩
  rw [← hj]
  have ht := tmod_emod i n hn0
  have h1 := Int.emod_nonneg i (b := (n : Int)) (by omega)
  have h2 := Int.emod_lt_of_pos i (b := (n : Int)) (by omega)
  have hjI : I64 (j : Int) := ⟨by omega, by omega⟩
  have hz : zpw r (j : Int) = pw r j := by rw [zpw, if_pos (by omega), Int.toNat_natCast]
  have hpow := fun W hc => pow_any p hp1 hp2 b (fv r) j (i64_fv r hp2) hjI W hc
  rw [el_fv, hz] at hpow
  have hmul := fun W hc => mul_any p hp2 b (fv s) (fv (pw r j)) (i64_fv s hp2) (i64_fv _ hp2) W hc
  rw [el_fv, el_fv] at hmul
  have HPOW := Lib.hid hpow
  have HMUL := Lib.hid hmul
  have hn0' : ¬ n = 0 := by omega
  obtain ⟨T, hT⟩ : ∃ T, T = i.tmod n := ⟨_, rfl⟩
  have b1 : -(n : Int) < T := by rw [hT, ht]; split <;> (try split) <;> omega
  have b2 : T < n := by rw [hT, ht]; split <;> (try split) <;> omega
  have hTj : T = j ∨ (T < 0 ∧ T + n = j) := by
    rw [hT, ht]
    split
    · left; omega
    · split
      · left; omega
      · right; omega
  have et : i.tmod (n : Int) = T := hT.symm
  clear hpow hmul hz ht hj hT hr
  rcases hTj with hTj | ⟨hT0, hTj⟩
  · subst hTj
    go_enter Tryz.func93, Tryz.ntmps93
    go_wp2
    go_quiet ((first | (go_at_call 95; exact Calls.quiet_of (HPOW.out _ (by exact hcb))) | (go_at_call 69; exact Calls.quiet_of (HMUL.out _ (by exact hcb)))))
    go_wp2
    go_ret
    exact ⟨rfl, _, rfl⟩
  · go_enter Tryz.func93, Tryz.ntmps93
    go_wp2
    go_quiet ((first | (go_at_call 95; exact Calls.quiet_of (HPOW.out _ (by exact hcb))) | (go_at_call 69; exact Calls.quiet_of (HMUL.out _ (by exact hcb)))))
    go_wp2
    go_ret
    exact ⟨rfl, _, rfl⟩
end Go.Proofs.YtpkhcncempoohaaGreatDoor

namespace Go.Proofs.YtpkhcncempoohaaGreatDoor
open Go.RowKit Zp
theorem PL.pointD {w W : World} {P b p n : Nat} [NeZero p] {size : Int} {AI : Option Addr} {L cI E D : Nat} (h : PL w P b p n size AI L cI E D) (i : Nat) (hi : i < 8 * n) (hI : I64 i) (hb : Below w.heap.size w W) :
    Calls Tryz.prog 93 #[.pointer (some ⟨D, 0, none⟩), vi i] W fun e w' => e = .returned (vi (fv (tD p n i))) ∧ Below w.heap.size w w' := by
  obtain ⟨S, hd⟩ := h.dd
  refine (point_any p S D b (8 * n) (genE p) i hI W (hd.below hb hd.le)).mono fun e w' ⟨h1, k, h2⟩ => ⟨?_, by rw [h2]; exact below_drewN hb _⟩
  rw [h1]
  have : ((i : Int) % ((8 * n : Nat) : Int)).toNat = i := by
    rw [Int.emod_eq_of_lt (by omega) (by omega)]
    rfl
  rw [this]
  rfl
end Go.Proofs.YtpkhcncempoohaaGreatDoor

namespace Go.Proofs.YtpkhcncempoohaaGreatDoor
open Go.RowKit Zp
def onlyR (A : Act) (R : World → Prop) : Exit → Act → World → Prop
  | .normal, a, w => R w ∧ a = A
  | _, _, _ => False
theorem wp_fixedR {P : Program} {c : Code} {Q : Exit → Act → World → Prop} {a : Act} {w : World} (A : Act) (R : World → Prop) (h : c.wp P (onlyR A R) a w) (k : ∀ w', R w' → Q .normal A w') : c.wp P Q a w :=
  Code.wp_mono (fun e a' w' h => by
    cases e with
    | normal => obtain ⟨h1, rfl⟩ := h; exact k _ h1
    | _ => exact h.elim) h
theorem nameW {P : Program} {ops : Array Oper} {Q : Exit → Act → World → Prop} {md : Region.Mode} {S : World → Prop} {fuel : Nat} {listed : Array Bool} {a : Act} (w : World) (h : ∀ W, W = w → wpAnyH P md ops Q S fuel listed a W) : wpAnyH P md ops Q S fuel listed a w := h w rfl
structure AtI (w : World) (P b p n : Nat) [NeZero p] (size : Int) (AI : Option Addr) (L cI E D : Nat) (code : List InsI) (g g' : Nat) (rw rw' : Nat → Int) : Prop where
  pl : PL w P b p n size AI L cI E D
  it : IT w AI code
  len : code.length = L
  fit : FitsN p n L
  fp : FitN p n
  hi : p ≤ 2147483647
  isz : I64 size
  at_ : ∀ k, k < 20 + L → w.cell? ⟨g, k, none⟩ = some (vi (rw k))
  nx : ∀ k, k < 20 + L → w.cell? ⟨g', k, none⟩ = some (vi (rw' k))
  i1 : ∀ k, I64 (rw k)
  i2 : ∀ k, I64 (rw' k)
theorem AtI.below {w w' : World} {P b p n : Nat} [NeZero p] {size : Int} {AI : Option Addr} {L cI E D : Nat} {code : List InsI} {g g' : Nat} {rw rw' : Nat → Int} (h : AtI w P b p n size AI L cI E D code g g' rw rw') (hb : Below w.heap.size w w') : AtI w' P b p n size AI L cI E D code g g' rw rw' :=
  ⟨h.pl.below hb, h.it.below hb, h.len, h.fit, h.fp, h.hi, h.isz, fun k hk => (hb.cell (block_lt_of_cell (h.at_ k hk))).trans (h.at_ k hk), fun k hk => (hb.cell (block_lt_of_cell (h.nx k hk))).trans (h.nx k hk), h.i1, h.i2⟩
theorem AtI.fb {w : World} {P b p n : Nat} [NeZero p] {size : Int} {AI : Option Addr} {L cI E D : Nat} {code : List InsI} {g g' : Nat} {rw rw' : Nat → Int} (h : AtI w P b p n size AI L cI E D code g g' rw rw') : FB w b p := by
  obtain ⟨S, hd⟩ := h.pl.de
  exact ⟨hd.fld.c0, hd.fld.two, hd.fld.max⟩
set_option maxRecDepth 100000 in
set_option maxHeartbeats 4000000 in
theorem at_any (P b p n : Nat) [NeZero p] (size : Int) (AI : Option Addr) (L cI E D : Nat) (code : List InsI) (g g' cA cA' : Nat) (rw rw' : Nat → Int) (zc i : Nat) (hi8 : i < 8 * n) (outc x y a : Int) (ho : I64 outc) (hx : I64 x) (hy : I64 y) (ha : I64 a) (w : World) (hA : AtI w P b p n size AI L cI E D code g g' rw rw') :
    Calls Tryz.prog 62 #[.pointer (some ⟨P, 0, none⟩), vi i, vi outc, .slice (some ⟨g, 0, none⟩) (20 + L) cA, .slice (some ⟨g', 0, none⟩) (20 + L) cA', vi (rw zc), vi (rw' zc), .agg #[vi x, vi y, vi a, vi 0]] w fun e w' => e = .returned (vi (fv (sumT (L + 28) fun q => pw (el p a) q * (termsK code size (el p outc) zc (el p y) (el p x) (rE p rw) (rE p rw') (fun κ => divK n κ (tD p n i))).getD q 0))) ∧ Below w.heap.size w w' := by
  have hp2 := hA.hi
  have hn1 := hA.fit.n
  have hL := hA.fit.2.2.2
  have iI : I64 (i : Int) := by constructor <;> omega
  have nI : I64 (n : Int) := by constructor <;> omega
  have mI : I64 ((n : Int) - 1) := by constructor <;> omega
  have hm : IntKind.i64.wrap ((n : Int) - 1) = (n : Int) - 1 := IntWalk.i64_in _ (by constructor <;> omega)
  have hb1 : Below w.heap.size w (w.alloc (.cells #[.pointer (some ⟨P, 0, none⟩)] 67)) := (Below.refl _ _).alloc (Nat.le_refl _) _
  obtain ⟨c8, hc8⟩ : ∃ c, c = w.heap.size := ⟨_, rfl⟩
  have hB8 := Blk.new w 67 #[.pointer (some ⟨P, 0, none⟩)]
  rw [← hc8] at hB8
  obtain ⟨wa, hwa⟩ : ∃ wa, wa = w.alloc (.cells #[.pointer (some ⟨P, 0, none⟩)] 67) := ⟨_, rfl⟩
  rw [← hwa] at hb1 hB8
  have hb2 : Below wa.heap.size wa (wa.alloc (.cells #[vi x, vi y, vi a, vi 0] 77)) := (Below.refl _ _).alloc (Nat.le_refl _) _
  obtain ⟨c15, hc15⟩ : ∃ c, c = wa.heap.size := ⟨_, rfl⟩
  have hB15 := Blk.new wa 77 #[vi x, vi y, vi a, vi 0]
  rw [← hc15] at hB15
  obtain ⟨wb, hwb⟩ : ∃ wb, wb = wa.alloc (.cells #[vi x, vi y, vi a, vi 0] 77) := ⟨_, rfl⟩
  rw [← hwb] at hb2 hB15
  have hB8' := hB8.below hb2 hB8.lt
  have hbw := hb1.trans (hb2.mono hb1.size)
  have HA := Lib.hid (hA.below hbw)
  have HB := Lib.hid (And.intro hB8' (And.intro hB15 hbw))
  have hc15' : c15 = w.heap.size + 1 := by rw [hc15, hwa]; simp
  have HW := Lib.hid (And.intro hwa (And.intro hwb (And.intro hc8 hc15')))
  obtain ⟨RV, hRV⟩ : ∃ RV, RV = (rulesF code size (el p outc)).map fun F => F (rE p rw) (rE p rw') := ⟨_, rfl⟩
  obtain ⟨SM, hSM⟩ : ∃ SM : Nat → Fin p, SM = fun k => sumT k fun q => pw (el p a) q * (termsK code size (el p outc) zc (el p y) (el p x) (rE p rw) (rE p rw') (fun κ => divK n κ (tD p n i))).getD q 0 := ⟨_, rfl⟩
  have hS0 : SM 0 = 0 := by rw [hSM]; rfl
  have hS1 : ∀ k, k < L + 26 → SM (k + 1) = SM k + pw (el p a) k * (RV.getD k 0 * Zp.inv (divK n (kindN (k - L)) (tD p n i))) := fun k hk => by
    rw [hSM, hRV]
    simp only [sumT]
    rw [termsK_rule code size (el p outc) zc (el p y) (el p x) (rE p rw) (rE p rw') _ (k := k) (by rw [hA.len]; exact hk), hA.len]
  have hz := termsK_z code size (el p outc) zc (el p y) (el p x) (rE p rw) (rE p rw') (fun κ => divK n κ (tD p n i))
  rw [hA.len] at hz
  have hS2 : SM (L + 27) = SM (L + 26) + pw (el p a) (L + 26) * ((el p (rw' zc) * prodR (el p y) (el p x) 12 16 (rE p rw) - el p (rw zc) * prodR (el p y) (el p x) 3 7 (rE p rw)) * Zp.inv (divK n 0 (tD p n i))) := by
    rw [hSM]
    show sumT (L + 26 + 1) _ = _
    simp only [sumT]
    rw [hz.1]
    rfl
  have hS3 : SM (L + 28) = SM (L + 27) + pw (el p a) (L + 27) * ((el p (rw zc) - 1) * Zp.inv (divK n 2 (tD p n i))) := by
    rw [hSM]
    show sumT (L + 27 + 1) _ = _
    simp only [sumT]
    rw [hz.2]
    rfl
  have hrl : (ruV code size (el p outc) (rE p rw) (rE p rw') (L + 26)).length = L + 26 := by
    have hl : ((rulesF code size (el p outc)).map fun F => F (rE p rw) (rE p rw')).length = code.length + 26 := by simp [rulesF, ruS, ruT]
    have := hA.len
    unfold ruV fvs
    rw [List.length_map, List.length_take, hl]
    omega
  have hrv : ∀ k (hk : k < L + 26), (ruV code size (el p outc) (rE p rw) (rE p rw') (L + 26))[k]? = some (fv (RV.getD k 0)) := fun k hk => by
    have hl : RV.length = L + 26 := by rw [hRV, ← hA.len]; simp [rulesF, ruS, ruT]
    have e : ruV code size (el p outc) (rE p rw) (rE p rw') (L + 26) = RV.map fv := by
      unfold ruV fvs
      rw [← hRV, List.take_of_length_le (by omega)]
    rw [e, List.getElem?_map, List.getD_eq_getElem?_getD, List.getElem?_eq_getElem (by omega)]
    rfl
  rw [show (sumT (L + 28) fun q => pw (el p a) q * (termsK code size (el p outc) zc (el p y) (el p x) (rE p rw) (rE p rw') (fun κ => divK n κ (tD p n i))).getD q 0) = SM (L + 28) by rw [hSM]]
  have HSM := Lib.hid (And.intro hS0 (And.intro hS1 (And.intro hS2 hS3)))
  have HRL := Lib.hid (And.intro hrl hrv)
  clear hRV hSM hS0 hS1 hS2 hS3 hz hrl hrv
  clear hA hB8 hB8' hB15 hb1 hb2 hbw hwa hwb hc8 hc15 hc15'
  go_enter Tryz.func62, Tryz.ntmps62
  go_upto_region 1 with (fail)
  rw [← HW.out.1, ← HW.out.2.1, ← HW.out.2.2.2, ← HW.out.2.2.1]
  have KC : Hid (∀ W, Tn [] wb W → W.cell? ⟨c8, 0, none⟩ = some (.pointer (some ⟨P, 0, none⟩)) ∧ W.cell? ⟨P, 0, none⟩ = some (.pointer (some ⟨b, 0, none⟩)) ∧ W.cell? ⟨P, 1, none⟩ = some (vi size) ∧ W.cell? ⟨P, 2, none⟩ = some (.slice AI L cI) ∧ W.cell? ⟨P, 3, none⟩ = some (vi n) ∧ W.cell? ⟨P, 4, none⟩ = some (.pointer (some ⟨E, 0, none⟩)) ∧ W.cell? ⟨P, 5, none⟩ = some (.pointer (some ⟨D, 0, none⟩)) ∧ W.cell? ⟨b, 0, none⟩ = some (vi p)) := Lib.hid fun W hW => by
    have h8 := HB.out.1.tn hW (by simp)
    have hP := HA.out.pl.blk.tn hW (by simp)
    exact ⟨(h8.cell 0).trans rfl, (hP.cell 0).trans rfl, (hP.cell 1).trans rfl, (hP.cell 2).trans rfl, (hP.cell 3).trans rfl, (hP.cell 4).trans rfl, (hP.cell 5).trans rfl, hW.cell HA.out.fb.cp (by simp)⟩
  obtain ⟨tv, htv⟩ : ∃ z, z = fv (tD p n i) := ⟨_, rfl⟩
  obtain ⟨pt, hpt⟩ : ∃ z, z = fv (pw (tD p n i) n) := ⟨_, rfl⟩
  obtain ⟨la, hla⟩ : ∃ z, z = fv (lastE p n) := ⟨_, rfl⟩
  obtain ⟨dv, hdv⟩ : ∃ z : Nat → Int, z = fun κ => fv (divK n κ (tD p n i)) := ⟨_, rfl⟩
  have HLO := HA.out.fb.lo
  have it : I64 tv := by rw [htv]; exact i64_fv _ hp2
  have ipt : I64 pt := by rw [hpt]; exact i64_fv _ hp2
  have ila : I64 la := by rw [hla]; exact i64_fv _ hp2
  have idv : ∀ κ, I64 (dv κ) := fun κ => by rw [hdv]; exact i64_fv _ hp2
  have i1 : I64 1 := by constructor <;> omega
  have HPD := Lib.hid (fun (W : World) (hW : Below wb.heap.size wb W) => HA.out.pl.pointD i hi8 iI hW)
  have HPW : Hid (∀ W, Tn [] wb W → Calls Tryz.prog 95 #[.pointer (some ⟨b, 0, none⟩), vi tv, vi n] W fun e w' => e = .returned (vi pt) ∧ ∃ k, w' = W.drewN k) := Lib.hid fun W hW =>
    (pow_any p HLO hp2 b tv n it nI W (KC.out W hW).2.2.2.2.2.2.2).mono fun e w' h => ⟨by rw [h.1, zpw, if_pos (by omega), htv, el_fv, hpt]; rfl, h.2⟩
  have HS0 : Hid (∀ W, Tn [] wb W → Calls Tryz.prog 94 #[.pointer (some ⟨b, 0, none⟩), vi pt, vi 1] W fun e w' => e = .returned (vi (dv 0)) ∧ ∃ k, w' = W.drewN k) := Lib.hid fun W hW =>
    (sub_any p hp2 b pt 1 ipt i1 W (KC.out W hW).2.2.2.2.2.2.2).mono fun e w' h => ⟨by rw [h.1, hpt, el_fv, el_one, hdv]; rfl, 0, h.2.symm⟩
  have HPE : Hid (∀ W, Tn [] wb W → Calls Tryz.prog 93 #[.pointer (some ⟨E, 0, none⟩), vi ((n : Int) - 1)] W fun e w' => e = .returned (vi la) ∧ ∃ k, w' = W.drewN k) := Lib.hid fun W hW => by
    obtain ⟨S, hd⟩ := HA.out.pl.de
    refine (point_any p S E b n 1 ((n : Int) - 1) mI W (hd.below (hW.below (by simp) (Nat.le_refl _)) hd.le)).mono fun e w' h => ⟨?_, h.2⟩
    rw [h.1, hla]
    have e1 : (((n : Int) - 1) % (n : Int)).toNat = n - 1 := by
      rw [Int.emod_eq_of_lt (by omega) (by omega)]
      omega
    rw [e1]
    congr 3
    unfold lastE eH
    grind
  have HS3 : Hid (∀ W, Tn [] wb W → Calls Tryz.prog 94 #[.pointer (some ⟨b, 0, none⟩), vi tv, vi la] W fun e w' => e = .returned (vi (dv 3)) ∧ ∃ k, w' = W.drewN k) := Lib.hid fun W hW =>
    (sub_any p hp2 b tv la it ila W (KC.out W hW).2.2.2.2.2.2.2).mono fun e w' h => ⟨by rw [h.1, htv, hla, el_fv, el_fv, hdv]; rfl, 0, h.2.symm⟩
  have HD1 : Hid (∀ W, Tn [] wb W → Calls Tryz.prog 96 #[.pointer (some ⟨b, 0, none⟩), vi (dv 0), vi (dv 3)] W fun e w' => e = .returned (vi (dv 1)) ∧ ∃ k, w' = W.drewN k) := Lib.hid fun W hW =>
    (div_any p HLO hp2 b (dv 0) (dv 3) (idv 0) (idv 3) W (KC.out W hW).2.2.2.2.2.2.2).mono fun e w' h => ⟨by rw [h.1, hdv]; simp only [el_fv]; rfl, h.2⟩
  have HS2 : Hid (∀ W, Tn [] wb W → Calls Tryz.prog 94 #[.pointer (some ⟨b, 0, none⟩), vi tv, vi 1] W fun e w' => e = .returned (vi (dv 2)) ∧ ∃ k, w' = W.drewN k) := Lib.hid fun W hW =>
    (sub_any p hp2 b tv 1 it i1 W (KC.out W hW).2.2.2.2.2.2.2).mono fun e w' h => ⟨by rw [h.1, htv, el_fv, el_one, hdv]; rfl, 0, h.2.symm⟩
  have HV := Lib.hid (And.intro htv (And.intro hdv idv))
  have c0 := (KC.out wb (Tn.refl _ _)).1
  have c5 := (KC.out wb (Tn.refl _ _)).2.2.2.2.2.2.1
  rw [← htv] at HPD
  clear htv hpt hla hdv it ipt ila idv
  go_wp2_with fail
  refine (HPD.out _ (Below.refl _ _)).mono ?_
  rintro _ w1 ⟨rfl, hb1⟩
  have HT1 : Hid (Tn [] wb w1) := Lib.hid (Tn.of_below hb1)
  clear c0 c5 hb1
  have k0 := (KC.out w1 HT1.out).1
  have k1 := (KC.out w1 HT1.out).2.1
  have k2 := (KC.out w1 HT1.out).2.2.2.2.1
  have k3 := (KC.out w1 HT1.out).2.2.2.2.2.1
  go_upto_region 2 with (fail)
  go_quiet (first | (go_at_call 95; exact Calls.quiet_of (HPW.out _ (HT1.out.drewN _))) | (go_at_call 94; exact Calls.quiet_of (HS0.out _ (HT1.out.drewN _))) | (go_at_call 93; exact Calls.quiet_of (HPE.out _ (HT1.out.drewN _))))
  go_wp2_with fail
  refine (HS3.out _ (HT1.out.drewN _)).mono ?_
  rintro _ w3 ⟨rfl, k3, e3⟩
  have HT3 : Hid (Tn [] wb w3) := Lib.hid (by rw [e3]; exact (HT1.out.drewN _).drewN _)
  clear e3 k0 k1 k2 k3
  have KQ : Hid (∀ W, Tn [] wb W → W.cell? ⟨c8, 0, none⟩ = some (.pointer (some ⟨P, 0, none⟩)) ∧ W.cell? ⟨P, 0, none⟩ = some (.pointer (some ⟨b, 0, none⟩))) := Lib.hid fun W hW => ⟨(KC.out W hW).1, (KC.out W hW).2.1⟩
  go_upto_region 4 with (fail)
  refine' wp_fixedR _ (fun W' => Blk W' w3.heap.size 161 #[vi (dv 0), vi (dv 1), vi (dv 2), vi (dv 3)] ∧ Tn [] wb W') ?reg4 ?next4
  case reg4 =>
    refine wp_region_held_drew (S := fun W => W.cell? ⟨c8, 0, none⟩ = some (.pointer (some ⟨P, 0, none⟩)) ∧ W.cell? ⟨P, 0, none⟩ = some (.pointer (some ⟨b, 0, none⟩))) (by kernel_rfl) (KQ.out _ HT3.out.drew) (fun hHeld => ?_)
    refine tkH 0 ?_
    refine tkH 1 ?_
    refine tkH 2 ?_
    refine tkH 3 ?_
    refine tkH 4 ?_
    refine tkH 5 ?_
    refine tkH 6 ?_
    refine tkH 8 ?_
    refine tkH 9 ?_
    refine tkH 10 ?_
    refine tkH 11 ?_
    refine tkH 12 ?_
    refine tkH 14 ?_
    refine wpAnyH_ready (rs := [7, 16]) (by kernel_rfl) (by simp) (AllReadyH.cons rfl (fun K hK => ?_) (AllReadyH.cons rfl (fun K hK => ?_) (AllReadyH.nil)))
    · have _tk := hHeld
      go_simp
      refine (HD1.out _ (by repeat (first | exact Tn.refl _ _ | exact HT3.out | with_reducible apply Tn.alloc | with_reducible apply Tn.drew | with_reducible apply Tn.drewN))).mono ?_
      rintro _ _ ⟨rfl, k, rfl⟩
      refine hK.out _ _ (KQ.out _ (by repeat (first | exact Tn.refl _ _ | exact HT3.out | with_reducible apply Tn.alloc | with_reducible apply Tn.drew | with_reducible apply Tn.drewN))) (fun hHeld => ?_)
      clear hK K
      (try simp only [Act.put, List.setIfInBounds_toArray, List.set_cons_zero, List.set_cons_succ])
      refine wpAnyH_ready (rs := [13, 16]) (by kernel_rfl) (by simp) (AllReadyH.cons rfl (fun K hK => ?_) (AllReadyH.cons rfl (fun K hK => ?_) (AllReadyH.nil)))
      · have _tk := hHeld
        go_simp
        refine (HS2.out _ (by repeat (first | exact Tn.refl _ _ | exact HT3.out | with_reducible apply Tn.alloc | with_reducible apply Tn.drew | with_reducible apply Tn.drewN))).mono ?_
        rintro _ _ ⟨rfl, k, rfl⟩
        refine hK.out _ _ (KQ.out _ (by repeat (first | exact Tn.refl _ _ | exact HT3.out | with_reducible apply Tn.alloc | with_reducible apply Tn.drew | with_reducible apply Tn.drewN))) (fun hHeld => ?_)
        clear hK K
        (try simp only [Act.put, List.setIfInBounds_toArray, List.set_cons_zero, List.set_cons_succ])
        refine tkH 15 ?_
        refine wpAnyH_ready (rs := [16]) (by kernel_rfl) (by simp) (AllReadyH.cons rfl (fun K hK => ?_) AllReadyH.nil)
        go_simp
        refine hK.out _ _ (KQ.out _ (by repeat (first | exact Tn.refl _ _ | exact HT3.out | with_reducible apply Tn.alloc | with_reducible apply Tn.drew | with_reducible apply Tn.drewN))) (fun hHeld => ?_)
        clear hK K
        (try simp only [Act.put, List.setIfInBounds_toArray, List.set_cons_zero, List.set_cons_succ])
        refine nameW _ fun W4 hW4 => ?_
        have hB : Blk W4 w3.heap.size 161 #[vi 0, vi 0, vi 0, vi 0] := by rw [hW4]; exact Blk.new w3 _ _
        have hT : Tn [] wb W4 := by
          rw [hW4]
          repeat (first | exact Tn.refl _ _ | exact HT3.out | with_reducible apply Tn.alloc | with_reducible apply Tn.drew | with_reducible apply Tn.drewN)
        rw [← hW4] at hHeld
        have y0 := (hB.cell 0).trans (show _ = some (vi 0) from rfl)
        have y1 := (hB.cell 1).trans (show _ = some (vi 0) from rfl)
        have y2 := (hB.cell 2).trans (show _ = some (vi 0) from rfl)
        have y3 := (hB.cell 3).trans (show _ = some (vi 0) from rfl)
        have z0 := hB.frozen 0
        have z1 := hB.frozen 1
        have z2 := hB.frozen 2
        have z3 := hB.frozen 3
        have HBT := Lib.hid (And.intro hB hT)
        clear hB hT hW4
        refine stH 17 (fun K hK => ?_)
        go_simp
        have hT' := (((HBT.out.2.setCell (q := ⟨w3.heap.size, 0, none⟩) (.inr HT3.out.size) (vi (dv 0))).setCell (q := ⟨w3.heap.size, 1, none⟩) (.inr HT3.out.size) (vi (dv 1))).setCell (q := ⟨w3.heap.size, 2, none⟩) (.inr HT3.out.size) (vi (dv 2))).setCell (q := ⟨w3.heap.size, 3, none⟩) (.inr HT3.out.size) (vi (dv 3))
        refine hK.out _ _ (KQ.out _ hT') (fun hHeld => ?_)
        clear hK K
        (try simp only [Act.put, List.setIfInBounds_toArray, List.set_cons_zero, List.set_cons_succ])
        refine wpAnyH_done (by kernel_rfl) ?_ _
        refine And.intro ?_ ?_
        rotate_left
        exact Eq.refl _
        exact ⟨(((HBT.out.1.set_ 0 _).set_ 1 _).set_ 2 _).set_ 3 _, hT'⟩
      · have _tk := hHeld
        go_simp
        refine hK.out _ _ (KQ.out _ (by repeat (first | exact Tn.refl _ _ | exact HT3.out | with_reducible apply Tn.alloc | with_reducible apply Tn.drew | with_reducible apply Tn.drewN))) (fun hHeld => ?_)
        clear hK K
        (try simp only [Act.put, List.setIfInBounds_toArray, List.set_cons_zero, List.set_cons_succ])
        refine wpAnyH_ready (rs := [13]) (by kernel_rfl) (by simp) (AllReadyH.cons rfl (fun K hK => ?_) AllReadyH.nil)
        go_simp
        refine (HS2.out _ (by repeat (first | exact Tn.refl _ _ | exact HT3.out | with_reducible apply Tn.alloc | with_reducible apply Tn.drew | with_reducible apply Tn.drewN))).mono ?_
        rintro _ _ ⟨rfl, k, rfl⟩
        refine hK.out _ _ (KQ.out _ (by repeat (first | exact Tn.refl _ _ | exact HT3.out | with_reducible apply Tn.alloc | with_reducible apply Tn.drew | with_reducible apply Tn.drewN))) (fun hHeld => ?_)
        clear hK K
        (try simp only [Act.put, List.setIfInBounds_toArray, List.set_cons_zero, List.set_cons_succ])
        refine tkH 15 ?_
        refine nameW _ fun W4 hW4 => ?_
        have hB : Blk W4 w3.heap.size 161 #[vi 0, vi 0, vi 0, vi 0] := by rw [hW4]; exact Blk.new w3 _ _
        have hT : Tn [] wb W4 := by
          rw [hW4]
          repeat (first | exact Tn.refl _ _ | exact HT3.out | with_reducible apply Tn.alloc | with_reducible apply Tn.drew | with_reducible apply Tn.drewN)
        rw [← hW4] at hHeld
        have y0 := (hB.cell 0).trans (show _ = some (vi 0) from rfl)
        have y1 := (hB.cell 1).trans (show _ = some (vi 0) from rfl)
        have y2 := (hB.cell 2).trans (show _ = some (vi 0) from rfl)
        have y3 := (hB.cell 3).trans (show _ = some (vi 0) from rfl)
        have z0 := hB.frozen 0
        have z1 := hB.frozen 1
        have z2 := hB.frozen 2
        have z3 := hB.frozen 3
        have HBT := Lib.hid (And.intro hB hT)
        clear hB hT hW4
        refine stH 17 (fun K hK => ?_)
        go_simp
        have hT' := (((HBT.out.2.setCell (q := ⟨w3.heap.size, 0, none⟩) (.inr HT3.out.size) (vi (dv 0))).setCell (q := ⟨w3.heap.size, 1, none⟩) (.inr HT3.out.size) (vi (dv 1))).setCell (q := ⟨w3.heap.size, 2, none⟩) (.inr HT3.out.size) (vi (dv 2))).setCell (q := ⟨w3.heap.size, 3, none⟩) (.inr HT3.out.size) (vi (dv 3))
        refine hK.out _ _ (KQ.out _ hT') (fun hHeld => ?_)
        clear hK K
        (try simp only [Act.put, List.setIfInBounds_toArray, List.set_cons_zero, List.set_cons_succ])
        refine wpAnyH_done (by kernel_rfl) ?_ _
        refine And.intro ?_ ?_
        rotate_left
        exact Eq.refl _
        exact ⟨(((HBT.out.1.set_ 0 _).set_ 1 _).set_ 2 _).set_ 3 _, hT'⟩
    · have _tk := hHeld
      go_simp
      refine hK.out _ _ (KQ.out _ (by repeat (first | exact Tn.refl _ _ | exact HT3.out | with_reducible apply Tn.alloc | with_reducible apply Tn.drew | with_reducible apply Tn.drewN))) (fun hHeld => ?_)
      clear hK K
      (try simp only [Act.put, List.setIfInBounds_toArray, List.set_cons_zero, List.set_cons_succ])
      refine wpAnyH_ready (rs := [7]) (by kernel_rfl) (by simp) (AllReadyH.cons rfl (fun K hK => ?_) AllReadyH.nil)
      go_simp
      refine (HD1.out _ (by repeat (first | exact Tn.refl _ _ | exact HT3.out | with_reducible apply Tn.alloc | with_reducible apply Tn.drew | with_reducible apply Tn.drewN))).mono ?_
      rintro _ _ ⟨rfl, k, rfl⟩
      refine hK.out _ _ (KQ.out _ (by repeat (first | exact Tn.refl _ _ | exact HT3.out | with_reducible apply Tn.alloc | with_reducible apply Tn.drew | with_reducible apply Tn.drewN))) (fun hHeld => ?_)
      clear hK K
      (try simp only [Act.put, List.setIfInBounds_toArray, List.set_cons_zero, List.set_cons_succ])
      refine wpAnyH_ready (rs := [13]) (by kernel_rfl) (by simp) (AllReadyH.cons rfl (fun K hK => ?_) AllReadyH.nil)
      go_simp
      refine (HS2.out _ (by repeat (first | exact Tn.refl _ _ | exact HT3.out | with_reducible apply Tn.alloc | with_reducible apply Tn.drew | with_reducible apply Tn.drewN))).mono ?_
      rintro _ _ ⟨rfl, k, rfl⟩
      refine hK.out _ _ (KQ.out _ (by repeat (first | exact Tn.refl _ _ | exact HT3.out | with_reducible apply Tn.alloc | with_reducible apply Tn.drew | with_reducible apply Tn.drewN))) (fun hHeld => ?_)
      clear hK K
      (try simp only [Act.put, List.setIfInBounds_toArray, List.set_cons_zero, List.set_cons_succ])
      refine tkH 15 ?_
      refine nameW _ fun W4 hW4 => ?_
      have hB : Blk W4 w3.heap.size 161 #[vi 0, vi 0, vi 0, vi 0] := by rw [hW4]; exact Blk.new w3 _ _
      have hT : Tn [] wb W4 := by
        rw [hW4]
        repeat (first | exact Tn.refl _ _ | exact HT3.out | with_reducible apply Tn.alloc | with_reducible apply Tn.drew | with_reducible apply Tn.drewN)
      rw [← hW4] at hHeld
      have y0 := (hB.cell 0).trans (show _ = some (vi 0) from rfl)
      have y1 := (hB.cell 1).trans (show _ = some (vi 0) from rfl)
      have y2 := (hB.cell 2).trans (show _ = some (vi 0) from rfl)
      have y3 := (hB.cell 3).trans (show _ = some (vi 0) from rfl)
      have z0 := hB.frozen 0
      have z1 := hB.frozen 1
      have z2 := hB.frozen 2
      have z3 := hB.frozen 3
      have HBT := Lib.hid (And.intro hB hT)
      clear hB hT hW4
      refine stH 17 (fun K hK => ?_)
      go_simp
      have hT' := (((HBT.out.2.setCell (q := ⟨w3.heap.size, 0, none⟩) (.inr HT3.out.size) (vi (dv 0))).setCell (q := ⟨w3.heap.size, 1, none⟩) (.inr HT3.out.size) (vi (dv 1))).setCell (q := ⟨w3.heap.size, 2, none⟩) (.inr HT3.out.size) (vi (dv 2))).setCell (q := ⟨w3.heap.size, 3, none⟩) (.inr HT3.out.size) (vi (dv 3))
      refine hK.out _ _ (KQ.out _ hT') (fun hHeld => ?_)
      clear hK K
      (try simp only [Act.put, List.setIfInBounds_toArray, List.set_cons_zero, List.set_cons_succ])
      refine wpAnyH_done (by kernel_rfl) ?_ _
      refine And.intro ?_ ?_
      rotate_left
      exact Eq.refl _
      exact ⟨(((HBT.out.1.set_ 0 _).set_ 1 _).set_ 2 _).set_ 3 _, hT'⟩
  case next4 =>
  intro w4 h4
  obtain ⟨hB4, hT4⟩ := h4
  obtain ⟨c21, hc21⟩ : ∃ c, c = w3.heap.size := ⟨_, rfl⟩
  rw [← hc21] at hB4 ⊢
  have n21 : wb.heap.size ≤ c21 := by rw [hc21]; exact HT3.out.size
  have HT4 := Lib.hid hT4
  have HB4 := Lib.hid (And.intro hB4 n21)
  have KR : Hid (∀ W, Tn [] wb W → W.cell? ⟨c8, 0, none⟩ = some (.pointer (some ⟨P, 0, none⟩)) ∧ W.cell? ⟨P, 0, none⟩ = some (.pointer (some ⟨b, 0, none⟩)) ∧ W.cell? ⟨P, 1, none⟩ = some (vi size) ∧ W.cell? ⟨P, 2, none⟩ = some (.slice AI L cI)) := Lib.hid fun W hW => ⟨(KC.out W hW).1, (KC.out W hW).2.1, (KC.out W hW).2.2.1, (KC.out W hW).2.2.2.1⟩
  clear hB4 hT4 hc21 n21
  go_upto_region 5 with (fail)
  refine' wp_fixedR _ (fun W' => Blk W' w4.heap.size 164 #[.pointer (some ⟨b, 0, none⟩), vi size, .slice AI L cI, vi outc, .slice none 0 0, .slice none 0 0] ∧ Tn [] w4 W') ?reg5 ?next5
  case reg5 =>
    refine wp_region_held_drew (S := fun W => W.cell? ⟨c8, 0, none⟩ = some (.pointer (some ⟨P, 0, none⟩)) ∧ W.cell? ⟨P, 0, none⟩ = some (.pointer (some ⟨b, 0, none⟩)) ∧ W.cell? ⟨P, 1, none⟩ = some (vi size) ∧ W.cell? ⟨P, 2, none⟩ = some (.slice AI L cI)) (by kernel_rfl) (KR.out _ HT4.out.drew) (fun hHeld => ?_)
    refine tkH 0 ?_
    refine tkH 1 ?_
    refine tkH 2 ?_
    refine tkH 3 ?_
    refine tkH 4 ?_
    refine tkH 5 ?_
    refine tkH 6 ?_
    refine tkH 7 ?_
    refine tkH 8 ?_
    refine tkH 9 ?_
    refine stH 10 (fun K hK => ?_)
    go_simp
    refine hK.out _ _ (KR.out _ (by repeat (first | exact HT4.out | with_reducible apply Tn.alloc | with_reducible apply Tn.drew | with_reducible apply Tn.drewN))) (fun hHeld => ?_)
    clear hK K
    (try simp only [Act.put, List.setIfInBounds_toArray, List.set_cons_zero, List.set_cons_succ])
    refine tkH 11 ?_
    refine wpAnyH_done (by kernel_rfl) ?_ _
    refine And.intro ?_ ?_
    rotate_left
    exact Eq.refl _
    exact ⟨Blk.new _ _ _, ((Tn.refl [] w4).drew).alloc _⟩
  case next5 =>
  intro w5 h5
  obtain ⟨hB5, hT5⟩ := h5
  obtain ⟨j, hj⟩ : ∃ c, c = w4.heap.size := ⟨_, rfl⟩
  rw [← hj] at hB5 ⊢
  have HT5 : Hid (Tn [] w4 w5) := Lib.hid hT5
  have HB5 : Hid (Blk w5 j 164 #[.pointer (some ⟨b, 0, none⟩), vi size, .slice AI L cI, vi outc, .slice none 0 0, .slice none 0 0] ∧ w4.heap.size ≤ j) := Lib.hid (And.intro hB5 (by omega))
  clear hB5 hT5 hj
  go_upto_region 6 with (fail)
  refine' wp_fixedR _ (fun W' => Blk W' w5.heap.size 3 #[vi 0] ∧ Blk W' (w5.heap.size + 1) 3 #[vi 1] ∧ Tn [] w5 W') ?reg6 ?next6
  case reg6 =>
    go_wp2
    refine And.intro ?_ ?_
    rotate_left
    exact Eq.refl _
    have h24 := Blk.new (w5.alloc (.cells #[vi 0] 3)) 3 #[vi 1]
    rw [show (w5.alloc (.cells #[vi 0] 3)).heap.size = w5.heap.size + 1 by simp] at h24
    exact ⟨(Blk.new w5 _ _).alloc _, h24, ((Tn.refl [] w5).alloc _).alloc _⟩
  case next6 =>
  intro w7 h7
  obtain ⟨c23, hc23⟩ : ∃ c, c = w5.heap.size := ⟨_, rfl⟩
  obtain ⟨c24, hc24⟩ : ∃ c, c = w5.heap.size + 1 := ⟨_, rfl⟩
  rw [← hc24, ← hc23] at h7 ⊢
  have n23 : w5.heap.size ≤ c23 := by omega
  have n24 : c24 = c23 + 1 := by omega
  have H7 := Lib.hid h7
  have HC := Lib.hid (And.intro n23 n24)
  clear h7 hc23 hc24 n23 n24
  have hT7 : Tn [] wb w7 := (HT4.out.trans (HT5.out)).trans H7.out.2.2
  have HT7 := Lib.hid hT7
  have hj : j ≠ b := fun e => by have := block_lt_of_cell (HT4.out.cell HA.out.fb.cp (by simp)); have := HB5.out.2; simp only at *; omega
  obtain ⟨w2, hw2⟩ : ∃ w2, w2 = (w7.setCell ⟨j, 4, none⟩ (.slice (some ⟨g, 0, none⟩) (20 + L) cA)).setCell ⟨j, 5, none⟩ (.slice (some ⟨g', 0, none⟩) (20 + L) cA') := ⟨_, rfl⟩
  have hjb : wb.heap.size ≤ j := Nat.le_trans HT4.out.size HB5.out.2
  have hT2 : Tn [] wb w2 := by rw [hw2]; exact (hT7.setCell (.inr hjb) _).setCell (.inr hjb) _
  have hB2 : Blk w2 j 164 #[.pointer (some ⟨b, 0, none⟩), vi size, .slice AI L cI, vi outc, .slice (some ⟨g, 0, none⟩) (20 + L) cA, .slice (some ⟨g', 0, none⟩) (20 + L) cA'] := by
    rw [hw2]
    exact ((HB5.out.1.tn H7.out.2.2 (by simp)).set_ 4 _).set_ 5 _
  have hA2 := HA.out.below (hT2.below (B := wb.heap.size) (by simp) (Nat.le_refl _))
  have hL' : 1 ≤ L ∧ L ≤ 64 := ⟨hL.1, hL.2.1⟩
  have hX2 : JX w2 j b p g (20 + L) cA rw AI L cI code size outc g' rw' :=
    ⟨⟨hA2.fb.cp, (hB2.cell 0).trans rfl, (hB2.cell 4).trans rfl, hA2.at_, hA2.i1, by omega, hp2, by omega⟩, (hB2.cell 2).trans rfl, hA2.it, (hB2.cell 1).trans rfl, (hB2.cell 3).trans rfl, hA2.nx, hA2.i2, hA2.isz, ho, hA2.len, rfl⟩
  have HR := Lib.hid (jrules_any j b p g (20 + L) cA cA' rw AI L cI code size outc g' rw' (.slice none 0 0) (.slice none 0 0) hL'.1 (by omega) w7 w2 hw2 (HB5.out.1.tn H7.out.2.2 (by simp)) hX2)
  have HT2 := Lib.hid (And.intro hT2 (show Tn [j] w7 w2 by rw [hw2]; exact ((Tn.refl [j] w7).setCell (.inl (by simp)) _).setCell (.inl (by simp)) _))
  clear hT7 hw2 hT2 hB2 hA2 hX2
  go_wp2_with fail
  refine HR.out.mono ?_
  rintro _ w8 ⟨v, rfl, hO, hb8⟩
  obtain ⟨gv, cv, hv, hg1, hg2⟩ := hO.block (by rw [HRL.out.1]; omega)
  rw [HRL.out.1] at hv
  subst hv
  have hAt : ∀ k, k < L + 26 → w8.cell? ⟨gv, k, none⟩ = some (vi (fv (RV.getD k 0))) := fun k hk => by
    have e := HRL.out.2 k hk
    rw [List.getElem?_eq_getElem (by rw [HRL.out.1]; exact hk)] at e
    injection e with e
    rw [hO.at_ HRL.out.1.symm k (by rw [HRL.out.1]; exact hk), e]
  have hT28 : Tn [] w2 w8 := Tn.of_below hb8
  have hT8 : Tn [] wb w8 := HT2.out.1.trans hT28
  have hT48 : Tn [j] w4 w8 := ((((HT5.out.trans H7.out.2.2).more (by simp)).trans HT2.out.2)).trans (hT28.more (by simp))
  have hj5 : j < w5.heap.size := HB5.out.1.lt
  have h23 : Blk w8 c23 3 #[vi 0] := (H7.out.1.tn HT2.out.2 (by have := HC.out.1; simp; omega)).tn hT28 (by simp)
  have h24 : Blk w8 c24 3 #[vi 1] := (H7.out.2.1.tn HT2.out.2 (by have := HC.out; simp; omega)).tn hT28 (by simp)
  have h21 : Blk w8 c21 161 #[vi (dv 0), vi (dv 1), vi (dv 2), vi (dv 3)] := HB4.out.1.tn hT48 (by have := HB4.out.1.lt; have := HB5.out.2; simp; omega)
  have h15 : Blk w8 c15 77 #[vi x, vi y, vi a, vi 0] := HB.out.2.1.tn hT8 (by simp)
  have k8 := KC.out w8 hT8
  have hA8 := HA.out.below (hT8.below (B := wb.heap.size) (by simp) (Nat.le_refl _))
  have hC8 : AtC w8 c8 c21 c15 P b p dv a := ⟨hA8.fb, k8.1, k8.2.1, fun κ hκ => by
    rcases (by omega : κ = 0 ∨ κ = 1 ∨ κ = 2 ∨ κ = 3) with rfl | rfl | rfl | rfl <;> exact (h21.cell _).trans rfl, (h15.cell 2).trans rfl, HV.out.2.2, ha⟩
  have hn : c8 < c23 ∧ c21 < c23 ∧ c15 < c23 ∧ P < c23 ∧ b < c23 ∧ g < c23 ∧ c24 < gv ∧ c24 = c23 + 1 := by
    have e1 := HB.out.1.lt
    have e2 := HB4.out.1.lt
    have e3 := HB.out.2.1.lt
    have e4 := HA.out.pl.blk.lt
    have e5 := block_lt_of_cell HA.out.fb.cp
    have e6 := block_lt_of_cell (HA.out.at_ 0 (by omega))
    have e7 := H7.out.2.1.lt
    have e8 := HC.out
    have e9 := HT4.out.size
    have e10 := HT5.out.size
    have e11 := HT2.out.2.size
    simp only at e5 e6
    omega
  have z23 : vi 0 = vi (fv (SM 0)) := by rw [HSM.out.1, fv_zero]
  have z24 : vi 1 = vi (fv (pw (el p a) 0)) := by rw [pw_zero, fv_one (by omega)]
  rw [z23] at h23
  rw [z24] at h24
  have h15c := And.intro ((h15.cell 0).trans (show _ = some (vi x) from rfl)) ((h15.cell 1).trans (show _ = some (vi y) from rfl))
  have H8 := Lib.hid (And.intro hT8 (And.intro hC8 (And.intro hn (And.intro hAt (And.intro h23 (And.intro h24 (And.intro h15c hA8)))))))
  have HKN : Hid (∀ k, kindN k < 4) := Lib.hid fun k => by unfold kindN; repeat (first | omega | split)
  have K9 : Hid (∀ W, Tn [c23, c24] w8 W → W.cell? ⟨c8, 0, none⟩ = some (.pointer (some ⟨P, 0, none⟩)) ∧ W.cell? ⟨P, 0, none⟩ = some (.pointer (some ⟨b, 0, none⟩)) ∧ W.cell? ⟨P, 2, none⟩ = some (.slice AI L cI) ∧ W.cell? ⟨c15, 0, none⟩ = some (vi x) ∧ W.cell? ⟨c15, 1, none⟩ = some (vi y)) := Lib.hid fun W hW => by
    obtain ⟨n1, n2, n3, n4, n5, n6, n7, n8⟩ := H8.out.2.2.1
    have k8 := KC.out w8 H8.out.1
    exact ⟨hW.cell k8.1 (by simp; omega), hW.cell k8.2.1 (by simp; omega), hW.cell k8.2.2.2.1 (by simp; omega), hW.cell H8.out.2.2.2.2.2.2.1.1 (by simp; omega), hW.cell H8.out.2.2.2.2.2.2.1.2 (by simp; omega)⟩
  have HC1 : Hid (∀ W, Tn [c23, c24] w8 W → AtC W c8 c21 c15 P b p dv a) := Lib.hid fun W hW => by
    obtain ⟨n1, n2, n3, n4, n5, n6, n7, n8⟩ := H8.out.2.2.1
    exact H8.out.2.1.tn hW (by simp; omega) (by simp; omega) (by simp; omega) (by simp; omega) (by simp; omega)
  have HAT1 : Hid (∀ W, Tn [c23, c24] w8 W → ∀ (s e h : Int), I64 s → I64 e → I64 h → ∀ κ : Nat, κ < 4 → Blk W c23 3 #[vi s] → Blk W c24 3 #[vi e] →
      Calls Tryz.prog 97 #[vi h, vi κ, .pointer (some ⟨c8, 0, none⟩), .pointer (some ⟨c23, 0, none⟩), .pointer (some ⟨c24, 0, none⟩), .pointer (some ⟨c21, 0, none⟩), .pointer (some ⟨c15, 0, none⟩)] W (At1P c23 c24 (fv (el p s + el p e * (el p h * Zp.inv (el p (dv κ))))) (fv (el p e * el p a)) W)) := Lib.hid fun W hW s e h hs he hh κ hκ h1 h2 => by
    obtain ⟨n1, n2, n3, n4, n5, n6, n7, n8⟩ := H8.out.2.2.1
    exact at1_any c8 c21 c15 P b p dv a c23 c24 s e h hs he hh κ hκ W (HC1.out W hW) h1 h2 (by omega) (by simp; omega) (by simp; omega) (by simp; omega) (by simp; omega) (by simp; omega)
  clear hT8 hT28 hT48 hC8 hn hAt h23 h24 h21 h15 h15c k8 hA8 hO hb8 hg1 hg2 hj5 z23 z24
  have HLL := Lib.hid hL'
  go_wp2
  go_loopw [101] (fun i wr => ∃ k : Nat, k ≤ L + 26 ∧ i = vi k ∧ Tn [c23, c24] w8 wr ∧ Blk wr c23 3 #[vi (fv (SM k))] ∧ Blk wr c24 3 #[vi (fv (pw (el p a) k))]) (fun i _ => L + 26 - (intOf i).toNat)
  case atStart => exact ⟨0, by omega, rfl, Tn.refl _ _, H8.out.2.2.2.2.1, H8.out.2.2.2.2.2.1⟩
  case round =>
    rename World => w9
    obtain ⟨k, hk, rfl, hT9, h23, h24⟩ := hrel
    by_cases hk2 : k < L + 26
    · have hcv := hT9.cell (H8.out.2.2.2.1 k hk2) (by have := H8.out.2.2.1; simp; omega)
      have k9 := K9.out w9 hT9
      have i1k : (0 : Int) ≤ (k : Int) := by omega
      have i2k : (k : Int) < ((L + 26 : Nat) : Int) := by omega
      have HT9 := Lib.hid (And.intro hT9 (And.intro h23 h24))
      have HKK := Lib.hid hk2
      have hkk : (k : Int) < (L : Int) + 26 := by omega
      clear hT9 h23 h24
      go_wp2_with fail
      refine (rulesOf_any k L (by have := HKK.out; have := HLL.out; omega) (by have := HLL.out; omega) _).mono ?_
      rintro _ w10 ⟨rfl, hb10⟩
      have HT10 : Hid (Tn [c23, c24] w8 w10 ∧ Blk w10 c23 3 #[vi (fv (SM k))] ∧ Blk w10 c24 3 #[vi (fv (pw (el p a) k))]) := Lib.hid ⟨HT9.out.1.trans (Tn.of_below hb10), HT9.out.2.1.below hb10 HT9.out.2.1.lt, HT9.out.2.2.below hb10 HT9.out.2.2.lt⟩
      clear hb10
      go_wp2_with fail
      refine (HAT1.out w10 HT10.out.1 (fv (SM k)) (fv (pw (el p a) k)) (fv (RV.getD k 0)) (i64_fv _ hp2) (i64_fv _ hp2) (i64_fv _ hp2) (kindN (k - L)) (HKN.out _) HT10.out.2.1 HT10.out.2.2).mono ?_
      rintro _ w11 ⟨⟨v, rfl⟩, hT11, hS11, hE11⟩
      have HT11 : Hid (Tn [c23, c24] w8 w11 ∧ Blk w11 c23 3 #[vi (fv (SM (k + 1)))] ∧ Blk w11 c24 3 #[vi (fv (pw (el p a) (k + 1)))]) := Lib.hid ⟨HT10.out.1.trans hT11, by
        rw [HV.out.2.1] at hS11
        simp only [el_fv] at hS11
        rw [HSM.out.2.1 k HKK.out]
        exact hS11, by
        simp only [el_fv] at hE11
        rw [pw_succ]
        exact hE11⟩
      clear hT11 hS11 hE11 hcv k9
      go_wp2
      exact ⟨⟨k + 1, by omega, by go_num, HT11.out⟩, by simp [intOf]; omega⟩
    · obtain rfl : k = L + 26 := by omega
      have k9 := K9.out w9.drew hT9.drew
      have HT9 := Lib.hid (And.intro hT9 (And.intro h23 h24))
      clear hT9 h23 h24
      go_upto_region 13 with (fail)
      have K13 : Hid (∀ W, Tn [c23, c24] w8 W → W.cell? ⟨c8, 0, none⟩ = some (.pointer (some ⟨P, 0, none⟩)) ∧ W.cell? ⟨P, 0, none⟩ = some (.pointer (some ⟨b, 0, none⟩)) ∧ W.cell? ⟨c15, 0, none⟩ = some (vi x) ∧ W.cell? ⟨c15, 1, none⟩ = some (vi y)) := Lib.hid fun W hW => ⟨(K9.out W hW).1, (K9.out W hW).2.1, (K9.out W hW).2.2.2⟩
      have HFAC : Hid (∀ W, Tn [c23, c24] w8 W → Calls Tryz.prog 101 #[.pointer (some ⟨b, 0, none⟩), .slice (some ⟨g, 0, none⟩) (20 + L) cA, vi x, vi y] W fun e w' => e = .returned (.tuple #[vi (fv (prodR (el p y) (el p x) 3 7 (rE p rw))), vi (fv (prodR (el p y) (el p x) 12 16 (rE p rw)))]) ∧ Below W.heap.size W w') := Lib.hid fun W hW =>
        facs_any b p g (20 + L) cA rw x y hx hy (by omega) (by have := HLL.out; omega) H8.out.2.2.2.2.2.2.2.i1 W (HC1.out W hW).fb fun k hk => hW.cell (H8.out.2.2.2.2.2.2.2.at_ k hk) (by have := H8.out.2.2.1; simp; omega)
      obtain ⟨fA, hfA⟩ : ∃ z, z = prodR (el p y) (el p x) 3 7 (rE p rw) := ⟨_, rfl⟩
      obtain ⟨fB, hfB⟩ : ∃ z, z = prodR (el p y) (el p x) 12 16 (rE p rw) := ⟨_, rfl⟩
      rw [← hfA, ← hfB] at HFAC HSM
      have HI := Lib.hid (And.intro (H8.out.2.2.2.2.2.2.2.i1 zc) (H8.out.2.2.2.2.2.2.2.i2 zc))
      clear hfA hfB k9
      refine wp_region_held_drew (S := fun W => W.cell? ⟨c8, 0, none⟩ = some (.pointer (some ⟨P, 0, none⟩)) ∧ W.cell? ⟨P, 0, none⟩ = some (.pointer (some ⟨b, 0, none⟩)) ∧ W.cell? ⟨c15, 0, none⟩ = some (vi x) ∧ W.cell? ⟨c15, 1, none⟩ = some (vi y)) (by kernel_rfl) (K13.out _ HT9.out.1.drew) (fun hHeld => ?_)
      refine tkH 0 ?_
      refine tkH 1 ?_
      refine tkH 2 ?_
      refine tkH 3 ?_
      refine tkH 4 ?_
      refine tkH 5 ?_
      refine tkH 6 ?_
      refine tkH 7 ?_
      refine tkH 8 ?_
      refine stH 9 (fun K hK => ?_)
      go_simp
      refine (HFAC.out _ HT9.out.1.drew).mono ?_
      rintro _ w10 ⟨rfl, hb10⟩
      have HT10 : Hid (Tn [c23, c24] w8 w10 ∧ Blk w10 c23 3 #[vi (fv (SM (L + 26)))] ∧ Blk w10 c24 3 #[vi (fv (pw (el p a) (L + 26)))]) := Lib.hid ⟨HT9.out.1.drew.trans (Tn.of_below hb10), HT9.out.2.1.drew.below hb10 HT9.out.2.1.drew.lt, HT9.out.2.2.drew.below hb10 HT9.out.2.2.drew.lt⟩
      clear hb10
      refine hK.out _ _ (K13.out _ HT10.out.1) (fun hHeld => ?_)
      clear hK K
      (try simp only [Act.put, List.setIfInBounds_toArray, List.set_cons_zero, List.set_cons_succ])
      refine tkH 10 ?_
      refine tkH 11 ?_
      refine tkH 12 ?_
      refine tkH 13 ?_
      refine tkH 14 ?_
      refine wpAnyH_done (by kernel_rfl) ?_ _
      have K14 : Hid (∀ W, Tn [c23, c24] w8 W → W.cell? ⟨c8, 0, none⟩ = some (.pointer (some ⟨P, 0, none⟩)) ∧ W.cell? ⟨P, 0, none⟩ = some (.pointer (some ⟨b, 0, none⟩))) := Lib.hid fun W hW => ⟨(K9.out W hW).1, (K9.out W hW).2.1⟩
      go_upto_region 14 with (fail)
      refine wp_region_held_drew (S := fun W => W.cell? ⟨c8, 0, none⟩ = some (.pointer (some ⟨P, 0, none⟩)) ∧ W.cell? ⟨P, 0, none⟩ = some (.pointer (some ⟨b, 0, none⟩))) (by kernel_rfl) (K14.out _ HT10.out.1.drew) (fun hHeld => ?_)
      refine tkH 0 ?_
      refine tkH 1 ?_
      refine tkH 2 ?_
      refine tkH 3 ?_
      refine tkH 4 ?_
      refine tkH 5 ?_
      refine tkH 6 ?_
      refine tkH 7 ?_
      refine tkH 8 ?_
      refine tkH 9 ?_
      refine tkH 10 ?_
      refine tkH 12 ?_
      refine tkH 13 ?_
      refine tkH 14 ?_
      refine tkH 15 ?_
      refine tkH 16 ?_
      refine tkH 17 ?_
      refine stH 11 (fun K hK => ?_)
      go_simp
      refine (mul_any p hp2 b (rw' zc) (fv fB) HI.out.2 (i64_fv _ hp2) _ (HC1.out _ HT10.out.1.drew).fb.cp).mono ?_
      rintro _ wa1 ⟨rfl, k1, ea⟩
      have HTa : Hid (Tn [c23, c24] w8 wa1 ∧ Blk wa1 c23 3 #[vi (fv (SM (L + 26)))] ∧ Blk wa1 c24 3 #[vi (fv (pw (el p a) (L + 26)))]) := Lib.hid (by rw [ea]; exact ⟨HT10.out.1.drew.drewN k1, (HT10.out.2.1.drew).drewN _, (HT10.out.2.2.drew).drewN _⟩)
      clear ea
      refine hK.out _ _ (K14.out _ HTa.out.1) (fun hHeld => ?_)
      clear hK K
      (try simp only [Act.put, List.setIfInBounds_toArray, List.set_cons_zero, List.set_cons_succ])
      refine stH 18 (fun K hK => ?_)
      go_simp
      refine (mul_any p hp2 b (rw zc) (fv fA) HI.out.1 (i64_fv _ hp2) _ (HC1.out _ HTa.out.1).fb.cp).mono ?_
      rintro _ wa2 ⟨rfl, k2, ea⟩
      have HTb : Hid (Tn [c23, c24] w8 wa2 ∧ Blk wa2 c23 3 #[vi (fv (SM (L + 26)))] ∧ Blk wa2 c24 3 #[vi (fv (pw (el p a) (L + 26)))]) := Lib.hid (by rw [ea]; exact ⟨HTa.out.1.drewN k2, (HTa.out.2.1).drewN _, (HTa.out.2.2).drewN _⟩)
      clear ea
      refine hK.out _ _ (K14.out _ HTb.out.1) (fun hHeld => ?_)
      clear hK K
      (try simp only [Act.put, List.setIfInBounds_toArray, List.set_cons_zero, List.set_cons_succ])
      refine stH 19 (fun K hK => ?_)
      go_simp
      refine (sub_any p hp2 b _ _ (i64_fv _ hp2) (i64_fv _ hp2) _ (HC1.out _ HTb.out.1).fb.cp).mono ?_
      rintro _ _ ⟨rfl, rfl⟩
      refine hK.out _ _ (K14.out _ HTb.out.1) (fun hHeld => ?_)
      clear hK K
      (try simp only [Act.put, List.setIfInBounds_toArray, List.set_cons_zero, List.set_cons_succ])
      refine stH 20 (fun K hK => ?_)
      go_simp
      refine (HAT1.out _ HTb.out.1 (fv (SM (L + 26))) (fv (pw (el p a) (L + 26))) _ (i64_fv _ hp2) (i64_fv _ hp2) (i64_fv _ hp2) 0 (by omega) HTb.out.2.1 HTb.out.2.2).mono ?_
      rintro _ w11 ⟨⟨v, rfl⟩, hT11, hS11, hE11⟩
      have HT11 : Hid (Tn [c23, c24] w8 w11 ∧ Blk w11 c23 3 #[vi (fv (SM (L + 27)))] ∧ Blk w11 c24 3 #[vi (fv (pw (el p a) (L + 27)))]) := Lib.hid ⟨HTb.out.1.trans hT11, by
        rw [HV.out.2.1] at hS11
        simp only [el_fv] at hS11
        rw [HSM.out.2.2.1]
        exact hS11, by
        simp only [el_fv] at hE11
        rw [pw_succ]
        exact hE11⟩
      clear hT11 hS11 hE11
      refine hK.out _ _ (K14.out _ HT11.out.1) (fun hHeld => ?_)
      clear hK K
      (try simp only [Act.put, List.setIfInBounds_toArray, List.set_cons_zero, List.set_cons_succ])
      refine wpAnyH_done (by kernel_rfl) ?_ _
      have k15 := K14.out _ HT11.out.1
      go_wp2_with fail
      refine (sub_any p hp2 b (rw zc) 1 HI.out.1 i1 _ (HC1.out _ HT11.out.1).fb.cp).mono ?_
      rintro _ _ ⟨rfl, rfl⟩
      go_wp2_with fail
      refine (HAT1.out _ HT11.out.1 (fv (SM (L + 27))) (fv (pw (el p a) (L + 27))) _ (i64_fv _ hp2) (i64_fv _ hp2) (i64_fv _ hp2) 2 (by omega) HT11.out.2.1 HT11.out.2.2).mono ?_
      rintro _ w12 ⟨⟨v2, rfl⟩, hT12, hS12, hE12⟩
      have hS : Blk w12 c23 3 #[vi (fv (SM (L + 28)))] := by
        rw [HV.out.2.1] at hS12
        simp only [el_fv, el_one] at hS12
        rw [HSM.out.2.2.2]
        exact hS12
      have y23 := (hS.cell 0).trans (show _ = some (vi (fv (SM (L + 28)))) from rfl)
      have HT12 : Hid (Tn [c23, c24] w8 w12) := Lib.hid (HT11.out.1.trans hT12)
      clear hS hS12 hE12 hT12 k15
      go_wp2
      go_ret
      refine ⟨rfl, HB.out.2.2.trans ?_⟩
      refine ((H8.out.1.more (by simp)).trans HT12.out).below (fun k hk => ?_) HB.out.2.2.size
      have n1 := H8.out.2.2.1
      have n2 := HB.out.1.lt
      have n3 := HC.out.1
      have n4 := HT4.out.size
      have n5 := HT5.out.size
      have n6 := HB.out.2.2.size
      simp at hk
      omega
end Go.Proofs.YtpkhcncempoohaaGreatDoor

namespace Go.Proofs.YtpkhcncempoohaaGreatDoor
open Go.RowKit Zp
inductive TreeP
  | name (s : ByteArray)
  | num (n : Int)
  | bin (k : Int) (a b : TreeP)
def PT (w : World) : Nat → TreeP → Prop
  | x, .name s => ∃ at' : Int, Blk w x 203 #[vi 1, vi 0, .string s, .slice none 0 0, vi at']
  | x, .num n => ∃ at' : Int, Blk w x 203 #[vi 0, vi n, .string ⟨#[]⟩, .slice none 0 0, vi at']
  | x, .bin k a b => ∃ (at' : Int) (g y z : Nat), Blk w x 203 #[vi k, vi 0, .string ⟨#[]⟩, .slice (some ⟨g, 0, none⟩) 2 2, vi at'] ∧ Blk w g 116 #[.pointer (some ⟨y, 0, none⟩), .pointer (some ⟨z, 0, none⟩)] ∧ PT w y a ∧ PT w z b
theorem PT.keep {w w' : World} : ∀ {T : TreeP} {x : Nat}, PT w x T → (∀ g t cs, Blk w g t cs → t = 203 ∨ t = 116 → Blk w' g t cs) → PT w' x T
  | .name s, x, h, hk => by
    obtain ⟨a, h⟩ := h
    exact ⟨a, hk _ _ _ h (.inl rfl)⟩
  | .num n, x, h, hk => by
    obtain ⟨a, h⟩ := h
    exact ⟨a, hk _ _ _ h (.inl rfl)⟩
  | .bin k a b, x, h, hk => by
    obtain ⟨at', g, y, z, h1, h2, h3, h4⟩ := h
    exact ⟨at', g, y, z, hk _ _ _ h1 (.inl rfl), hk _ _ _ h2 (.inr rfl), h3.keep hk, h4.keep hk⟩
theorem PT.below {w w' : World} {T : TreeP} {x : Nat} (h : PT w x T) (hb : Below w.heap.size w w') : PT w' x T := h.keep fun g t cs hg _ => hg.below hb hg.lt
theorem PT.tnr {w w' : World} {T : TreeP} {x r : Nat} {cs : Array Value} (h : PT w x T) (ht : Tn [r] w w') (hr : Blk w r 99 cs) : PT w' x T := h.keep fun g t cs' hg hty => hg.tn ht (by
  simp only [List.mem_singleton]
  rintro rfl
  rcases hty with rfl | rfl
  · exact hg.ne_ hr (by decide) rfl
  · exact hg.ne_ hr (by decide) rfl)
def ParseIs (r j : Nat) (l : Int) (T : TreeP) (w : World) (e : Ending) (w' : World) : Prop := ∃ x, e = .returned (.pointer (some ⟨x, 0, none⟩)) ∧ PT w' x T ∧ RT w' r j l ∧ Tn [r] w w'
set_option maxRecDepth 100000 in
set_option maxHeartbeats 2000000 in
theorem part_name (r i : Nat) (l : Int) (hk : tokK i = 1) (hs : (tokS i).size ≤ 16) (hi : i < 14) (ho : ∀ w, Calls Tryz.prog 129 #[.string (tokS i)] w fun e w' => e = .returned (.bool false) ∧ w = w') (h1 : isB i ⟨#[40]⟩ = false) (h2 : isB i ⟨#[45]⟩ = false) (h3 : isB (i + 1) ⟨#[40]⟩ = false) (w : World) (h : RT w r i l) :
    Calls Tryz.prog 182 #[.pointer (some ⟨r, 0, none⟩)] w (ParseIs r (i + 1) l (.name (tokS i)) w) := by
  have HN := Lib.hid (name_any r i l hk hs hi ho)
  have HI1 := Lib.hid (isT_any r i l ⟨#[40]⟩)
  have HI2 := Lib.hid (isT_any r i l ⟨#[45]⟩)
  have HI3 := Lib.hid (isT_any r (i + 1) l ⟨#[40]⟩)
  rw [h1] at HI1
  rw [h2] at HI2
  rw [h3] at HI3
  have k2 := (Blk.cell h 2).trans (show _ = some (vi (tokK i)) from rfl)
  have k3 := (Blk.cell h 3).trans (show _ = some (vi (tokA i)) from rfl)
  have k4 := (Blk.cell h 4).trans (show _ = some (.string (tokS i)) from rfl)
  rw [hk] at k2
  obtain ⟨S, hS⟩ : ∃ S, S = tokS i := ⟨_, rfl⟩
  obtain ⟨A, hA⟩ : ∃ A, A = tokA i := ⟨_, rfl⟩
  rw [← hS] at k4 HN ⊢
  rw [← hA] at k3 HN
  obtain ⟨c1, hc1⟩ : ∃ c, c = w.heap.size := ⟨_, rfl⟩
  obtain ⟨w1, hw1⟩ : ∃ W, W = w.alloc (.cells #[.pointer (some ⟨r, 0, none⟩)] 95) := ⟨_, rfl⟩
  have hb1 : Below w.heap.size w w1 := by rw [hw1]; exact (Below.refl _ _).alloc (Nat.le_refl _) _
  have hB1 : Blk w1 c1 95 #[.pointer (some ⟨r, 0, none⟩)] := by rw [hw1, hc1]; exact Blk.new _ _ _
  have hR1 := h.below hb1
  have q2 := (hb1.cell (block_lt_of_cell k2)).trans k2
  have q3 := (hb1.cell (block_lt_of_cell k3)).trans k3
  have q4 := (hb1.cell (block_lt_of_cell k4)).trans k4
  have e1 := (hB1.cell 0).trans (show _ = some (.pointer (some ⟨r, 0, none⟩)) from rfl)
  have HW1 := Lib.hid (And.intro hw1 hc1)
  have H1 := Lib.hid (And.intro hb1 (And.intro hB1 hR1))
  clear hS hA k2 k3 k4 hw1 hc1 hb1 hB1 hR1 h1 h2 h3 ho hs hk h
  go_enter Tryz.func182, Tryz.ntmps182
  go_upto_region 1 with (fail)
  rw [← HW1.out.1, ← HW1.out.2]
  go_upto_region 2 with (fail)
  obtain ⟨c3, hc3⟩ : ∃ c, c = w1.heap.size := ⟨_, rfl⟩
  obtain ⟨w2, hw2⟩ : ∃ W, W = w1.alloc (.cells #[vi 1, vi A, .string S] 97) := ⟨_, rfl⟩
  rw [← hw2, ← hc3]
  have hb2 : Below w1.heap.size w1 w2 := by rw [hw2]; exact (Below.refl _ _).alloc (Nat.le_refl _) _
  have hB3 : Blk w2 c3 97 #[vi 1, vi A, .string S] := by rw [hw2, hc3]; exact Blk.new _ _ _
  have t0 := (hB3.cell 0).trans (show _ = some (vi 1) from rfl)
  have e2 := (hb2.cell (block_lt_of_cell e1)).trans e1
  have H2 := Lib.hid (And.intro (H1.out.1.trans (hb2.mono H1.out.1.size)) (And.intro (H1.out.2.1.below hb2 H1.out.2.1.lt) (H1.out.2.2.below hb2)))
  clear hw2 hc3 hb2 hB3 q2 q3 q4 e1
  go_wp2_with fail
  refine (HI1.out w2 H2.out.2.2).mono ?_
  rintro _ _ ⟨rfl, rfl⟩
  go_wp2_with fail
  refine (HI2.out w2 H2.out.2.2).mono ?_
  rintro _ _ ⟨rfl, rfl⟩
  clear t0
  go_upto_region 20 with (fail)
  obtain ⟨x, hx⟩ : ∃ c, c = w2.heap.size := ⟨_, rfl⟩
  obtain ⟨c8, hc8⟩ : ∃ c, c = w2.heap.size + 1 := ⟨_, rfl⟩
  obtain ⟨w3, hw3⟩ : ∃ W, W = (w2.alloc (.cells #[vi 1, vi 0, .string ⟨#[]⟩, .slice none 0 0, vi 0] 203)).alloc (.cells #[.pointer (some ⟨w2.heap.size, 0, none⟩)] 116) := ⟨_, rfl⟩
  rw [← hw3, ← hc8, ← hx]
  have hb3 : Below w2.heap.size w2 w3 := by rw [hw3]; exact ((Below.refl _ _).alloc (Nat.le_refl _) _).alloc (by simp) _
  have hBx : Blk w3 x 203 #[vi 1, vi 0, .string ⟨#[]⟩, .slice none 0 0, vi 0] := by rw [hw3, hx]; exact (Blk.new _ _ _).alloc _
  have hB8 : Blk w3 c8 116 #[.pointer (some ⟨x, 0, none⟩)] := by
    have hh := Blk.new (w2.alloc (.cells #[vi 1, vi 0, .string ⟨#[]⟩, .slice none 0 0, vi 0] 203)) 116 #[.pointer (some ⟨w2.heap.size, 0, none⟩)]
    rw [show (w2.alloc (.cells #[vi 1, vi 0, .string ⟨#[]⟩, .slice none 0 0, vi 0] 203)).heap.size = w2.heap.size + 1 by simp] at hh
    rw [hw3, hx, hc8]
    exact hh
  have hB13 := H2.out.2.1.below hb3 H2.out.2.1.lt
  have hR3 := H2.out.2.2.below hb3
  have hn : r ≠ x ∧ r ≠ c8 ∧ r ≠ c1 ∧ c8 ≠ x ∧ c1 ≠ x := ⟨hR3.ne_ hBx (by decide), hR3.ne_ hB8 (by decide), hR3.ne_ hB13 (by decide), hB8.ne_ hBx (by decide), hB13.ne_ hBx (by decide)⟩
  have H3 := Lib.hid (And.intro (H2.out.1.trans (hb3.mono H2.out.1.size)) (And.intro hBx (And.intro hB8 (And.intro hB13 (And.intro hR3 hn)))))
  have hwx : w.heap.size ≤ x := by rw [hx]; exact H2.out.1.size
  have HWX := Lib.hid hwx
  clear hw3 hx hc8 hb3 hBx hB8 hB13 hR3 hn e2 hwx
  have KS : Hid (∀ W, Tn [r, x] w3 W → W.cell? ⟨c8, 0, none⟩ = some (.pointer (some ⟨x, 0, none⟩)) ∧ W.cell? ⟨c1, 0, none⟩ = some (.pointer (some ⟨r, 0, none⟩))) := Lib.hid fun W hW => by
    obtain ⟨n1, n2, n3, n4, n5⟩ := H3.out.2.2.2.2.2
    exact ⟨((H3.out.2.2.1.tn hW (by simp; omega)).cell 0).trans rfl, ((H3.out.2.2.2.1.tn hW (by simp; omega)).cell 0).trans rfl⟩
  refine wp_region_held_drew (S := fun W => W.cell? ⟨c8, 0, none⟩ = some (.pointer (some ⟨x, 0, none⟩)) ∧ W.cell? ⟨c1, 0, none⟩ = some (.pointer (some ⟨r, 0, none⟩))) (by kernel_rfl) (KS.out _ ((Tn.refl _ _).drew)) (fun hHeld => ?_)
  refine tkH 0 ?_
  refine tkH 1 ?_
  refine tkH 2 ?_
  refine stH 3 (fun K hK => ?_)
  go_simp
  refine (HN.out w3.drew H3.out.2.2.2.2.1).mono ?_
  rintro _ w4 ⟨rfl, hR4, hT4⟩
  have hT34 : Tn [r, x] w3 w4 := (((Tn.refl [r] w3).drew).trans hT4).more (by simp)
  have hBx4 : Blk w4 x 203 #[vi 1, vi 0, .string ⟨#[]⟩, .slice none 0 0, vi 0] := H3.out.2.1.tn (((Tn.refl [r] w3).drew).trans hT4) (by have := H3.out.2.2.2.2.2.1; simp; omega)
  have H4 := Lib.hid (And.intro hT34 (And.intro hBx4 (And.intro hR4 (((Tn.refl [r] w3).drew).trans hT4))))
  clear hT34 hBx4 hR4 hT4
  refine hK.out _ _ (KS.out _ H4.out.1) (fun hHeld => ?_)
  clear hK K
  (try simp only [Act.put, List.setIfInBounds_toArray, List.set_cons_zero, List.set_cons_succ])
  refine tkH 4 ?_
  refine tkH 5 ?_
  refine tkH 6 ?_
  refine tkH 7 ?_
  refine tkH 8 ?_
  have y2 := (H4.out.2.1.cell 2).trans (show _ = some (.string ⟨#[]⟩) from rfl)
  have f2 := H4.out.2.1.frozen 2
  refine stH 9 (fun K hK => ?_)
  go_simp
  obtain ⟨w5, hw5⟩ : ∃ W, W = w4.setCell ⟨x, 2, none⟩ (.string S) := ⟨_, rfl⟩
  rw [← hw5]
  have hT5 : Tn [r, x] w3 w5 := by rw [hw5]; exact H4.out.1.setCell (.inl (by simp)) _
  have hBx5 : Blk w5 x 203 #[vi 1, vi 0, .string S, .slice none 0 0, vi 0] := by rw [hw5]; exact H4.out.2.1.set_ 2 _
  have H5 := Lib.hid (And.intro hT5 (And.intro hBx5 hw5))
  clear hT5 hBx5 hw5 y2 f2
  refine hK.out _ _ (KS.out _ H5.out.1) (fun hHeld => ?_)
  clear hK K
  (try simp only [Act.put, List.setIfInBounds_toArray, List.set_cons_zero, List.set_cons_succ])
  refine tkH 10 ?_
  refine tkH 11 ?_
  have y4 := (H5.out.2.1.cell 4).trans (show _ = some (vi 0) from rfl)
  have f4 := H5.out.2.1.frozen 4
  refine stH 12 (fun K hK => ?_)
  go_simp
  obtain ⟨w6, hw6⟩ : ∃ W, W = w5.setCell ⟨x, 4, none⟩ (vi A) := ⟨_, rfl⟩
  rw [← hw6]
  have hT6 : Tn [r, x] w3 w6 := by rw [hw6]; exact H5.out.1.setCell (.inl (by simp)) _
  have hBx6 : Blk w6 x 203 #[vi 1, vi 0, .string S, .slice none 0 0, vi A] := by rw [hw6]; exact H5.out.2.1.set_ 4 _
  have hR6 : RT w6 r (i + 1) l := by
    rw [hw6, H5.out.2.2]
    have hn := H3.out.2.2.2.2.2.1
    exact (Below.heap_setCell _ ⟨x, 4, none⟩ (vi A) r hn).trans ((Below.heap_setCell _ ⟨x, 2, none⟩ (.string S) r hn).trans H4.out.2.2.1)
  have hTw : Tn [r] w w6 := by
    have h1 : Tn [r] w w4 := (Tn.of_below H3.out.1).trans H4.out.2.2.2
    rw [hw6, H5.out.2.2]
    exact (h1.setCell (.inr HWX.out) _).setCell (.inr HWX.out) _
  have H6 := Lib.hid (And.intro hT6 (And.intro hBx6 (And.intro hR6 hTw)))
  clear hT6 hBx6 hR6 hTw hw6 y4 f4
  refine hK.out _ _ (KS.out _ H6.out.1) (fun hHeld => ?_)
  clear hK K
  (try simp only [Act.put, List.setIfInBounds_toArray, List.set_cons_zero, List.set_cons_succ])
  refine wpAnyH_done (by kernel_rfl) ?_ _
  have e6 := (KS.out _ H6.out.1).2
  have e8 := (KS.out _ H6.out.1).1
  go_wp2_with fail
  refine (HI3.out w6 H6.out.2.2.1).mono ?_
  rintro _ _ ⟨rfl, rfl⟩
  go_wp2
  go_ret
  exact ⟨x, rfl, ⟨A, H6.out.2.1⟩, H6.out.2.2.1, H6.out.2.2.2⟩
end Go.Proofs.YtpkhcncempoohaaGreatDoor

namespace Go.Proofs.YtpkhcncempoohaaGreatDoor
open Go.RowKit Zp
theorem atoi_one (w : World) : Calls Tryz.prog 186 #[.string ⟨#[49]⟩] w fun e w' => e = .returned (.tuple #[vi 1, .nilIface]) ∧ Below w.heap.size w w' := by
  have h := Any.strconv_Atoi_ok shAtoi ⟨#[49]⟩ (by decide) 1 (by decide +kernel) w
  change Calls Tryz.prog 186 _ _ _ at h
  refine h.mono ?_
  rintro e w' ⟨rfl, rfl | ⟨t, rfl⟩⟩
  · exact ⟨rfl, Below.refl _ _⟩
  · exact ⟨rfl, Lib.bytesWorld_below _ _ _⟩
set_option maxRecDepth 100000 in
set_option maxHeartbeats 2000000 in
theorem part_num (r : Nat) (l : Int) (w : World) (h : RT w r 12 l) :
    Calls Tryz.prog 182 #[.pointer (some ⟨r, 0, none⟩)] w (ParseIs r 13 l (.num 1) w) := by
  have HAD := Lib.hid (advance_any r 12 l (by omega))
  have k2 := (Blk.cell h 2).trans (show _ = some (vi 2) from rfl)
  have k3 := (Blk.cell h 3).trans (show _ = some (vi 22) from rfl)
  have k4 := (Blk.cell h 4).trans (show _ = some (.string ⟨#[49]⟩) from rfl)
  obtain ⟨c1, hc1⟩ : ∃ c, c = w.heap.size := ⟨_, rfl⟩
  obtain ⟨w1, hw1⟩ : ∃ W, W = w.alloc (.cells #[.pointer (some ⟨r, 0, none⟩)] 95) := ⟨_, rfl⟩
  have hb1 : Below w.heap.size w w1 := by rw [hw1]; exact (Below.refl _ _).alloc (Nat.le_refl _) _
  have hB1 : Blk w1 c1 95 #[.pointer (some ⟨r, 0, none⟩)] := by rw [hw1, hc1]; exact Blk.new _ _ _
  have hR1 := h.below hb1
  have q2 := (hb1.cell (block_lt_of_cell k2)).trans k2
  have q3 := (hb1.cell (block_lt_of_cell k3)).trans k3
  have q4 := (hb1.cell (block_lt_of_cell k4)).trans k4
  have e1 := (hB1.cell 0).trans (show _ = some (.pointer (some ⟨r, 0, none⟩)) from rfl)
  have HW1 := Lib.hid (And.intro hw1 hc1)
  have H1 := Lib.hid (And.intro hb1 (And.intro hB1 hR1))
  clear k2 k3 k4 hw1 hc1 hb1 hB1 hR1 h
  go_enter Tryz.func182, Tryz.ntmps182
  go_upto_region 1 with (fail)
  rw [← HW1.out.1, ← HW1.out.2]
  go_upto_region 2 with (fail)
  obtain ⟨c3, hc3⟩ : ∃ c, c = w1.heap.size := ⟨_, rfl⟩
  obtain ⟨w2, hw2⟩ : ∃ W, W = w1.alloc (.cells #[vi 2, vi 22, .string ⟨#[49]⟩] 97) := ⟨_, rfl⟩
  rw [← hw2, ← hc3]
  have hb2 : Below w1.heap.size w1 w2 := by rw [hw2]; exact (Below.refl _ _).alloc (Nat.le_refl _) _
  have hB3 : Blk w2 c3 97 #[vi 2, vi 22, .string ⟨#[49]⟩] := by rw [hw2, hc3]; exact Blk.new _ _ _
  have t0 := (hB3.cell 0).trans (show _ = some (vi 2) from rfl)
  have t2 := (hB3.cell 2).trans (show _ = some (.string ⟨#[49]⟩) from rfl)
  have H2 := Lib.hid (And.intro (H1.out.1.trans (hb2.mono H1.out.1.size)) (And.intro (H1.out.2.1.below hb2 H1.out.2.1.lt) (And.intro (H1.out.2.2.below hb2) hB3)))
  clear hw2 hc3 hb2 hB3 q2 q3 q4 e1
  go_wp2_with fail
  refine (atoi_one w2).mono ?_
  rintro _ w3 ⟨rfl, hb3⟩
  have hB13 := H2.out.2.1.below hb3 H2.out.2.1.lt
  have hBc3 := H2.out.2.2.2.below hb3 H2.out.2.2.2.lt
  have hR3 := H2.out.2.2.1.below hb3
  have e3 := (hB13.cell 0).trans (show _ = some (.pointer (some ⟨r, 0, none⟩)) from rfl)
  have H3 := Lib.hid (And.intro (H2.out.1.trans (hb3.mono H2.out.1.size)) (And.intro hB13 (And.intro hBc3 hR3)))
  clear hB13 hBc3 hR3 hb3 t0 t2
  go_wp2_with fail
  refine (HAD.out w3 H3.out.2.2.2).mono ?_
  rintro _ w4 ⟨rfl, hR4, hT4⟩
  have hBc4 : Blk w4 c3 97 #[vi 2, vi 22, .string ⟨#[49]⟩] := H3.out.2.2.1.tn hT4 (by simp; exact fun e => H3.out.2.2.1.ne_ H3.out.2.2.2 (by decide) e)
  have t1 := (hBc4.cell 1).trans (show _ = some (vi 22) from rfl)
  have H4 := Lib.hid (And.intro hR4 ((Tn.of_below (X := [r]) H3.out.1).trans hT4))
  clear hR4 hT4 hBc4 e3
  go_wp2
  go_ret
  exact ⟨_, rfl, ⟨22, Blk.new _ _ _⟩, H4.out.1.below ((Below.refl _ _).alloc (Nat.le_refl _) _), H4.out.2.alloc _⟩
set_option maxRecDepth 100000 in
set_option maxHeartbeats 2000000 in
theorem lefts_stop (r i j : Nat) (l : Int) (T : TreeP) (K : Nat) (t1 t2 : ByteArray) (o1 o2 : Int) (h1 : isB j t1 = false) (h2 : isB j t2 = false) (w : World)
    (hN : Calls Tryz.prog K #[.pointer (some ⟨r, 0, none⟩)] w (ParseIs r j l T w)) (hK : ∀ (args : Array Value) (w : World), (callFunc K args).run Tryz.prog w = .ok (.enter K args) w) :
    Calls Tryz.prog 171 #[.pointer (some ⟨r, 0, none⟩), .func (.func K) #[.pointer (some ⟨r, 0, none⟩)] #[], .string t1, vi o1, .string t2, vi o2] w (ParseIs r j l T w) := by
  have HN := Lib.hid hN
  have HI1 := Lib.hid (skipped_no r j l t1 h1)
  have HI2 := Lib.hid (skipped_no r j l t2 h2)
  clear hN h1 h2
  go_enter Tryz.func171, Tryz.ntmps171
  go_wp2_with fail
  refine HN.out.mono ?_
  rintro _ w1 ⟨x, rfl, hP, hR, hT⟩
  have H1 := Lib.hid (And.intro hP (And.intro hR hT))
  clear hP hR hT
  go_wp2
  go_loopw [13] (fun v wr => v = .pointer (some ⟨x, 0, none⟩) ∧ w1 = wr) (fun _ _ => 0)
  case atStart => exact ⟨rfl, rfl⟩
  case round =>
    obtain ⟨rfl, rfl⟩ := hrel
    have k3 := (Blk.cell H1.out.2.1 3).trans (show _ = some (vi (tokA j)) from rfl)
    go_wp2_with fail
    refine (HI1.out _ H1.out.2.1).mono ?_
    rintro _ _ ⟨rfl, rfl⟩
    go_wp2_with fail
    refine (HI2.out _ H1.out.2.1).mono ?_
    rintro _ _ ⟨rfl, rfl⟩
    go_wp2
    go_ret
    exact ⟨x, rfl, H1.out⟩
set_option maxRecDepth 100000 in
set_option maxHeartbeats 2000000 in
theorem lefts_one (r i j k : Nat) (l : Int) (T U : TreeP) (K : Nat) (t1 t2 : ByteArray) (o1 o2 : Int) (hj : j < 14) (hjk : (tokN j).toNat < (tokN k).toNat) (hk30 : (tokN k).toNat < 30) (h1 : isB j t1 = true) (h3 : isB k t1 = false) (h4 : isB k t2 = false) (w : World)
    (hN : Calls Tryz.prog K #[.pointer (some ⟨r, 0, none⟩)] w (ParseIs r j l T w)) (hN2 : ∀ W, RT W r (j + 1) l → Calls Tryz.prog K #[.pointer (some ⟨r, 0, none⟩)] W (ParseIs r k l U W)) (hK : ∀ (args : Array Value) (w : World), (callFunc K args).run Tryz.prog w = .ok (.enter K args) w) :
    Calls Tryz.prog 171 #[.pointer (some ⟨r, 0, none⟩), .func (.func K) #[.pointer (some ⟨r, 0, none⟩)] #[], .string t1, vi o1, .string t2, vi o2] w (ParseIs r k l (.bin o1 T U) w) := by
  have HN := Lib.hid hN
  have HN2 := Lib.hid hN2
  have HI1 := Lib.hid (skipped_yes r j l t1 h1 hj)
  have HI3 := Lib.hid (skipped_no r k l t1 h3)
  have HI4 := Lib.hid (skipped_no r k l t2 h4)
  have HJK := Lib.hid (And.intro hjk hk30)
  clear hN hN2 h1 h3 h4 hjk hk30
  go_enter Tryz.func171, Tryz.ntmps171
  go_wp2_with fail
  refine HN.out.mono ?_
  rintro _ w1 ⟨x, rfl, hP, hR, hT⟩
  have H1 := Lib.hid (And.intro hP (And.intro hR hT))
  clear hP hR hT
  go_wp2
  go_loopw [13] (fun v wr => (v = .pointer (some ⟨x, 0, none⟩) ∧ w1 = wr) ∨ ∃ y, v = .pointer (some ⟨y, 0, none⟩) ∧ PT wr y (.bin o1 T U) ∧ RT wr r k l ∧ Tn [r] w wr) (fun _ wr => 30 - nextOf wr r)
  case atStart => exact .inl ⟨rfl, rfl⟩
  case round =>
    rename World => w2
    rcases hrel with ⟨rfl, rfl⟩ | ⟨y, rfl, hP2, hR2, hT2⟩
    · have k3 := (Blk.cell H1.out.2.1 3).trans (show _ = some (vi (tokA j)) from rfl)
      obtain ⟨A, hA⟩ : ∃ A, A = tokA j := ⟨_, rfl⟩
      rw [← hA] at k3
      clear hA
      go_wp2_with fail
      refine (HI1.out _ H1.out.2.1).mono ?_
      rintro _ w3 ⟨rfl, hR3, hT3⟩
      have H3 := Lib.hid (And.intro hR3 (And.intro hT3 (H1.out.1.tnr hT3 H1.out.2.1)))
      clear hR3 hT3 k3
      go_wp2_with fail
      refine (HN2.out w3 H3.out.1).mono ?_
      rintro _ w4 ⟨y, rfl, hP4, hR4, hT4⟩
      have H4 := Lib.hid (And.intro (H3.out.2.2.tnr hT4 H3.out.1) (And.intro hP4 (And.intro hR4 ((H1.out.2.2.trans H3.out.2.1).trans hT4))))
      clear hP4 hR4 hT4
      go_wp2
      obtain ⟨g, hg⟩ : ∃ g, g = w4.heap.size := ⟨_, rfl⟩
      obtain ⟨w5, hw5⟩ : ∃ W, W = (w4.alloc (.cells #[.pointer (some ⟨x, 0, none⟩), .pointer (some ⟨y, 0, none⟩)] 116)).alloc (.cells #[vi o1, vi 0, .string ⟨#[]⟩, .slice (some ⟨w4.heap.size, 0, none⟩) 2 2, vi A] 203) := ⟨_, rfl⟩
      rw [← hw5]
      have hb5 : Below w4.heap.size w4 w5 := by rw [hw5]; exact ((Below.refl _ _).alloc (Nat.le_refl _) _).alloc (by simp) _
      have hBg : Blk w5 g 116 #[.pointer (some ⟨x, 0, none⟩), .pointer (some ⟨y, 0, none⟩)] := by rw [hw5, hg]; exact (Blk.new _ _ _).alloc _
      have hBz : Blk w5 (w4.heap.size + 1) 203 #[vi o1, vi 0, .string ⟨#[]⟩, .slice (some ⟨g, 0, none⟩) 2 2, vi A] := by
        have hh := Blk.new (w4.alloc (.cells #[.pointer (some ⟨x, 0, none⟩), .pointer (some ⟨y, 0, none⟩)] 116)) 203 #[vi o1, vi 0, .string ⟨#[]⟩, .slice (some ⟨w4.heap.size, 0, none⟩) 2 2, vi A]
        rw [show (w4.alloc (.cells #[.pointer (some ⟨x, 0, none⟩), .pointer (some ⟨y, 0, none⟩)] 116)).heap.size = w4.heap.size + 1 by simp] at hh
        rw [hw5, hg]
        exact hh
      refine ⟨.inr ⟨w4.heap.size + 1, rfl, ⟨A, g, x, y, hBz, hBg, H4.out.1.below hb5, H4.out.2.1.below hb5⟩, H4.out.2.2.1.below hb5, H4.out.2.2.2.trans (Tn.of_below hb5)⟩, ?_⟩
      rw [nextOf_rd (H4.out.2.2.1.below hb5), nextOf_rd H1.out.2.1]
      have := HJK.out
      omega
    · have k3 := (Blk.cell hR2 3).trans (show _ = some (vi (tokA k)) from rfl)
      have H2 := Lib.hid (And.intro hP2 (And.intro hR2 hT2))
      clear hP2 hR2 hT2
      go_wp2_with fail
      refine (HI3.out _ H2.out.2.1).mono ?_
      rintro _ _ ⟨rfl, rfl⟩
      go_wp2_with fail
      refine (HI4.out _ H2.out.2.1).mono ?_
      rintro _ _ ⟨rfl, rfl⟩
      go_wp2
      go_ret
      exact ⟨y, rfl, H2.out⟩
end Go.Proofs.YtpkhcncempoohaaGreatDoor

namespace Go.Proofs.YtpkhcncempoohaaGreatDoor
open Go.RowKit Zp
theorem product_of (r j : Nat) (l : Int) (T : TreeP) (w : World) (h : Calls Tryz.prog 171 #[.pointer (some ⟨r, 0, none⟩), .func (.func 182) #[.pointer (some ⟨r, 0, none⟩)] #[], .string ⟨#[42]⟩, vi 4, .string ⟨#[47]⟩, vi 5] w (ParseIs r j l T w)) :
    Calls Tryz.prog 172 #[.pointer (some ⟨r, 0, none⟩)] w (ParseIs r j l T w) := by
  have H := Lib.hid h
  clear h
  go_enter Tryz.func172, Tryz.ntmps172
  go_wp2_with fail
  refine H.out.mono ?_
  rintro _ w1 ⟨x, rfl, h1⟩
  have H1 := Lib.hid h1
  clear h1
  go_wp2
  go_ret
  exact ⟨x, rfl, H1.out⟩
theorem sum_of (r j : Nat) (l : Int) (T : TreeP) (w : World) (h : Calls Tryz.prog 171 #[.pointer (some ⟨r, 0, none⟩), .func (.func 172) #[.pointer (some ⟨r, 0, none⟩)] #[], .string ⟨#[43]⟩, vi 2, .string ⟨#[45]⟩, vi 3] w (ParseIs r j l T w)) :
    Calls Tryz.prog 132 #[.pointer (some ⟨r, 0, none⟩)] w (ParseIs r j l T w) := by
  have H := Lib.hid h
  clear h
  go_enter Tryz.func132, Tryz.ntmps132
  go_wp2_with fail
  refine H.out.mono ?_
  rintro _ w1 ⟨x, rfl, h1⟩
  have H1 := Lib.hid h1
  clear h1
  go_wp2
  go_ret
  exact ⟨x, rfl, H1.out⟩
set_option maxHeartbeats 1000000 in
theorem expr_of (r i j : Nat) (l : Int) (T : TreeP) (h1 : isB i ⟨#[108, 101, 116]⟩ = false) (h2 : isB i ⟨#[110, 101, 101, 100]⟩ = false) (h3 : isB i ⟨#[105, 102]⟩ = false) (h4 : isB j ⟨#[61, 61]⟩ = false) (hS : ∀ W, RT W r i l → Calls Tryz.prog 132 #[.pointer (some ⟨r, 0, none⟩)] W (ParseIs r j l T W)) (w : World) (h : RT w r i l) :
    Calls Tryz.prog 86 #[.pointer (some ⟨r, 0, none⟩)] w (ParseIs r j l T w) := by
  have HS := Lib.hid hS
  have HI1 := Lib.hid (isT_any r i l ⟨#[108, 101, 116]⟩)
  have HI2 := Lib.hid (isT_any r i l ⟨#[110, 101, 101, 100]⟩)
  have HI3 := Lib.hid (isT_any r i l ⟨#[105, 102]⟩)
  rw [h1] at HI1
  rw [h2] at HI2
  rw [h3] at HI3
  have HI4 := Lib.hid (skipped_no r j l ⟨#[61, 61]⟩ h4)
  have k3 := (Blk.cell h 3).trans (show _ = some (vi (tokA i)) from rfl)
  obtain ⟨A, hA⟩ : ∃ A, A = tokA i := ⟨_, rfl⟩
  rw [← hA] at k3
  have hb1 : Below w.heap.size w (w.alloc (.cells #[vi 0, vi 0, .string ⟨#[]⟩, .slice none 0 0, vi A] 203)) := (Below.refl _ _).alloc (Nat.le_refl _) _
  obtain ⟨w1, hw1⟩ : ∃ W, W = w.alloc (.cells #[vi 0, vi 0, .string ⟨#[]⟩, .slice none 0 0, vi A] 203) := ⟨_, rfl⟩
  rw [← hw1] at hb1
  have H1 := Lib.hid (And.intro (h.below hb1) (And.intro hb1 hw1))
  clear hS h1 h2 h3 h4 hA hb1 hw1 h
  go_enter Tryz.func86, Tryz.ntmps86
  go_upto_region 7 with (fail)
  rw [← H1.out.2.2]
  go_wp2_with fail
  refine (HI1.out w1 H1.out.1).mono ?_
  rintro _ _ ⟨rfl, rfl⟩
  go_wp2_with fail
  refine (HI2.out w1 H1.out.1).mono ?_
  rintro _ _ ⟨rfl, rfl⟩
  go_wp2_with fail
  refine (HI3.out w1 H1.out.1).mono ?_
  rintro _ _ ⟨rfl, rfl⟩
  clear k3
  go_wp2_with fail
  refine (HS.out w1 H1.out.1).mono ?_
  rintro _ w2 ⟨x, rfl, hP, hR, hT⟩
  have H2 := Lib.hid (And.intro hP (And.intro hR ((Tn.of_below (X := [r]) H1.out.2.1).trans hT)))
  clear hP hR hT
  go_wp2_with fail
  refine (HI4.out w2 H2.out.2.1).mono ?_
  rintro _ _ ⟨rfl, rfl⟩
  go_wp2
  go_ret
  exact ⟨x, rfl, H2.out⟩
theorem enters_part : ∀ (args : Array Value) (w : World), (callFunc 182 args).run Tryz.prog w = .ok (.enter 182 args) w := enters_of Tryz.func182 (by kernel_rfl) rfl
theorem enters_product : ∀ (args : Array Value) (w : World), (callFunc 172 args).run Tryz.prog w = .ok (.enter 172 args) w := enters_of Tryz.func172 (by kernel_rfl) rfl
theorem name7 (r : Nat) (l : Int) (w : World) (h : RT w r 7 l) : Calls Tryz.prog 182 #[.pointer (some ⟨r, 0, none⟩)] w (ParseIs r 8 l (.name ⟨#[97]⟩) w) := part_name r 7 l (by decide) (by decide) (by omega) own_a (by decide +kernel) (by decide +kernel) (by decide +kernel) w h
theorem name10 (r : Nat) (l : Int) (w : World) (h : RT w r 10 l) : Calls Tryz.prog 182 #[.pointer (some ⟨r, 0, none⟩)] w (ParseIs r 11 l (.name ⟨#[97]⟩) w) := part_name r 10 l (by decide) (by decide) (by omega) own_a (by decide +kernel) (by decide +kernel) (by decide +kernel) w h
theorem prod10 (r : Nat) (l : Int) (w : World) (h : RT w r 10 l) : Calls Tryz.prog 172 #[.pointer (some ⟨r, 0, none⟩)] w (ParseIs r 11 l (.name ⟨#[97]⟩) w) := product_of _ _ _ _ _ (lefts_stop r 10 11 l _ _ _ _ _ _ (by decide +kernel) (by decide +kernel) w (name10 r l w h) enters_part)
theorem prod12 (r : Nat) (l : Int) (w : World) (h : RT w r 12 l) : Calls Tryz.prog 172 #[.pointer (some ⟨r, 0, none⟩)] w (ParseIs r 13 l (.num 1) w) := product_of _ _ _ _ _ (lefts_stop r 12 13 l _ _ _ _ _ _ (by decide +kernel) (by decide +kernel) w (part_num r l w h) enters_part)
abbrev treeS : TreeP := .bin 2 (.name ⟨#[97]⟩) (.num 1)
theorem sum10 (r : Nat) (l : Int) (w : World) (h : RT w r 10 l) : Calls Tryz.prog 132 #[.pointer (some ⟨r, 0, none⟩)] w (ParseIs r 13 l treeS w) := sum_of _ _ _ _ _ (lefts_one r 10 11 13 l _ _ _ _ _ _ _ (by omega) (by decide) (by decide) (by decide +kernel) (by decide +kernel) (by decide +kernel) w (prod10 r l w h) (fun W hW => prod12 r l W hW) enters_product)
theorem expr10 (r : Nat) (l : Int) (w : World) (h : RT w r 10 l) : Calls Tryz.prog 86 #[.pointer (some ⟨r, 0, none⟩)] w (ParseIs r 13 l treeS w) := expr_of r 10 13 l _ (by decide +kernel) (by decide +kernel) (by decide +kernel) (by decide +kernel) (fun W hW => sum10 r l W hW) w h
set_option maxRecDepth 100000 in
set_option maxHeartbeats 2000000 in
theorem bracket9 (r : Nat) (l : Nat) (hl : l < 60) (w : World) (h : RT w r 9 l) : Calls Tryz.prog 182 #[.pointer (some ⟨r, 0, none⟩)] w (ParseIs r 14 l treeS w) := by
  have HI1 := Lib.hid (isT_any r 9 l ⟨#[40]⟩)
  rw [show isB 9 ⟨#[40]⟩ = true by decide +kernel] at HI1
  have HEN := Lib.hid (enter_any r 9 l hl (by omega))
  have HEX := Lib.hid (expr10 r ((l : Int) + 1))
  have HMU := Lib.hid (must_yes' r 13 ((l : Int) + 1) ⟨#[41]⟩ (by decide +kernel) (by omega))
  have k2 := (Blk.cell h 2).trans (show _ = some (vi 3) from rfl)
  have k3 := (Blk.cell h 3).trans (show _ = some (vi 17) from rfl)
  have k4 := (Blk.cell h 4).trans (show _ = some (.string ⟨#[40]⟩) from rfl)
  obtain ⟨c1, hc1⟩ : ∃ c, c = w.heap.size := ⟨_, rfl⟩
  obtain ⟨w1, hw1⟩ : ∃ W, W = w.alloc (.cells #[.pointer (some ⟨r, 0, none⟩)] 95) := ⟨_, rfl⟩
  have hb1 : Below w.heap.size w w1 := by rw [hw1]; exact (Below.refl _ _).alloc (Nat.le_refl _) _
  have hB1 : Blk w1 c1 95 #[.pointer (some ⟨r, 0, none⟩)] := by rw [hw1, hc1]; exact Blk.new _ _ _
  have hR1 := h.below hb1
  have q2 := (hb1.cell (block_lt_of_cell k2)).trans k2
  have q3 := (hb1.cell (block_lt_of_cell k3)).trans k3
  have q4 := (hb1.cell (block_lt_of_cell k4)).trans k4
  have e1 := (hB1.cell 0).trans (show _ = some (.pointer (some ⟨r, 0, none⟩)) from rfl)
  have HW1 := Lib.hid (And.intro hw1 hc1)
  have H1 := Lib.hid (And.intro hb1 (And.intro hB1 hR1))
  clear k2 k3 k4 hw1 hc1 hb1 hB1 hR1 h
  go_enter Tryz.func182, Tryz.ntmps182
  go_upto_region 1 with (fail)
  rw [← HW1.out.1, ← HW1.out.2]
  go_upto_region 2 with (fail)
  obtain ⟨c3, hc3⟩ : ∃ c, c = w1.heap.size := ⟨_, rfl⟩
  obtain ⟨w2, hw2⟩ : ∃ W, W = w1.alloc (.cells #[vi 3, vi 17, .string ⟨#[40]⟩] 97) := ⟨_, rfl⟩
  rw [← hw2, ← hc3]
  have hb2 : Below w1.heap.size w1 w2 := by rw [hw2]; exact (Below.refl _ _).alloc (Nat.le_refl _) _
  have hB3 : Blk w2 c3 97 #[vi 3, vi 17, .string ⟨#[40]⟩] := by rw [hw2, hc3]; exact Blk.new _ _ _
  have t0 := (hB3.cell 0).trans (show _ = some (vi 3) from rfl)
  have e2 := (hb2.cell (block_lt_of_cell e1)).trans e1
  have H2 := Lib.hid (And.intro (H1.out.1.trans (hb2.mono H1.out.1.size)) (And.intro (H1.out.2.1.below hb2 H1.out.2.1.lt) (H1.out.2.2.below hb2)))
  clear hw2 hc3 hb2 hB3 q2 q3 q4 e1
  have hne : r ≠ c1 := H2.out.2.2.ne_ H2.out.2.1 (by decide)
  have HKE : Hid (∀ W, Tn [r] w2 W → W.cell? ⟨c1, 0, none⟩ = some (.pointer (some ⟨r, 0, none⟩))) := Lib.hid fun W hW => ((H2.out.2.1.tn hW (by simp; omega)).cell 0).trans rfl
  clear hne
  go_wp2_with fail
  refine (HI1.out w2 H2.out.2.2).mono ?_
  rintro _ _ ⟨rfl, rfl⟩
  go_wp2_with fail
  refine (HEN.out w2 H2.out.2.2).mono ?_
  rintro _ w3 ⟨rfl, hR3, hT3⟩
  have e3 := HKE.out w3 hT3
  have H3 := Lib.hid (And.intro hR3 hT3)
  clear hR3 hT3 e2 t0
  go_wp2_with fail
  refine (HEX.out w3 H3.out.1).mono ?_
  rintro _ w4 ⟨x, rfl, hP4, hR4, hT4⟩
  have e4 := HKE.out w4 (H3.out.2.trans hT4)
  have H4 := Lib.hid (And.intro hR4 (And.intro (H3.out.2.trans hT4) hP4))
  clear hR4 hT4 hP4 e3
  go_wp2_with fail
  refine (HMU.out w4 H4.out.1).mono ?_
  rintro _ w5 ⟨rfl, hR5, hT5⟩
  have e5 := HKE.out w5 (H4.out.2.1.trans hT5)
  have H5 := Lib.hid (And.intro hR5 (And.intro (H4.out.2.1.trans hT5) (H4.out.2.2.tnr hT5 H4.out.1)))
  have k5 := (Blk.cell hR5 5).trans (show _ = some (vi ((l : Int) + 1)) from rfl)
  have f5 := Blk.frozen hR5 5
  have hw : IntKind.i64.wrap ((l : Int) + 1 - 1) = (l : Int) := by rw [IntWalk.i64_in _ (by constructor <;> omega)]; omega
  clear hR5 hT5 e4
  go_wp2
  go_ret
  have hT6 : Tn [r] w5 (w5.setCell ⟨r, 5, none⟩ (vi l)) := (Tn.refl [r] w5).setCell (.inl (by simp)) _
  exact ⟨x, rfl, H5.out.2.2.tnr hT6 H5.out.1, Blk.set_ H5.out.1 5 _, ((Tn.of_below (X := [r]) H2.out.1).trans H5.out.2.1).trans hT6⟩
abbrev treeM : TreeP := .bin 4 (.name ⟨#[97]⟩) treeS
theorem prod7 (r : Nat) (l : Nat) (hl : l < 60) (w : World) (h : RT w r 7 l) : Calls Tryz.prog 172 #[.pointer (some ⟨r, 0, none⟩)] w (ParseIs r 14 l treeM w) := product_of _ _ _ _ _ (lefts_one r 7 8 14 l _ _ _ _ _ _ _ (by omega) (by decide) (by decide) (by decide +kernel) (by decide +kernel) (by decide +kernel) w (name7 r l w h) (fun W hW => bracket9 r l hl W hW) enters_part)
theorem sum7 (r : Nat) (l : Nat) (hl : l < 60) (w : World) (h : RT w r 7 l) : Calls Tryz.prog 132 #[.pointer (some ⟨r, 0, none⟩)] w (ParseIs r 14 l treeM w) := sum_of _ _ _ _ _ (lefts_stop r 7 14 l _ _ _ _ _ _ (by decide +kernel) (by decide +kernel) w (prod7 r l hl w h) enters_product)
theorem expr7 (r : Nat) (l : Nat) (hl : l < 60) (w : World) (h : RT w r 7 l) : Calls Tryz.prog 86 #[.pointer (some ⟨r, 0, none⟩)] w (ParseIs r 14 l treeM w) := expr_of r 7 14 l _ (by decide +kernel) (by decide +kernel) (by decide +kernel) (by decide +kernel) (fun W hW => sum7 r l hl W hW) w h
end Go.Proofs.YtpkhcncempoohaaGreatDoor
