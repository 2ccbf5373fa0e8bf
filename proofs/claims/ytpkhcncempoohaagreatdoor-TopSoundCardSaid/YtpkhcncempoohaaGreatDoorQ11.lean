/- A bundle of texts: Lw8, Zb, Zc, Zd, Ze, Zf, Zg. -/
import Derived.Test.YtpkhcncempoohaaGreatDoorQ10
import Derived.Test.YtpkhcncempoohaaGreatDoorQ03
import Derived.Deep.DeepCutAuto
import Derived.Test.YtpkhcncempoohaaGreatDoorQ05
import Derived.Test.YtpkhcncempoohaaGreatDoorQ04
set_option linter.unusedVariables false
set_option linter.unusedSimpArgs false
set_option linter.unusedSectionVars false
namespace Go.Proofs.YtpkhcncempoohaaGreatDoor
open Go.RowKit Zp
theorem flatI_one (L : List InsI) : ∀ u ∈ L.flatMap encI, u.oneCell' = true := fun u hu => by
  simp only [List.mem_flatMap, encI] at hu
  obtain ⟨x, _, hx⟩ := hu
  simp at hx
  rcases hx with rfl | rfl | rfl | rfl <;> rfl
set_option maxHeartbeats 1000000 in
theorem cloneI_any (gI B : Nat) (xs : List Value) (hone : ∀ u ∈ xs, u.oneCell' = true) (w : World) (hr : Reads w B 4 (some ⟨gI, 0, none⟩) 9 xs) :
    Calls Tryz.prog 52 #[.slice (some ⟨gI, 0, none⟩) 9 9] w fun e w' => ∃ g c, e = .returned (.slice (some ⟨g, 0, none⟩) 9 c) ∧ w'.ownsRow w.heap.size 121 4 (.slice (some ⟨g, 0, none⟩) 9 c) 9 xs ∧ 9 ≤ c ∧ Below w.heap.size w w' := by
  have hq := fun (W : World) => Lib.run_eql_slice_nil (P := Tryz.prog) W 22 121 (some ⟨gI, 0, none⟩) 9 9 0 0 Tryz.underlying22
  have hb0 : Below w.heap.size w (w.alloc (.cells #[] 121)) := (Below.refl _ _).alloc (Nat.le_refl _) _
  have hr0 : Reads (w.alloc (.cells #[] 121)) B 4 (some ⟨gI, 0, none⟩) 9 xs := ⟨hr.1, fun h9 => by
    obtain ⟨ad, e1, e2, e3⟩ := hr.2 h9
    exact ⟨ad, e1, e2, fun j u hj => (hb0.cell (block_lt_of_cell (e3 j u hj))).trans (e3 j u hj)⟩⟩
  have ho := own_emptyT w 121 4 w.heap.size (Nat.le_refl _)
  have HR := Lib.hid (And.intro hr0 (And.intro ho (And.intro hb0 hone)))
  clear hr hr0 ho hb0 hone
  go_enter Tryz.func52, Tryz.ntmps52
  go_wp2_with (at_builtin; refine wpList_appT 22 121 _ 4 32 Tryz.underlying22 info_ins (by rfl) (by omega) _ rfl _ _ rfl w.heap.size _ 0 [] (some ⟨gI, 0, none⟩) 9 9 xs rfl rfl HR.out.2.1 B HR.out.1 HR.out.2.2.2 (by simp [maxLen]) (by omega) (by simp) ?_; intro v' w1 h1 h2)
  obtain ⟨g, c, rfl, hbg, hc, _⟩ := rowLw_some h1 (by omega)
  go_ret
  exact ⟨g, c, rfl, h1, hc, HR.out.2.2.1.grown h2 HR.out.2.2.1.size (fun k hk => by injection hk with hk; rw [← hk]; exact Nat.le_refl _)⟩
structure WiS (w : World) (c6 : Nat) (xs : List Value) (c8 g c : Nat) (W : World) : Prop where
  bl : Blk W c8 24 #[vi 2, .slice (some ⟨g, 0, none⟩) 9 9]
  rs : Blk W c6 24 #[vi 0, .slice none 0 0]
  ne : c8 ≠ c6
  own : W.ownsRow w.heap.size 121 4 (.slice (some ⟨g, 0, none⟩) 9 c) 9 xs
  be : Below w.heap.size w W
theorem WiS.made {w wx : World} {c6 : Nat} {xs : List Value} {c8 g c : Nat} {W : World} (hb : Blk W c8 24 #[vi 0, .slice none 0 0]) (hx : Blk wx c6 24 #[vi 0, .slice none 0 0]) (hW : Below wx.heap.size wx W) (h8 : wx.heap.size ≤ c8) (h0 : Below w.heap.size w wx) (ho : W.ownsRow w.heap.size 121 4 (.slice (some ⟨g, 0, none⟩) 9 c) 9 xs) :
    WiS w c6 xs c8 g c ((W.setCell ⟨c8, 0, none⟩ (vi 2)).setCell ⟨c8, 1, none⟩ (.slice (some ⟨g, 0, none⟩) 9 9)) := by
  have hne : c8 ≠ c6 := fun e => by have := hx.lt; omega
  refine ⟨(hb.set_ 0 _).set_ 1 _, ((hx.below hW hx.lt).far (p := ⟨c8, 0, none⟩) (fun e => hne e.symm) _).far (p := ⟨c8, 1, none⟩) (fun e => hne e.symm) _, hne, rowLw_keep ho fun k hk => ?_, ?_⟩
  · obtain ⟨cs, hcs⟩ := rowLw_blk ho hk
    have hn := Blk.ne_ hcs hb (by decide)
    exact (Below.heap_setCell _ ⟨c8, 1, none⟩ _ k hn).trans (Below.heap_setCell _ ⟨c8, 0, none⟩ _ k hn)
  · have hle : w.heap.size ≤ c8 := Nat.le_trans h0.size h8
    exact ((h0.trans (hW.mono h0.size)).setCell hle _).setCell hle _
theorem WiS.set_ {w : World} {c6 : Nat} {xs : List Value} {c8 g c : Nat} {W : World} (h : WiS w c6 xs c8 g c W) (j : Nat) (u : Value) : WiS w c6 (xs.set j u) c8 g c (W.setCell ⟨g, j, none⟩ u) := by
  obtain ⟨cs, hc⟩ := rowLw_blk h.own (g := g) rfl
  have hB : w.heap.size ≤ g := (World.ownsRow.lt h.own g rfl).1
  exact ⟨h.bl.far (p := ⟨g, j, none⟩) (Blk.ne_ h.bl hc (by decide)) u, h.rs.far (p := ⟨g, j, none⟩) (Blk.ne_ h.rs hc (by decide)) u, h.ne, (World.ownsRow.stored h.own j u).1, h.be.setCell hB u⟩
theorem WiS.drew {w : World} {c6 : Nat} {xs : List Value} {c8 g c : Nat} {W : World} (h : WiS w c6 xs c8 g c W) : WiS w c6 xs c8 g c W.drew := ⟨h.bl, h.rs, h.ne, h.own, below_drewN h.be 1⟩
set_option maxRecDepth 100000 in
set_option maxHeartbeats 4000000 in
theorem With_any (bF gI gA B p : Nat) (hp : 6 < p) (hp2 : p ≤ 2147483647) (w : World) (hF : w.cell? ⟨bF, 0, none⟩ = some (vi p)) (hr : Reads w w.heap.size 4 (some ⟨gI, 0, none⟩) 9 (codeL.flatMap encI)) (hA : w.cell? ⟨gA, 0, none⟩ = some (vi 6)) :
    Calls Tryz.prog 18 #[.pointer (some ⟨bF, 0, none⟩), .agg #[vi 2, .slice (some ⟨gI, 0, none⟩) 9 9], .slice (some ⟨gA, 0, none⟩) 1 1] w fun e w' => ∃ g, e = .returned (.tuple #[.agg #[vi 2, .slice (some ⟨g, 0, none⟩) 9 9], .nilIface]) ∧ Reads w' w'.heap.size 4 (some ⟨g, 0, none⟩) 9 (codeL6.flatMap encI) ∧ Below w.heap.size w w' := by
  obtain ⟨c4, hc4⟩ : ∃ c, c = w.heap.size := ⟨_, rfl⟩
  obtain ⟨c6, hc6⟩ : ∃ c, c = w.heap.size + 1 := ⟨_, rfl⟩
  obtain ⟨wx, hwx⟩ : ∃ wx, wx = (w.alloc (.cells #[vi 2, .slice (some ⟨gI, 0, none⟩) 9 9] 24)).alloc (.cells #[vi 0, .slice none 0 0] 24) := ⟨_, rfl⟩
  have hbx : Below w.heap.size w wx := by rw [hwx]; exact ((Below.refl _ _).alloc (Nat.le_refl _) _).alloc (by simp) _
  have h4 : Blk wx c4 24 #[vi 2, .slice (some ⟨gI, 0, none⟩) 9 9] := by rw [hwx, hc4]; exact (Blk.new w _ _).alloc _
  have h6 : Blk wx c6 24 #[vi 0, .slice none 0 0] := by
    have := Blk.new (w.alloc (.cells #[vi 2, .slice (some ⟨gI, 0, none⟩) 9 9] 24)) 24 #[vi 0, .slice none 0 0]
    rw [show (w.alloc (.cells #[vi 2, .slice (some ⟨gI, 0, none⟩) 9 9] 24)).heap.size = c6 by rw [hc6]; simp] at this
    rw [hwx]
    exact this
  have k1 := (h4.cell 1).trans (show _ = some (.slice (some ⟨gI, 0, none⟩) 9 9) from rfl)
  have HX := Lib.hid (And.intro hbx (And.intro h4 h6))
  have HW := Lib.hid (And.intro hwx (And.intro hc4 hc6))
  have KS : Hid (∀ W, Below wx.heap.size wx W → W.cell? ⟨c4, 0, none⟩ = some (vi 2) ∧ W.cell? ⟨c4, 1, none⟩ = some (.slice (some ⟨gI, 0, none⟩) 9 9)) := Lib.hid fun W hW => ⟨((h4.below hW h4.lt).cell 0).trans rfl, ((h4.below hW h4.lt).cell 1).trans rfl⟩
  have HC : Hid (∀ W, Below wx.heap.size wx W → Calls Tryz.prog 52 #[.slice (some ⟨gI, 0, none⟩) 9 9] W fun e w' => ∃ g c, e = .returned (.slice (some ⟨g, 0, none⟩) 9 c) ∧ w'.ownsRow w.heap.size 121 4 (.slice (some ⟨g, 0, none⟩) 9 c) 9 (codeL.flatMap encI) ∧ 9 ≤ c ∧ Below W.heap.size W w') := Lib.hid fun W hW =>
    (cloneI_any gI w.heap.size _ (flatI_one codeL) W (hr.below (hbx.trans (hW.mono hbx.size)))).mono fun e w' ⟨g, c, e1, e2, e3, e4⟩ => ⟨g, c, e1, rowLw_base e2 (Nat.le_trans hbx.size hW.size), e3, e4⟩
  have HCP : Hid (∀ W g c, 9 ≤ c → Calls Tryz.prog 51 #[.slice (some ⟨g, 0, none⟩) 9 c] W fun e w' => e = .returned (.slice (some ⟨g, 0, none⟩) 9 9) ∧ W = w') := Lib.hid fun W g c h => clipI_any (some ⟨g, 0, none⟩) 9 c h W (fun e => by cases e)
  have HO : Hid (∀ W, Below w.heap.size w W → Calls Tryz.prog 25 #[.pointer (some ⟨bF, 0, none⟩), vi 6] W fun e w' => e = .returned (vi 6) ∧ W = w') := Lib.hid fun W hW => (of_any p (by omega) hp2 bF 6 (by constructor <;> omega) W ((hW.cell (block_lt_of_cell hF)).trans hF)).mono fun e w' h => ⟨by rw [h.1, Int.emod_eq_of_lt (by omega) (by omega)], h.2⟩
  have HA := Lib.hid (fun W (hW : Below w.heap.size w W) => (hW.cell (block_lt_of_cell hA)).trans hA)
  clear hwx hc4 hc6 hbx h4 h6 hr hF hA
  go_enter Tryz.func18, Tryz.ntmps18
  go_upto_region 1 with (fail)
  rw [← HW.out.1, ← HW.out.2.2, ← HW.out.2.1]
  go_upto_region 3 with (fail)
  clear k1
  refine' wp_fixed4 _ (fun c8 g c _ W => WiS w c6 (codeL.flatMap encI) c8 g c W) ?reg3 ?next3
  case reg3 =>
    refine wp_region_held_drew (S := fun W => W.cell? ⟨c4, 0, none⟩ = some (vi 2) ∧ W.cell? ⟨c4, 1, none⟩ = some (.slice (some ⟨gI, 0, none⟩) 9 9)) (by kernel_rfl) (KS.out _ (below_drewN (Below.refl _ _) 1)) (fun hHeld => ?_)
    obtain ⟨wd, hwd⟩ : ∃ X, X = wx.drew := ⟨_, rfl⟩
    rw [← hwd] at hHeld ⊢
    have hbd : Below wx.heap.size wx wd := by rw [hwd]; exact below_drewN (Below.refl _ _) 1
    clear hwd
    refine tkH 0 ?_
    refine tkH 1 ?_
    refine tkH 2 ?_
    refine tkH 3 ?_
    have hbwd := hbd
    refine wpAnyH_ready (rs := [4,7]) (by kernel_rfl) (by simp) (AllReadyH.cons rfl (fun K hK => ?_) (AllReadyH.cons rfl (fun K hK => ?_) AllReadyH.nil))
    · have _tk := hHeld
      go_simp
      refine (HC.out wd hbwd).mono ?_
      rintro _ U ⟨g, c, rfl, ho, h9, hbc⟩
      have hbU : Below wx.heap.size wx U := hbwd.trans (hbc.mono hbwd.size)
      clear hbc
      refine hK.out _ _ (KS.out _ hbU) (fun hHeld => ?_)
      clear hK K
      (try simp only [Act.put, List.setIfInBounds_toArray, List.set_cons_zero, List.set_cons_succ])
      refine wpAnyH_ready (rs := [5,7]) (by kernel_rfl) (by simp) (AllReadyH.cons rfl (fun K hK => ?_) (AllReadyH.cons rfl (fun K hK => ?_) AllReadyH.nil))
      · have _tk := hHeld
        go_simp
        refine (HCP.out U g c h9).mono ?_
        rintro _ _ ⟨rfl, rfl⟩
        refine hK.out _ _ (KS.out _ hbU) (fun hHeld => ?_)
        clear hK K
        (try simp only [Act.put, List.setIfInBounds_toArray, List.set_cons_zero, List.set_cons_succ])
        refine tkH 6 ?_
        refine stH 7 (fun K hK => ?_)
        go_simp
        obtain ⟨c8, hc8⟩ : ∃ c, c = U.heap.size := ⟨_, rfl⟩
        obtain ⟨Y, hY⟩ : ∃ Y, Y = U.alloc (.cells #[vi 0, .slice none 0 0] 24) := ⟨_, rfl⟩
        rw [← hY, ← hc8]
        have hXY : Below U.heap.size U Y := by rw [hY]; exact (Below.refl _ _).alloc (Nat.le_refl _) _
        have hN : Blk Y c8 24 #[vi 0, .slice none 0 0] := by rw [hY, hc8]; exact Blk.new _ _ _
        have hbY : Below wx.heap.size wx Y := hbU.trans (hXY.mono hbU.size)
        have hcx : wx.heap.size ≤ c8 := by rw [hc8]; exact hbU.size
        have ho := rowLw_keep ho (fun k hk => hXY.block k (World.ownsRow.lt ho k hk).2)
        clear hY hc8 hXY
        refine hK.out _ _ (KS.out _ hbY) (fun hHeld => ?_)
        clear hK K
        (try simp only [Act.put, List.setIfInBounds_toArray, List.set_cons_zero, List.set_cons_succ])
        have y0 := (hN.cell 0).trans (show _ = some (vi 0) from rfl)
        have y1 := (hN.cell 1).trans (show _ = some (.slice none 0 0) from rfl)
        have f0 := hN.frozen 0
        have f1 := hN.frozen 1
        refine stH 8 (fun K hK => ?_)
        go_simp
        obtain ⟨Z, hZ⟩ : ∃ Z, Z = (Y.setCell ⟨c8, 0, none⟩ (vi 2)).setCell ⟨c8, 1, none⟩ (.slice (some ⟨g, 0, none⟩) 9 9) := ⟨_, rfl⟩
        rw [← hZ]
        have hZW : WiS w c6 (codeL.flatMap encI) c8 g c Z := by rw [hZ]; exact WiS.made hN HX.out.2.2 hbY hcx HX.out.1 ho
        have hbZ : Below wx.heap.size wx Z := by rw [hZ]; exact (hbY.setCell hcx _).setCell hcx _
        clear y0 y1 f0 f1 hZ
        refine hK.out _ _ (KS.out _ hbZ) (fun hHeld => ?_)
        clear hK K
        (try simp only [Act.put, List.setIfInBounds_toArray, List.set_cons_zero, List.set_cons_succ])
        obtain ⟨u0, hu0⟩ : ∃ u : Nat, u = 0 := ⟨_, rfl⟩
        refine wpAnyH_done (by kernel_rfl) ?_ _
        refine ⟨c8, g, c, u0, ?_, ?_⟩
        rotate_left
        exact Eq.refl _
        exact hZW
      · have _tk := hHeld
        go_simp
        obtain ⟨c8, hc8⟩ : ∃ c, c = U.heap.size := ⟨_, rfl⟩
        obtain ⟨Y, hY⟩ : ∃ Y, Y = U.alloc (.cells #[vi 0, .slice none 0 0] 24) := ⟨_, rfl⟩
        rw [← hY, ← hc8]
        have hXY : Below U.heap.size U Y := by rw [hY]; exact (Below.refl _ _).alloc (Nat.le_refl _) _
        have hN : Blk Y c8 24 #[vi 0, .slice none 0 0] := by rw [hY, hc8]; exact Blk.new _ _ _
        have hbY : Below wx.heap.size wx Y := hbU.trans (hXY.mono hbU.size)
        have hcx : wx.heap.size ≤ c8 := by rw [hc8]; exact hbU.size
        have ho := rowLw_keep ho (fun k hk => hXY.block k (World.ownsRow.lt ho k hk).2)
        clear hY hc8 hXY
        refine hK.out _ _ (KS.out _ hbY) (fun hHeld => ?_)
        clear hK K
        (try simp only [Act.put, List.setIfInBounds_toArray, List.set_cons_zero, List.set_cons_succ])
        refine stH 5 (fun K hK => ?_)
        go_simp
        refine (HCP.out Y g c h9).mono ?_
        rintro _ _ ⟨rfl, rfl⟩
        refine hK.out _ _ (KS.out _ hbY) (fun hHeld => ?_)
        clear hK K
        (try simp only [Act.put, List.setIfInBounds_toArray, List.set_cons_zero, List.set_cons_succ])
        refine tkH 6 ?_
        have y0 := (hN.cell 0).trans (show _ = some (vi 0) from rfl)
        have y1 := (hN.cell 1).trans (show _ = some (.slice none 0 0) from rfl)
        have f0 := hN.frozen 0
        have f1 := hN.frozen 1
        refine stH 8 (fun K hK => ?_)
        go_simp
        obtain ⟨Z, hZ⟩ : ∃ Z, Z = (Y.setCell ⟨c8, 0, none⟩ (vi 2)).setCell ⟨c8, 1, none⟩ (.slice (some ⟨g, 0, none⟩) 9 9) := ⟨_, rfl⟩
        rw [← hZ]
        have hZW : WiS w c6 (codeL.flatMap encI) c8 g c Z := by rw [hZ]; exact WiS.made hN HX.out.2.2 hbY hcx HX.out.1 ho
        have hbZ : Below wx.heap.size wx Z := by rw [hZ]; exact (hbY.setCell hcx _).setCell hcx _
        clear y0 y1 f0 f1 hZ
        refine hK.out _ _ (KS.out _ hbZ) (fun hHeld => ?_)
        clear hK K
        (try simp only [Act.put, List.setIfInBounds_toArray, List.set_cons_zero, List.set_cons_succ])
        obtain ⟨u0, hu0⟩ : ∃ u : Nat, u = 0 := ⟨_, rfl⟩
        refine wpAnyH_done (by kernel_rfl) ?_ _
        refine ⟨c8, g, c, u0, ?_, ?_⟩
        rotate_left
        exact Eq.refl _
        exact hZW
    · have _tk := hHeld
      go_simp
      obtain ⟨c8, hc8⟩ : ∃ c, c = wd.heap.size := ⟨_, rfl⟩
      obtain ⟨U, hY⟩ : ∃ Y, Y = wd.alloc (.cells #[vi 0, .slice none 0 0] 24) := ⟨_, rfl⟩
      rw [← hY, ← hc8]
      have hXY : Below wd.heap.size wd U := by rw [hY]; exact (Below.refl _ _).alloc (Nat.le_refl _) _
      have hN : Blk U c8 24 #[vi 0, .slice none 0 0] := by rw [hY, hc8]; exact Blk.new _ _ _
      have hbU : Below wx.heap.size wx U := hbwd.trans (hXY.mono hbwd.size)
      have hcx : wx.heap.size ≤ c8 := by rw [hc8]; exact hbwd.size
      clear hY hc8 hXY
      refine hK.out _ _ (KS.out _ hbU) (fun hHeld => ?_)
      clear hK K
      (try simp only [Act.put, List.setIfInBounds_toArray, List.set_cons_zero, List.set_cons_succ])
      refine stH 4 (fun K hK => ?_)
      go_simp
      refine (HC.out U hbU).mono ?_
      rintro _ Y ⟨g, c, rfl, ho, h9, hbc⟩
      have hbY : Below wx.heap.size wx Y := hbU.trans (hbc.mono hbU.size)
      have hN := hN.below hbc hN.lt
      clear hbc
      refine hK.out _ _ (KS.out _ hbY) (fun hHeld => ?_)
      clear hK K
      (try simp only [Act.put, List.setIfInBounds_toArray, List.set_cons_zero, List.set_cons_succ])
      refine stH 5 (fun K hK => ?_)
      go_simp
      refine (HCP.out Y g c h9).mono ?_
      rintro _ _ ⟨rfl, rfl⟩
      refine hK.out _ _ (KS.out _ hbY) (fun hHeld => ?_)
      clear hK K
      (try simp only [Act.put, List.setIfInBounds_toArray, List.set_cons_zero, List.set_cons_succ])
      refine tkH 6 ?_
      have y0 := (hN.cell 0).trans (show _ = some (vi 0) from rfl)
      have y1 := (hN.cell 1).trans (show _ = some (.slice none 0 0) from rfl)
      have f0 := hN.frozen 0
      have f1 := hN.frozen 1
      refine stH 8 (fun K hK => ?_)
      go_simp
      obtain ⟨Z, hZ⟩ : ∃ Z, Z = (Y.setCell ⟨c8, 0, none⟩ (vi 2)).setCell ⟨c8, 1, none⟩ (.slice (some ⟨g, 0, none⟩) 9 9) := ⟨_, rfl⟩
      rw [← hZ]
      have hZW : WiS w c6 (codeL.flatMap encI) c8 g c Z := by rw [hZ]; exact WiS.made hN HX.out.2.2 hbY hcx HX.out.1 ho
      have hbZ : Below wx.heap.size wx Z := by rw [hZ]; exact (hbY.setCell hcx _).setCell hcx _
      clear y0 y1 f0 f1 hZ
      refine hK.out _ _ (KS.out _ hbZ) (fun hHeld => ?_)
      clear hK K
      (try simp only [Act.put, List.setIfInBounds_toArray, List.set_cons_zero, List.set_cons_succ])
      obtain ⟨u0, hu0⟩ : ∃ u : Nat, u = 0 := ⟨_, rfl⟩
      refine wpAnyH_done (by kernel_rfl) ?_ _
      refine ⟨c8, g, c, u0, ?_, ?_⟩
      rotate_left
      exact Eq.refl _
      exact hZW
  case next3 =>
    intro c8 g c u0 W3 hT
    have H3 := Lib.hid hT
    have z0 := (World.ownsRow.cellAt hT.own 0 (by omega)).trans (show _ = some (vi 5) from rfl)
    have z1 := (World.ownsRow.cellAt hT.own 1 (by omega)).trans (show _ = some (vi 0) from rfl)
    have x1 := (hT.bl.cell 1).trans (show _ = some (.slice (some ⟨g, 0, none⟩) 9 9) from rfl)
    have xa := HA.out W3 hT.be
    clear hT
    go_wp2
    go_loopw [29] (fun i wr => (i = vi 0 ∧ W3 = wr) ∨ (i = vi 1 ∧ WiS w c6 (codeL6.flatMap encI) c8 g c wr)) (fun i _ => 1 - (intOf i).toNat)
    case atStart => exact .inl ⟨rfl, rfl⟩
    case round =>
      rename World => wr
      rcases hrel with ⟨rfl, rfl⟩ | ⟨rfl, hT⟩
      · go_upto_region 10 with (fail)
        clear z0 z1 x1 xa
        have KS2 : Hid (∀ W xs, WiS w c6 xs c8 g c W → W.cell? ⟨c8, 1, none⟩ = some (.slice (some ⟨g, 0, none⟩) 9 9)) := Lib.hid fun W xs h => (h.bl.cell 1).trans rfl
        refine wp_region_held_drew (S := fun W => W.cell? ⟨c8, 1, none⟩ = some (.slice (some ⟨g, 0, none⟩) 9 9)) (by kernel_rfl) (KS2.out _ _ H3.out.drew) (fun hHeld => ?_)
        obtain ⟨wd, hwd⟩ : ∃ X, X = W3.drew := ⟨_, rfl⟩
        rw [← hwd] at hHeld ⊢
        have HD : Hid (WiS w c6 (codeL.flatMap encI) c8 g c wd) := Lib.hid (by rw [hwd]; exact H3.out.drew)
        clear hwd
        refine tkH 0 ?_
        refine tkH 1 ?_
        refine tkH 2 ?_
        refine tkH 3 ?_
        refine tkH 4 ?_
        refine stH 5 (fun K hK => ?_)
        go_simp
        refine (HO.out wd HD.out.be).mono ?_
        rintro _ _ ⟨rfl, rfl⟩
        refine hK.out _ _ (KS2.out _ _ HD.out) (fun hHeld => ?_)
        clear hK K
        (try simp only [Act.put, List.setIfInBounds_toArray, List.set_cons_zero, List.set_cons_succ])
        refine tkH 6 ?_
        refine tkH 7 ?_
        have y2 := (World.ownsRow.cellAt HD.out.own 2 (by omega)).trans (show _ = some (vi 0) from rfl)
        have f2 := World.ownsRow.frozenAt HD.out.own 2
        refine stH 8 (fun K hK => ?_)
        go_simp
        obtain ⟨W4, hW4⟩ : ∃ X, X = wd.setCell ⟨g, 2, none⟩ (vi 6) := ⟨_, rfl⟩
        rw [← hW4]
        have H4 : Hid (WiS w c6 (codeL6.flatMap encI) c8 g c W4) := Lib.hid (by rw [hW4]; exact HD.out.set_ 2 _)
        clear hW4 y2 f2
        refine hK.out _ _ (KS2.out _ _ H4.out) (fun hHeld => ?_)
        clear hK K
        (try simp only [Act.put, List.setIfInBounds_toArray, List.set_cons_zero, List.set_cons_succ])
        refine wpAnyH_done (by kernel_rfl) ?_ _
        go_wp2
        go_roundw
        case rel => exact .inr ⟨by first | rfl | go_num, H4.out⟩
        case measure => simp [intOf]
      · have H4 := Lib.hid hT
        obtain ⟨W4, hW4⟩ : ∃ W, W = wr := ⟨_, rfl⟩
        rw [← hW4] at H4
        rw [← hW4]
        clear hT hW4 z0 z1 x1 xa
        have x0 := (H4.out.bl.cell 0).trans (show _ = some (vi 2) from rfl)
        have x1 := (H4.out.bl.cell 1).trans (show _ = some (.slice (some ⟨g, 0, none⟩) 9 9) from rfl)
        have v0 := (H4.out.rs.cell 0).trans (show _ = some (vi 0) from rfl)
        have v1 := (H4.out.rs.cell 1).trans (show _ = some (.slice none 0 0) from rfl)
        have u0 := H4.out.rs.frozen 0
        have u1 := H4.out.rs.frozen 1
        go_wp2
        obtain ⟨W5, hW5⟩ : ∃ X, X = (W4.setCell ⟨c6, 0, none⟩ (vi 2)).setCell ⟨c6, 1, none⟩ (.slice (some ⟨g, 0, none⟩) 9 9) := ⟨_, rfl⟩
        rw [← hW5]
        have hB5 : Blk W5 c6 24 #[vi 2, .slice (some ⟨g, 0, none⟩) 9 9] := by rw [hW5]; exact (H4.out.rs.set_ 0 _).set_ 1 _
        have hwc : w.heap.size ≤ c6 := by have := HW.out.2.2; omega
        have hb5 : Below w.heap.size w W5 := by rw [hW5]; exact (H4.out.be.setCell hwc _).setCell hwc _
        have hO5 : W5.ownsRow w.heap.size 121 4 (.slice (some ⟨g, 0, none⟩) 9 c) 9 (codeL6.flatMap encI) := by
          rw [hW5]
          refine rowLw_keep H4.out.own fun k hk => ?_
          obtain ⟨cs, hcs⟩ := rowLw_blk H4.out.own hk
          have hne := Blk.ne_ hcs H4.out.rs (by decide)
          exact (Below.heap_setCell _ ⟨c6, 1, none⟩ _ k hne).trans (Below.heap_setCell _ ⟨c6, 0, none⟩ _ k hne)
        have r0 := (hB5.cell 0).trans (show _ = some (vi 2) from rfl)
        have r1 := (hB5.cell 1).trans (show _ = some (.slice (some ⟨g, 0, none⟩) 9 9) from rfl)
        refine bodyPost_ret (v := .tuple #[.agg #[vi 2, .slice (some ⟨g, 0, none⟩) 9 9], .nilIface]) (by simp [results, Tryz.results18, go_sem, r0, r1]) rfl ⟨g, rfl, Reads.of_own hO5, hb5⟩
end Go.Proofs.YtpkhcncempoohaaGreatDoor

namespace Go.Proofs.YtpkhcncempoohaaGreatDoor
open Go.RowKit Zp
theorem lit_inj {X : DataW Unit} {a b : Int} (h1 : X = .lit (.int .i64 a)) (h2 : X = .lit (.int .i64 b)) : a = b := by
  rw [h1] at h2
  injection h2 with h2
  injection h2
section
variable {p : Nat} [NeZero p] {mB b gm n : Nat} {size : Int} {AI : Option Addr} {L cI : Nat} {s : StM p} {u : Nat} {SV : Value} {d : Nat}
theorem look_yes (hp2 : p ≤ 2147483647) (z v : Fin p) (hv : s.mem z = some v) (hu : u ≤ 2) (w : World) (h : Mac w mB b gm n size AI L cI s u SV d) :
    Calls Tryz.prog 105 #[.pointer (some ⟨mB, 0, none⟩), vi (fv z)] w fun e w' => e = .returned (vi (fv v)) ∧ Mac w' mB b gm n size AI L cI s (u + 1) SV d ∧ Tn [mB, gm] w w' := by
  obtain ⟨a0, a1, a2, i0, i1, i2, hi, hB⟩ := h.blk
  obtain ⟨D, hD, hD1, hD2⟩ := h.map
  have c3 := (hB.cell 3).trans (show _ = some (.map (some gm)) from rfl)
  have hh := hD1 z
  rw [hv] at hh
  have hhas : Go.Maps.has D (.int .i64 (fv z)) = true := hh
  have HAT := Lib.hid (hD2 z v hv)
  have HD := Lib.hid hD
  have hkey := Lib.hid (Go.Maps.keyOf_int_mk (P := Tryz.prog) Tryz.underlying3 (wf_fvi z hp2))
  have HN := Lib.hid (note_any p hp2 z hu w h)
  clear h hB hi hD hD1 hD2 hv hh
  go_enter Tryz.func105, Tryz.ntmps105
  go_wp2_with (at_lookup; refine wpList_lookup_own_ok_int _ rfl _ _ 83 rfl 3 3 .i64 keyed_i Tryz.underlying83 Tryz.underlying3 (zero_i _) gm n D rfl HD.out _ _ rfl hkey.out ?_; intro c hat hwc; obtain rfl := lit_inj HAT.out hat; clear hat hwc)
  refine HN.out.mono ?_
  rintro _ w1 ⟨rfl, hM, hT⟩
  go_wp2
  go_ret
  exact ⟨rfl, hM, hT⟩
theorem look_no (hp2 : p ≤ 2147483647) (z : Fin p) (hv : s.mem z = none) (w : World) (h : Mac w mB b gm n size AI L cI s u SV d) :
    Calls Tryz.prog 105 #[.pointer (some ⟨mB, 0, none⟩), vi (fv z)] w fun e w' => e = .panicked (stopM 10) ∧ w = w' := by
  obtain ⟨a0, a1, a2, i0, i1, i2, hi, hB⟩ := h.blk
  obtain ⟨D, hD, hD1, hD2⟩ := h.map
  have c3 := (hB.cell 3).trans (show _ = some (.map (some gm)) from rfl)
  have hh := hD1 z
  rw [hv] at hh
  have hhas : Go.Maps.has D (.int .i64 (fv z)) = false := hh
  have HD := Lib.hid hD
  have hkey := Lib.hid (Go.Maps.keyOf_int_mk (P := Tryz.prog) Tryz.underlying3 (wf_fvi z hp2))
  clear h hB hi hD hD1 hD2 hv hh
  go_enter Tryz.func105, Tryz.ntmps105
  go_wp2_with (at_lookup; refine wpList_lookup_own_ok_int _ rfl _ _ 83 rfl 3 3 .i64 keyed_i Tryz.underlying83 Tryz.underlying3 (zero_i _) gm n D rfl HD.out _ _ rfl hkey.out ?_; intro c hat hwc; clear hat hwc)
  go_wp2
  exact ⟨rfl, rfl, rfl⟩
end
section
variable {p : Nat} [NeZero p] {mB b gm n : Nat} {size : Int} {AI : Option Addr} {L cI : Nat} {s : StM p} {u : Nat} {SV : Value} {d : Nat}
theorem tell_put {D : DataW Unit} {w : World} {m m' : Fin p → Option (Fin p)} {z v : Fin p} (hD : w.ownsMap Tryz.prog 3 (plainElem Tryz.prog 3) gm n D) (h1 : ∀ z : Fin p, Go.Maps.has D (.int .i64 (fv z)) = (m z).isSome) (h2 : ∀ z v, m z = some v → D.atKey (.int .i64 (fv z)) (.lit (.int .i64 0)) = .lit (.int .i64 (fv v))) (hm : tellM m z v = some m') :
    (∀ y : Fin p, Go.Maps.has (D.put (.int .i64 (fv z)) (.lit (.int .i64 (fv v)))) (.int .i64 (fv y)) = (m' y).isSome) ∧ ∀ y x, m' y = some x → (D.put (.int .i64 (fv z)) (.lit (.int .i64 (fv v)))).atKey (.int .i64 (fv y)) (.lit (.int .i64 0)) = .lit (.int .i64 (fv x)) := by
  have hz : m' z = some v := by
    unfold tellM at hm
    rcases hx : m z with _ | x
    · simp only [hx, Option.some.injEq] at hm
      rw [← hm]
      simp
    · simp only [hx] at hm
      by_cases e : x = v
      · rw [if_pos e] at hm; injection hm with hm; rw [← hm, hx, e]
      · rw [if_neg e] at hm; cases hm
  have ho : ∀ y, y ≠ z → m' y = m y := fun y hy => by
    unfold tellM at hm
    rcases hx : m z with _ | x
    · simp only [hx, Option.some.injEq] at hm
      rw [← hm]
      simp only [if_neg hy]
    · simp only [hx] at hm
      by_cases e : x = v
      · rw [if_pos e] at hm; injection hm with hm; rw [← hm]
      · rw [if_neg e] at hm; cases hm
  have hne : ∀ y, y ≠ z → (Lit.int .i64 (fv y)) ≠ .int .i64 (fv z) := fun y hy e => hy (by injection e with _ e; exact fv_inj e)
  refine ⟨fun y => ?_, fun y x hx => ?_⟩
  · by_cases e : y = z
    · subst e; rw [Go.Maps.has_put_same hD.isMap (by trivial), hz]; rfl
    · rw [Go.Maps.has_put_other (hne y e), h1, ho y e]
  · by_cases e : y = z
    · subst e
      rw [hz] at hx
      injection hx with hx
      rw [Go.Maps.atKey_put_same hD.isMap (by trivial), hx]
    · rw [Go.Maps.atKey_put_other (hne y e)]
      exact h2 y x (by rw [← ho y e]; exact hx)
theorem tell_ok (hp2 : p ≤ 2147483647) (z v : Fin p) (m' : Fin p → Option (Fin p)) (hm : tellM s.mem z v = some m') (hu : u ≤ 2) (hn : n ≤ 1000000) (w : World) (h : Mac w mB b gm n size AI L cI s u SV d) :
    Calls Tryz.prog 152 #[.pointer (some ⟨mB, 0, none⟩), vi (fv z), vi (fv v)] w fun e w' => e = .returned (.tuple #[]) ∧ Mac w' mB b gm (n + 1) size AI L cI { s with mem := m' } (u + 1) SV d ∧ Tn [mB, gm] w w' := by
  have H := Lib.hid h
  obtain ⟨a0, a1, a2, i0, i1, i2, hi, hB⟩ := h.blk
  obtain ⟨D, hD, hD1, hD2⟩ := h.map
  have c3 := (hB.cell 3).trans (show _ = some (.map (some gm)) from rfl)
  have HP := Lib.hid (tell_put hD hD1 hD2 hm)
  have HK : Hid (∀ w1, w1.ownsMap Tryz.prog 3 (plainElem Tryz.prog 3) gm (n + 1) (D.put (.int .i64 (fv z)) (.lit (.int .i64 (fv v)))) → w.grownBy w1 (some gm) → Mac w1 mB b gm (n + 1) size AI L cI { s with mem := m' } u SV d ∧ Tn [mB, gm] w w1 ∧ w1.cell? ⟨mB, 3, none⟩ = some (.map (some gm))) := Lib.hid fun w1 h1 hg => by
    have hT : Tn [gm] w w1 := (Tn.refl _ _).grown hg (fun k hk => by injection hk with hk; exact .inl (by simp [hk]))
    have hB1 := hB.tn hT (by simp; exact fun e => H.out.ne e.symm)
    exact ⟨⟨⟨a0, a1, a2, i0, i1, i2, hi, hB1⟩, ⟨_, h1, HP.out⟩, H.out.ne, hT.cell H.out.fld (by simp; exact H.out.bne.2), H.out.bne⟩, hT.more (fun k hk => .inl (by simp at hk; simp [hk])), (hB1.cell 3).trans rfl⟩
  have hh := hD1 z
  have hc : (Go.Maps.has D (.int .i64 (fv z)) = false ∧ True) ∨ (Go.Maps.has D (.int .i64 (fv z)) = true ∧ D.atKey (.int .i64 (fv z)) (.lit (.int .i64 0)) = .lit (.int .i64 (fv v))) := by
    unfold tellM at hm
    rcases hx : s.mem z with _ | x
    · rw [hx] at hh; exact .inl ⟨hh, trivial⟩
    · rw [hx] at hh
      simp only [hx] at hm
      by_cases e : x = v
      · subst e; exact .inr ⟨hh, hD2 z x hx⟩
      · rw [if_neg e] at hm; cases hm
  have HD := Lib.hid hD
  have hkey := Lib.hid (Go.Maps.keyOf_int_mk (P := Tryz.prog) Tryz.underlying3 (wf_fvi z hp2))
  have hwf := Lib.hid (wf_fvi v hp2)
  clear h hB hi hD hD1 hD2 hm hh
  rcases hc with ⟨hhas, _⟩ | ⟨hhas, hat1⟩
  · go_enter Tryz.func152, Tryz.ntmps152
    go_wp2_with (first
      | (at_lookup; refine wpList_lookup_own_ok_int _ rfl _ _ 83 rfl 3 3 .i64 keyed_i Tryz.underlying83 Tryz.underlying3 (zero_i _) gm n D rfl HD.out _ _ rfl hkey.out ?_; intro c hat hwc; clear hat hwc)
      | (at_mapUpdate; refine wpList_mapUpdate_own _ rfl _ _ _ 83 rfl 3 3 keyed_i Tryz.underlying83 _ gm n _ rfl HD.out (by unfold maxLen; omega) _ _ _ rfl rfl hkey.out _ [] (plainElem_int Tryz.underlying3 hwf.out) ?_; intro w1 hown1 hgrow1; obtain ⟨hM1, hT1, c3a⟩ := HK.out w1 hown1 hgrow1; clear hown1 hgrow1; have HN := Lib.hid (note_any p hp2 z hu w1 hM1); clear hM1))
    refine HN.out.mono ?_
    rintro _ w2 ⟨rfl, hM, hT⟩
    go_wp2
    go_end0
    exact ⟨rfl, hM, hT1.trans hT⟩
  · have HA := Lib.hid hat1
    have tne : (fv v != fv v) = false := by simp
    clear hat1
    go_enter Tryz.func152, Tryz.ntmps152
    go_wp2_with (first
      | (at_lookup; refine wpList_lookup_own_ok_int _ rfl _ _ 83 rfl 3 3 .i64 keyed_i Tryz.underlying83 Tryz.underlying3 (zero_i _) gm n D rfl HD.out _ _ rfl hkey.out ?_; intro c hat hwc; obtain rfl := lit_inj HA.out hat; clear hat hwc)
      | (at_mapUpdate; refine wpList_mapUpdate_own _ rfl _ _ _ 83 rfl 3 3 keyed_i Tryz.underlying83 _ gm n _ rfl HD.out (by unfold maxLen; omega) _ _ _ rfl rfl hkey.out _ [] (plainElem_int Tryz.underlying3 hwf.out) ?_; intro w1 hown1 hgrow1; obtain ⟨hM1, hT1, c3a⟩ := HK.out w1 hown1 hgrow1; clear hown1 hgrow1; have HN := Lib.hid (note_any p hp2 z hu w1 hM1); clear hM1))
    refine HN.out.mono ?_
    rintro _ w2 ⟨rfl, hM, hT⟩
    go_wp2
    go_end0
    exact ⟨rfl, hM, hT1.trans hT⟩
end
end Go.Proofs.YtpkhcncempoohaaGreatDoor

namespace Go.Proofs.YtpkhcncempoohaaGreatDoor
open Go.RowKit Zp
section
variable {p : Nat} [NeZero p] {mB b gm n : Nat} {size : Int} {AI : Option Addr} {L cI : Nat} {s : StM p} {SV : Value} {d : Nat}
theorem tell_okI {u : Nat} (hp2 : p ≤ 2147483647) (z v : Fin p) (x : Int) (hx : x = fv v) (m' : Fin p → Option (Fin p)) (hm : tellM s.mem z v = some m') (hu : u ≤ 2) (hn : n ≤ 1000000) (w : World) (h : Mac w mB b gm n size AI L cI s u SV d) :
    Calls Tryz.prog 152 #[.pointer (some ⟨mB, 0, none⟩), vi (fv z), vi x] w fun e w' => e = .returned (.tuple #[]) ∧ Mac w' mB b gm (n + 1) size AI L cI { s with mem := m' } (u + 1) SV d ∧ Tn [mB, gm] w w' := by
  subst hx
  exact tell_ok hp2 z v m' hm hu hn w h
set_option maxHeartbeats 2000000 in
theorem compute_yes (hp1 : 2 ≤ p) (hp2 : p ≤ 2147483647) (op ia ib ic : Int) (hia : I64 ia) (hib : I64 ib) (hic : I64 ic) (va vb : Fin p) (m' : Fin p → Option (Fin p)) (ho : op = 1 ∨ op = 2 ∨ op = 3 ∨ op = 4 ∨ op = 6) (hva : s.mem (s.fp + el p ia) = some va) (hvb : s.mem (s.fp + el p ib) = some vb) (hdv : ¬ (op = 4 ∧ vb = 0)) (hm : tellM s.mem (s.fp + el p ic) (compM op va vb) = some m') (hn : n ≤ 1000000) (w : World) (h : Mac w mB b gm n size AI L cI s 0 SV d) :
    Calls Tryz.prog 151 #[.pointer (some ⟨mB, 0, none⟩), .agg #[vi op, vi ia, vi ib, vi ic]] w fun e w' => e = .returned (.tuple #[]) ∧ Mac w' mB b gm (n + 1) size AI L cI { s with mem := m' } 3 SV d ∧ Tn [mB, gm] w w' := by
  have hb0 : Tn [mB, gm] w (w.alloc (.cells #[vi op, vi ia, vi ib, vi ic] 121)) := (Tn.refl _ _).alloc _
  have hB0 := Blk.new w 121 #[vi op, vi ia, vi ib, vi ic]
  have hmb := (h.blk.elim fun _ h => h.elim fun _ h => h.elim fun _ h => h.elim fun _ h => h.elim fun _ h => h.elim fun _ h => h.2.lt)
  have hgb := h.map.lt
  have h0 := h.tn ((Tn.refl [] w).alloc (.cells #[vi op, vi ia, vi ib, vi ic] 121)) (by simp) (by simp) (by simp)
  obtain ⟨W0, hW0⟩ : ∃ W0, W0 = w.alloc (.cells #[vi op, vi ia, vi ib, vi ic] 121) := ⟨_, rfl⟩
  rw [← hW0] at hb0 hB0 h0
  have KS := Lib.hid (fun W' (ht : Tn [mB, gm] W0 W') => show W'.cell? ⟨w.heap.size, 0, none⟩ = some (vi op) ∧ W'.cell? ⟨w.heap.size, 1, none⟩ = some (vi ia) ∧ W'.cell? ⟨w.heap.size, 2, none⟩ = some (vi ib) ∧ W'.cell? ⟨w.heap.size, 3, none⟩ = some (vi ic) from by
    have hB := hB0.tn ht (by simp; omega)
    exact ⟨(hB.cell 0).trans rfl, (hB.cell 1).trans rfl, (hB.cell 2).trans rfl, (hB.cell 3).trans rfl⟩)
  obtain ⟨x0, x1, x2, x3⟩ := KS.out W0 (Tn.refl _ _)
  have HW0 := Lib.hid hW0
  have HB0 := Lib.hid hb0
  have HMB := Lib.hid hmb
  have H0 := Lib.hid (fun k => h0.drewN k)
  clear hW0 hb0 hB0 h h0 hmb hgb
  have HVA := Lib.hid hva
  have HVB := Lib.hid hvb
  have HM := Lib.hid hm
  have HDV := Lib.hid hdv
  clear hva hvb hm hdv
  go_enter Tryz.func151, Tryz.ntmps151
  go_upto_region 1 with (fail)
  rw [← HW0.out]
  go_region_held3 (fun w' => w'.cell? ⟨w.heap.size, 1, none⟩ = some (vi ia) ∧ w'.cell? ⟨w.heap.size, 2, none⟩ = some (vi ib)) (first | exact ⟨x1, x2⟩ | exact ⟨(KS.out _ hT1).2.1, (KS.out _ hT1).2.2.1⟩ | exact ⟨(KS.out _ hT2).2.1, (KS.out _ hT2).2.2.1⟩) ((first | (go_at_call 106; have _t := HM1; refine (own_cell p hp2 ib hib _ HM1.out).mono ?_; rintro _ _ ⟨rfl, k2, rfl⟩) | (go_at_call 105; have _t := HM1; refine (look_yes hp2 _ vb HVB.out (by omega) _ (HM1.out.drewN k2)).mono ?_; rintro _ w2 ⟨rfl, hM2, hT2⟩; have HM2 := Lib.hid hM2; replace hT2 := hT1.trans (((Tn.refl _ _).drewN k2).trans hT2); clear hM2) | (go_at_call 106; refine (own_cell p hp2 ia hia _ (H0.out 1)).mono ?_; rintro _ _ ⟨rfl, k1, rfl⟩) | (go_at_call 105; refine (look_yes hp2 _ va HVA.out (by omega) _ (H0.out (1 + k1))).mono ?_; rintro _ w1 ⟨rfl, hM1, hT1⟩; have HM1 := Lib.hid hM1; replace hT1 := (((Tn.refl _ _).drewN (1 + k1)).trans hT1 : Tn [mB, gm] W0 w1); clear hM1)))
  obtain ⟨y0, y1, y2, y3⟩ := KS.out _ hT2
  clear x0 x1 x2 x3
  have c0 := HM2.out.c0
  have cb := HM2.out.fld
  have iva := i64_fv va hp2
  have ivb := i64_fv vb hp2
  have HT2 := Lib.hid hT2
  clear hT1 hT2 HM1
  rcases ho with rfl | rfl | rfl | rfl | rfl
  · go_wp2_with fail
    refine (add_any p hp2 b _ _ iva ivb _ cb).mono ?_
    rintro _ _ ⟨rfl, k3, rfl⟩
    go_wp2_with fail
    refine (own_cell p hp2 ic hic _ (by first | exact HM2.out | exact HM2.out.drewN _)).mono ?_
    rintro _ _ ⟨rfl, k4, rfl⟩
    go_wp2_with fail
    refine (tell_okI hp2 _ (compM _ va vb) _ (by first | (simp only [compM, el_fv]; simp; done) | (have he := HE.out; simp [compM, he, fv_zero, fv_one hp1]; done)) m' HM.out (by omega) hn _ (HM2.out.drewN _)).mono ?_
    rintro _ w5 ⟨rfl, hM, hT⟩
    go_wp2
    go_end0
    exact ⟨rfl, hM, HB0.out.trans (HT2.out.trans (((Tn.refl _ _).drewN _).trans hT))⟩
  · go_wp2_with fail
    refine (sub_any p hp2 b _ _ iva ivb _ cb).mono ?_
    rintro _ _ ⟨rfl, rfl⟩
    obtain ⟨k3, hk3⟩ : ∃ k3, k3 = 0 := ⟨_, rfl⟩
    have HK3 := Lib.hid hk3
    clear hk3
    go_wp2_with fail
    refine (own_cell p hp2 ic hic _ (by first | exact HM2.out | exact HM2.out.drewN _)).mono ?_
    rintro _ _ ⟨rfl, k4, rfl⟩
    go_wp2_with fail
    refine (tell_okI hp2 _ (compM _ va vb) _ (by first | (simp only [compM, el_fv]; simp; done) | (have he := HE.out; simp [compM, he, fv_zero, fv_one hp1]; done)) m' HM.out (by omega) hn _ (HM2.out.drewN _)).mono ?_
    rintro _ w5 ⟨rfl, hM, hT⟩
    go_wp2
    go_end0
    exact ⟨rfl, hM, HB0.out.trans (HT2.out.trans (((Tn.refl _ _).drewN _).trans hT))⟩
  · go_wp2_with fail
    refine (mul_any p hp2 b _ _ iva ivb _ cb).mono ?_
    rintro _ _ ⟨rfl, k3, rfl⟩
    go_wp2_with fail
    refine (own_cell p hp2 ic hic _ (by first | exact HM2.out | exact HM2.out.drewN _)).mono ?_
    rintro _ _ ⟨rfl, k4, rfl⟩
    go_wp2_with fail
    refine (tell_okI hp2 _ (compM _ va vb) _ (by first | (simp only [compM, el_fv]; simp; done) | (have he := HE.out; simp [compM, he, fv_zero, fv_one hp1]; done)) m' HM.out (by omega) hn _ (HM2.out.drewN _)).mono ?_
    rintro _ w5 ⟨rfl, hM, hT⟩
    go_wp2
    go_end0
    exact ⟨rfl, hM, HB0.out.trans (HT2.out.trans (((Tn.refl _ _).drewN _).trans hT))⟩
  · have hnz : (fv vb != 0) = true := by
      simp only [bne_iff_ne, ne_eq]
      exact fun e => HDV.out ⟨rfl, fv_inj (by rw [e, fv_zero])⟩
    go_wp2_with fail
    refine (must_yes _).mono ?_
    rintro _ _ ⟨rfl, rfl⟩
    go_wp2_with fail
    refine (div_any p hp1 hp2 b _ _ iva ivb _ cb).mono ?_
    rintro _ _ ⟨rfl, k3, rfl⟩
    go_wp2_with fail
    refine (own_cell p hp2 ic hic _ (by first | exact HM2.out | exact HM2.out.drewN _)).mono ?_
    rintro _ _ ⟨rfl, k4, rfl⟩
    go_wp2_with fail
    refine (tell_okI hp2 _ (compM _ va vb) _ (by first | (simp only [compM, el_fv]; simp; done) | (have he := HE.out; simp [compM, he, fv_zero, fv_one hp1]; done)) m' HM.out (by omega) hn _ (HM2.out.drewN _)).mono ?_
    rintro _ w5 ⟨rfl, hM, hT⟩
    go_wp2
    go_end0
    exact ⟨rfl, hM, HB0.out.trans (HT2.out.trans (((Tn.refl _ _).drewN _).trans hT))⟩
  · by_cases he : va = vb
    · have h1 : (fv va == fv vb) = true := by rw [he]; simp
      have HE := Lib.hid he
      clear he
      go_wp2_with fail
      go_wp2_with fail
      refine (own_cell p hp2 ic hic _ (by first | exact HM2.out | exact HM2.out.drewN _)).mono ?_
      rintro _ _ ⟨rfl, k4, rfl⟩
      go_wp2_with fail
      refine (tell_okI hp2 _ (compM _ va vb) _ (by first | (simp only [compM, el_fv]; simp; done) | (have he := HE.out; simp [compM, he, fv_zero, fv_one hp1]; done)) m' HM.out (by omega) hn _ (HM2.out.drewN _)).mono ?_
      rintro _ w5 ⟨rfl, hM, hT⟩
      go_wp2
      go_end0
      exact ⟨rfl, hM, HB0.out.trans (HT2.out.trans (((Tn.refl _ _).drewN _).trans hT))⟩
    · have h1 : (fv va == fv vb) = false := by
        simp only [beq_eq_false_iff_ne, ne_eq]
        exact fun e => he (fv_inj e)
      have HE := Lib.hid he
      clear he
      go_wp2_with fail
      go_wp2_with fail
      refine (own_cell p hp2 ic hic _ (by first | exact HM2.out | exact HM2.out.drewN _)).mono ?_
      rintro _ _ ⟨rfl, k4, rfl⟩
      go_wp2_with fail
      refine (tell_okI hp2 _ (compM _ va vb) _ (by first | (simp only [compM, el_fv]; simp; done) | (have he := HE.out; simp [compM, he, fv_zero, fv_one hp1]; done)) m' HM.out (by omega) hn _ (HM2.out.drewN _)).mono ?_
      rintro _ w5 ⟨rfl, hM, hT⟩
      go_wp2
      go_end0
      exact ⟨rfl, hM, HB0.out.trans (HT2.out.trans (((Tn.refl _ _).drewN _).trans hT))⟩
set_option maxHeartbeats 2000000 in
theorem compute_no1 (hp2 : p ≤ 2147483647) (op ia ib ic : Int) (hia : I64 ia) (hib : I64 ib) (hva : s.mem (s.fp + el p ia) = none) (w : World) (h : Mac w mB b gm n size AI L cI s 0 SV d) :
    Calls Tryz.prog 151 #[.pointer (some ⟨mB, 0, none⟩), .agg #[vi op, vi ia, vi ib, vi ic]] w fun e w' => e = .panicked (stopM 10) ∧ Tn [mB, gm] w w' := by
  have hb0 : Tn [mB, gm] w (w.alloc (.cells #[vi op, vi ia, vi ib, vi ic] 121)) := (Tn.refl _ _).alloc _
  have hB0 := Blk.new w 121 #[vi op, vi ia, vi ib, vi ic]
  have hmb := (h.blk.elim fun _ h => h.elim fun _ h => h.elim fun _ h => h.elim fun _ h => h.elim fun _ h => h.elim fun _ h => h.2.lt)
  have hgb := h.map.lt
  have h0 := h.tn ((Tn.refl [] w).alloc (.cells #[vi op, vi ia, vi ib, vi ic] 121)) (by simp) (by simp) (by simp)
  obtain ⟨W0, hW0⟩ : ∃ W0, W0 = w.alloc (.cells #[vi op, vi ia, vi ib, vi ic] 121) := ⟨_, rfl⟩
  rw [← hW0] at hb0 hB0 h0
  have KS := Lib.hid (fun W' (ht : Tn [mB, gm] W0 W') => show W'.cell? ⟨w.heap.size, 0, none⟩ = some (vi op) ∧ W'.cell? ⟨w.heap.size, 1, none⟩ = some (vi ia) ∧ W'.cell? ⟨w.heap.size, 2, none⟩ = some (vi ib) ∧ W'.cell? ⟨w.heap.size, 3, none⟩ = some (vi ic) from by
    have hB := hB0.tn ht (by simp; omega)
    exact ⟨(hB.cell 0).trans rfl, (hB.cell 1).trans rfl, (hB.cell 2).trans rfl, (hB.cell 3).trans rfl⟩)
  obtain ⟨x0, x1, x2, x3⟩ := KS.out W0 (Tn.refl _ _)
  have HW0 := Lib.hid hW0
  have HB0 := Lib.hid hb0
  have HMB := Lib.hid hmb
  have H0 := Lib.hid (fun k => h0.drewN k)
  clear hW0 hb0 hB0 h h0 hmb hgb
  have HVA := Lib.hid hva
  clear hva
  go_enter Tryz.func151, Tryz.ntmps151
  go_upto_region 1 with (fail)
  rw [← HW0.out]
  have ht0 : Tn [mB, gm] W0 W0.drew := (Tn.refl _ _).drewN 1
  clear x0 x1 x2 x3
  refine wp_region_held_drew (S := fun w' => w'.cell? ⟨w.heap.size, 0, none⟩ = some (vi op) ∧ w'.cell? ⟨w.heap.size, 1, none⟩ = some (vi ia) ∧ w'.cell? ⟨w.heap.size, 2, none⟩ = some (vi ib) ∧ w'.cell? ⟨w.heap.size, 3, none⟩ = some (vi ic)) (by kernel_rfl) (KS.out _ ht0) (fun hHeld => ?_)
  refine tkH 0 ?_
  refine tkH 1 ?_
  refine tkH 2 ?_
  refine tkH 3 ?_
  refine tkH 6 ?_
  refine tkH 7 ?_
  refine tkH 8 ?_
  refine tkH 9 ?_
  refine stH 4 (fun K hK => ?_)
  go_simp
  refine (own_cell p hp2 ia hia _ (H0.out 1)).mono ?_
  rintro _ _ ⟨rfl, k1, rfl⟩
  have ht1 : Tn [mB, gm] W0 ((W0.drewN 1).drewN k1) := ((Tn.refl _ _).drewN _).drewN _
  refine hK.out _ _ (by (first | exact KS.out _ (by assumption) | (simp only [Act.put]; exact KS.out _ (by assumption)))) (fun hHeld => ?_)
  clear hK K
  (try simp only [Act.put, List.setIfInBounds_toArray, List.set_cons_zero, List.set_cons_succ])
  refine stH 5 (fun K hK => ?_)
  go_simp
  refine (look_no hp2 _ HVA.out _ (H0.out (1 + k1))).mono ?_
  rintro _ _ ⟨rfl, rfl⟩
  exact ⟨rfl, rfl, HB0.out.trans ((Tn.refl _ _).drewN (1 + k1))⟩
set_option maxHeartbeats 2000000 in
theorem compute_no2 (hp2 : p ≤ 2147483647) (op ia ib ic : Int) (hia : I64 ia) (hib : I64 ib) (va : Fin p) (hva : s.mem (s.fp + el p ia) = some va) (hvb : s.mem (s.fp + el p ib) = none) (w : World) (h : Mac w mB b gm n size AI L cI s 0 SV d) :
    Calls Tryz.prog 151 #[.pointer (some ⟨mB, 0, none⟩), .agg #[vi op, vi ia, vi ib, vi ic]] w fun e w' => e = .panicked (stopM 10) ∧ Tn [mB, gm] w w' := by
  have hb0 : Tn [mB, gm] w (w.alloc (.cells #[vi op, vi ia, vi ib, vi ic] 121)) := (Tn.refl _ _).alloc _
  have hB0 := Blk.new w 121 #[vi op, vi ia, vi ib, vi ic]
  have hmb := (h.blk.elim fun _ h => h.elim fun _ h => h.elim fun _ h => h.elim fun _ h => h.elim fun _ h => h.elim fun _ h => h.2.lt)
  have hgb := h.map.lt
  have h0 := h.tn ((Tn.refl [] w).alloc (.cells #[vi op, vi ia, vi ib, vi ic] 121)) (by simp) (by simp) (by simp)
  obtain ⟨W0, hW0⟩ : ∃ W0, W0 = w.alloc (.cells #[vi op, vi ia, vi ib, vi ic] 121) := ⟨_, rfl⟩
  rw [← hW0] at hb0 hB0 h0
  have KS := Lib.hid (fun W' (ht : Tn [mB, gm] W0 W') => show W'.cell? ⟨w.heap.size, 0, none⟩ = some (vi op) ∧ W'.cell? ⟨w.heap.size, 1, none⟩ = some (vi ia) ∧ W'.cell? ⟨w.heap.size, 2, none⟩ = some (vi ib) ∧ W'.cell? ⟨w.heap.size, 3, none⟩ = some (vi ic) from by
    have hB := hB0.tn ht (by simp; omega)
    exact ⟨(hB.cell 0).trans rfl, (hB.cell 1).trans rfl, (hB.cell 2).trans rfl, (hB.cell 3).trans rfl⟩)
  obtain ⟨x0, x1, x2, x3⟩ := KS.out W0 (Tn.refl _ _)
  have HW0 := Lib.hid hW0
  have HB0 := Lib.hid hb0
  have HMB := Lib.hid hmb
  have H0 := Lib.hid (fun k => h0.drewN k)
  clear hW0 hb0 hB0 h h0 hmb hgb
  have HVA := Lib.hid hva
  have HVB := Lib.hid hvb
  clear hva hvb
  go_enter Tryz.func151, Tryz.ntmps151
  go_upto_region 1 with (fail)
  rw [← HW0.out]
  have ht0 : Tn [mB, gm] W0 W0.drew := (Tn.refl _ _).drewN 1
  clear x0 x1 x2 x3
  refine wp_region_held_drew (S := fun w' => w'.cell? ⟨w.heap.size, 0, none⟩ = some (vi op) ∧ w'.cell? ⟨w.heap.size, 1, none⟩ = some (vi ia) ∧ w'.cell? ⟨w.heap.size, 2, none⟩ = some (vi ib) ∧ w'.cell? ⟨w.heap.size, 3, none⟩ = some (vi ic)) (by kernel_rfl) (KS.out _ ht0) (fun hHeld => ?_)
  refine tkH 0 ?_
  refine tkH 1 ?_
  refine tkH 2 ?_
  refine tkH 3 ?_
  refine tkH 6 ?_
  refine tkH 7 ?_
  refine tkH 8 ?_
  refine tkH 9 ?_
  refine stH 4 (fun K hK => ?_)
  go_simp
  refine (own_cell p hp2 ia hia _ (H0.out 1)).mono ?_
  rintro _ _ ⟨rfl, k1, rfl⟩
  have ht1 : Tn [mB, gm] W0 ((W0.drewN 1).drewN k1) := ((Tn.refl _ _).drewN _).drewN _
  refine hK.out _ _ (by (first | exact KS.out _ (by assumption) | (simp only [Act.put]; exact KS.out _ (by assumption)))) (fun hHeld => ?_)
  clear hK K
  (try simp only [Act.put, List.setIfInBounds_toArray, List.set_cons_zero, List.set_cons_succ])
  refine stH 5 (fun K hK => ?_)
  go_simp
  refine (look_yes hp2 _ va HVA.out (by omega) _ (H0.out (1 + k1))).mono ?_
  rintro _ w1 ⟨rfl, hM1, hT1⟩
  have ht2 : Tn [mB, gm] W0 w1 := ((Tn.refl _ _).drewN (1 + k1)).trans hT1
  have HM1 := Lib.hid hM1
  clear hM1 hT1
  refine hK.out _ _ (by (first | exact KS.out _ (by assumption) | (simp only [Act.put]; exact KS.out _ (by assumption)))) (fun hHeld => ?_)
  clear hK K
  (try simp only [Act.put, List.setIfInBounds_toArray, List.set_cons_zero, List.set_cons_succ])
  refine stH 10 (fun K hK => ?_)
  go_simp
  refine (own_cell p hp2 ib hib _ HM1.out).mono ?_
  rintro _ _ ⟨rfl, k2, rfl⟩
  have ht3 : Tn [mB, gm] W0 (w1.drewN k2) := ht2.drewN _
  refine hK.out _ _ (by (first | exact KS.out _ (by assumption) | (simp only [Act.put]; exact KS.out _ (by assumption)))) (fun hHeld => ?_)
  clear hK K
  (try simp only [Act.put, List.setIfInBounds_toArray, List.set_cons_zero, List.set_cons_succ])
  refine stH 11 (fun K hK => ?_)
  go_simp
  refine (look_no hp2 _ HVB.out _ (HM1.out.drewN k2)).mono ?_
  rintro _ _ ⟨rfl, rfl⟩
  exact ⟨rfl, rfl, HB0.out.trans ht3⟩
end
end Go.Proofs.YtpkhcncempoohaaGreatDoor

namespace Go.Proofs.YtpkhcncempoohaaGreatDoor
open Go.RowKit Zp
section
variable {p : Nat} [NeZero p] {mB b gm n : Nat} {size : Int} {AI : Option Addr} {L cI : Nat} {s : StM p} {u : Nat} {SV : Value} {d : Nat}
def ReM (w : World) (mB b p : Nat) (s : StM p) : Prop := w.cell? ⟨mB, 0, none⟩ = some (.pointer (some ⟨b, 0, none⟩)) ∧ w.cell? ⟨mB, 4, none⟩ = some (vi (fv s.pc)) ∧ w.cell? ⟨mB, 5, none⟩ = some (vi (fv s.fp)) ∧ w.cell? ⟨mB, 6, none⟩ = some (vi (fv s.ap)) ∧ w.cell? ⟨mB, 7, none⟩ = some (vi (fv s.rv)) ∧ w.cell? ⟨b, 0, none⟩ = some (vi p)
theorem Mac.re {w : World} (h : Mac w mB b gm n size AI L cI s u SV d) : ReM w mB b p s := ⟨h.c0, h.regs.1, h.regs.2.1, h.regs.2.2.1, h.regs.2.2.2, h.fld⟩
theorem Mac.set_pc {w : World} (h : Mac w mB b gm n size AI L cI s u SV d) (z : Fin p) : Mac (w.setCell ⟨mB, 4, none⟩ (vi (fv z))) mB b gm n size AI L cI { s with pc := z } u SV d :=
  h.lay { s with pc := z } SV d rfl (fun a0 a1 a2 i0 i1 i2 hB => hB.set_ 4 _) ((Tn.refl _ _).setCell (.inl (by simp)) _)
theorem Mac.set_fp {w : World} (h : Mac w mB b gm n size AI L cI s u SV d) (z : Fin p) : Mac (w.setCell ⟨mB, 5, none⟩ (vi (fv z))) mB b gm n size AI L cI { s with fp := z } u SV d :=
  h.lay { s with fp := z } SV d rfl (fun a0 a1 a2 i0 i1 i2 hB => hB.set_ 5 _) ((Tn.refl _ _).setCell (.inl (by simp)) _)
theorem Mac.set_ap {w : World} (h : Mac w mB b gm n size AI L cI s u SV d) (z : Fin p) : Mac (w.setCell ⟨mB, 6, none⟩ (vi (fv z))) mB b gm n size AI L cI { s with ap := z } u SV d :=
  h.lay { s with ap := z } SV d rfl (fun a0 a1 a2 i0 i1 i2 hB => hB.set_ 6 _) ((Tn.refl _ _).setCell (.inl (by simp)) _)
theorem Mac.set_rv {w : World} (h : Mac w mB b gm n size AI L cI s u SV d) (z : Fin p) : Mac (w.setCell ⟨mB, 7, none⟩ (vi (fv z))) mB b gm n size AI L cI { s with rv := z } u SV d :=
  h.lay { s with rv := z } SV d rfl (fun a0 a1 a2 i0 i1 i2 hB => hB.set_ 7 _) ((Tn.refl _ _).setCell (.inl (by simp)) _)
end
section
variable {p : Nat} [NeZero p] {mB b gm n : Nat} {size : Int} {AI : Option Addr} {L cI : Nat} {s : StM p} {SV : Value} {d : Nat}
set_option maxHeartbeats 4000000 in
theorem mcall_ok (hp1 : 2 ≤ p) (hp2 : p ≤ 2147483647) (op ia ib ic : Int) (hia : I64 ia) (hib : I64 ib) (m1 m2 : Fin p → Option (Fin p)) (h1 : tellM s.mem s.ap s.fp = some m1) (h2 : tellM m1 (s.ap + 1) (s.pc + 1) = some m2) (hn : n ≤ 999999) (w : World) (h : Mac w mB b gm n size AI L cI s 0 SV d) :
    Calls Tryz.prog 153 #[.pointer (some ⟨mB, 0, none⟩), .agg #[vi op, vi ia, vi ib, vi ic]] w fun e w' => e = .returned (.tuple #[]) ∧ Mac w' mB b gm (n + 2) size AI L cI { s with pc := el p ia, fp := s.ap + (1 + 1), ap := s.ap + (1 + 1) + el p ib, mem := m2 } 2 SV d ∧ Tn [mB, gm] w w' := by
  have hp0 : 0 < p := by omega
  have hb0 : Tn [mB, gm] w (w.alloc (.cells #[vi op, vi ia, vi ib, vi ic] 121)) := (Tn.refl _ _).alloc _
  have hB0 := Blk.new w 121 #[vi op, vi ia, vi ib, vi ic]
  have hmb := (h.blk.elim fun _ h => h.elim fun _ h => h.elim fun _ h => h.elim fun _ h => h.elim fun _ h => h.elim fun _ h => h.2.lt)
  have hgb := h.map.lt
  have h0 := h.tn ((Tn.refl [] w).alloc (.cells #[vi op, vi ia, vi ib, vi ic] 121)) (by simp) (by simp) (by simp)
  obtain ⟨W0, hW0⟩ : ∃ W0, W0 = w.alloc (.cells #[vi op, vi ia, vi ib, vi ic] 121) := ⟨_, rfl⟩
  rw [← hW0] at hb0 hB0 h0
  have KS := Lib.hid (fun W' (ht : Tn [mB, gm] W0 W') => show W'.cell? ⟨w.heap.size, 0, none⟩ = some (vi op) ∧ W'.cell? ⟨w.heap.size, 1, none⟩ = some (vi ia) ∧ W'.cell? ⟨w.heap.size, 2, none⟩ = some (vi ib) ∧ W'.cell? ⟨w.heap.size, 3, none⟩ = some (vi ic) from by
    have hB := hB0.tn ht (by simp; omega)
    exact ⟨(hB.cell 0).trans rfl, (hB.cell 1).trans rfl, (hB.cell 2).trans rfl, (hB.cell 3).trans rfl⟩)
  obtain ⟨x0, x1, x2, x3⟩ := KS.out W0 (Tn.refl _ _)
  have HW0 := Lib.hid hW0
  have HB0 := Lib.hid hb0
  have HMB := Lib.hid hmb
  have H0 := Lib.hid (fun k => h0.drewN k)
  clear hW0 hb0 hB0 h h0 hmb hgb
  have H1 := Lib.hid h1
  have H2 := Lib.hid h2
  have ifp := i64_fv s.fp hp2
  have iap := i64_fv s.ap hp2
  have ipc := i64_fv s.pc hp2
  clear h1 h2
  obtain ⟨c0, c4, c5, c6, c7, cb⟩ := (H0.out 0).re
  go_enter Tryz.func153, Tryz.ntmps153
  go_upto_region 1 with (fail)
  rw [← HW0.out]
  go_region_held3 (fun w' => w'.cell? ⟨mB, 5, none⟩ = some (vi (fv s.fp)) ∧ w'.cell? ⟨mB, 6, none⟩ = some (vi (fv s.ap))) (first | exact ⟨c5, c6⟩ | exact ⟨HM1.out.regs.2.1, HM1.out.regs.2.2.1⟩) ((go_at_call 152; refine (tell_ok hp2 _ _ m1 H1.out (by omega) (by omega) _ (H0.out 1)).mono ?_; rintro _ w1 ⟨rfl, hM1, hT1⟩; have HM1 := Lib.hid hM1; have HT1 := Lib.hid (((Tn.refl _ _).drewN 1).trans hT1 : Tn [mB, gm] W0 w1); clear hM1 hT1))
  clear c0 c4 c5 c6 c7 cb
  obtain ⟨c0, c4, c5, c6, c7, cb⟩ := HM1.out.re
  simp only at c4 c5 c6 c7
  go_wp2
  go_region_held3 (fun w' => w'.cell? ⟨mB, 0, none⟩ = some (.pointer (some ⟨b, 0, none⟩)) ∧ w'.cell? ⟨mB, 4, none⟩ = some (vi (fv s.pc)) ∧ w'.cell? ⟨mB, 6, none⟩ = some (vi (fv s.ap)) ∧ w'.cell? ⟨b, 0, none⟩ = some (vi p)) (first | exact ⟨c0, c4, c6, cb⟩ | exact ⟨HM2.out.c0, HM2.out.regs.1, HM2.out.regs.2.2.1, HM2.out.fld⟩) ((first | (go_at_call 98; refine (add_any p hp2 b _ _ (by assumption) (by constructor <;> omega) _ (by exact cb)).mono ?_; rintro _ _ ⟨rfl, k2, rfl⟩) | (go_at_call 152; refine (tell_ok hp2 _ _ m2 (by simp only [el_fv, el_one]; exact H2.out) (by omega) (by omega) _ (HM1.out.drewN _)).mono ?_; rintro _ w2 ⟨rfl, hM2, hT2⟩; have HM2 := Lib.hid hM2; have HT2 := Lib.hid (HT1.out.trans (((Tn.refl _ _).drewN _).trans hT2) : Tn [mB, gm] W0 w2); clear hM2 hT2)))
  clear c0 c4 c5 c6 c7 cb
  obtain ⟨c0, c4, c5, c6, c7, cb⟩ := HM2.out.re
  simp only at c4 c5 c6 c7
  have f5 := HM2.out.thaw 5
  go_wp2
  go_region_held3 (fun w' => w'.cell? ⟨mB, 0, none⟩ = some (.pointer (some ⟨b, 0, none⟩)) ∧ w'.cell? ⟨mB, 6, none⟩ = some (vi (fv s.ap)) ∧ w'.cell? ⟨b, 0, none⟩ = some (vi p) ∧ ¬ mB = b) (first | exact ⟨c0, c6, cb, Ne.symm HM2.out.bne.1⟩ | (refine ⟨?_, ?_, ?_, Ne.symm HM2.out.bne.1⟩ <;> go_simp)) ((go_at_call 98; refine (add_any p hp2 b _ _ (by assumption) (by constructor <;> omega) _ (by exact cb)).mono ?_; rintro _ _ ⟨rfl, k3, rfl⟩))
  obtain ⟨w3, hw3⟩ : ∃ w3, w3 = (w2.drewN (1 + k3)).setCell ⟨mB, 5, none⟩ (vi (fv (el p (fv s.ap) + el p 2))) := ⟨_, rfl⟩
  rw [← hw3]
  have hM3 := (HM2.out.drewN (1 + k3)).set_fp (el p (fv s.ap) + el p 2)
  have hT3 := (HT2.out.drewN (1 + k3)).setCell (q := ⟨mB, 5, none⟩) (.inl (by simp)) (vi (fv (el p (fv s.ap) + el p 2)))
  rw [← hw3] at hM3 hT3
  rw [show el p (fv s.ap) + el p 2 = s.ap + (1 + 1) by rw [el_fv, el_two]] at hM3
  have HM3 := Lib.hid hM3
  have HT3 := Lib.hid hT3
  clear hw3 hM3 hT3 c0 c4 c5 c6 c7 cb f5 x0 x1 x2 x3
  obtain ⟨c0, c4, c5, c6, c7, cb⟩ := HM3.out.re
  simp only at c4 c5 c6 c7
  obtain ⟨x0, x1, x2, x3⟩ := KS.out _ HT3.out
  have f4 := HM3.out.thaw 4
  have f6 := HM3.out.thaw 6
  have ifp3 := i64_fv (s.ap + (1 + 1)) hp2
  have hne : ¬ mB = w.heap.size := by have := HMB.out; omega
  go_wp2
  go_region_held3 (fun w' => w'.cell? ⟨mB, 0, none⟩ = some (.pointer (some ⟨b, 0, none⟩)) ∧ w'.cell? ⟨mB, 5, none⟩ = some (vi (fv (s.ap + (1 + 1)))) ∧ w'.cell? ⟨b, 0, none⟩ = some (vi p) ∧ w'.cell? ⟨w.heap.size, 1, none⟩ = some (vi ia) ∧ w'.cell? ⟨w.heap.size, 2, none⟩ = some (vi ib) ∧ ¬ mB = b ∧ ¬ mB = w.heap.size) (first | exact ⟨c0, c5, cb, x1, x2, Ne.symm HM2.out.bne.1, hne⟩ | (refine ⟨?_, ?_, ?_, ?_, ?_, Ne.symm HM2.out.bne.1, hne⟩ <;> go_simp)) ((first | (go_at_call 98; refine (add_any p hp2 b _ _ (by assumption) (by assumption) _ (by exact cb)).mono ?_; rintro _ _ ⟨rfl, k4, rfl⟩) | (go_at_call 25; refine (of_el p hp2 b _ (by assumption) _ (by exact cb)).mono ?_; rintro _ _ ⟨rfl, rfl⟩)))
  have hM4 := ((HM3.out.drewN (1 + k4)).set_ap (el p (fv (s.ap + (1 + 1))) + el p ib)).set_pc (el p ia)
  have hT4 := ((HT3.out.drewN (1 + k4)).setCell (q := ⟨mB, 6, none⟩) (.inl (by simp)) (vi (fv (el p (fv (s.ap + (1 + 1))) + el p ib)))).setCell (q := ⟨mB, 4, none⟩) (.inl (by simp)) (vi (fv (el p ia)))
  go_end0
  refine ⟨rfl, ?_, HB0.out.trans hT4⟩
  simp only [el_fv] at hM4 ⊢
  exact hM4
end
end Go.Proofs.YtpkhcncempoohaaGreatDoor

namespace Go.Proofs.YtpkhcncempoohaaGreatDoor
open Go.RowKit Zp
section
variable {p : Nat} [NeZero p] {mB b gm n : Nat} {size : Int} {AI : Option Addr} {L cI : Nat} {s : StM p} {SV : Value} {d : Nat}
theorem fp_back (x : Fin p) : x + el p (-2) = x - (1 + 1) ∧ x + el p (-1) = x - 1 := by
  constructor
  · rw [show (-2 : Int) = 0 - 2 from rfl, el_sub, el_zero, el_two]; grind
  · rw [show (-1 : Int) = 0 - 1 from rfl, el_sub, el_zero, el_one]; grind
set_option maxHeartbeats 2000000 in
theorem mback_no1 (hp2 : p ≤ 2147483647) (op ia ib ic : Int) (hia : I64 ia) (hno : s.mem (s.fp - (1 + 1)) = none) (w : World) (h : Mac w mB b gm n size AI L cI s 0 SV d) :
    Calls Tryz.prog 154 #[.pointer (some ⟨mB, 0, none⟩), .agg #[vi op, vi ia, vi ib, vi ic]] w fun e w' => e = .panicked (stopM 10) ∧ Tn [mB, gm] w w' := by
  have hb0 : Tn [mB, gm] w (w.alloc (.cells #[vi op, vi ia, vi ib, vi ic] 121)) := (Tn.refl _ _).alloc _
  have hB0 := Blk.new w 121 #[vi op, vi ia, vi ib, vi ic]
  have hmb := (h.blk.elim fun _ h => h.elim fun _ h => h.elim fun _ h => h.elim fun _ h => h.elim fun _ h => h.elim fun _ h => h.2.lt)
  have hgb := h.map.lt
  have h0 := h.tn ((Tn.refl [] w).alloc (.cells #[vi op, vi ia, vi ib, vi ic] 121)) (by simp) (by simp) (by simp)
  obtain ⟨W0, hW0⟩ : ∃ W0, W0 = w.alloc (.cells #[vi op, vi ia, vi ib, vi ic] 121) := ⟨_, rfl⟩
  rw [← hW0] at hb0 hB0 h0
  have KS := Lib.hid (fun W' (ht : Tn [mB, gm] W0 W') => show W'.cell? ⟨w.heap.size, 0, none⟩ = some (vi op) ∧ W'.cell? ⟨w.heap.size, 1, none⟩ = some (vi ia) ∧ W'.cell? ⟨w.heap.size, 2, none⟩ = some (vi ib) ∧ W'.cell? ⟨w.heap.size, 3, none⟩ = some (vi ic) from by
    have hB := hB0.tn ht (by simp; omega)
    exact ⟨(hB.cell 0).trans rfl, (hB.cell 1).trans rfl, (hB.cell 2).trans rfl, (hB.cell 3).trans rfl⟩)
  obtain ⟨x0, x1, x2, x3⟩ := KS.out W0 (Tn.refl _ _)
  have HW0 := Lib.hid hW0
  have HB0 := Lib.hid hb0
  have HMB := Lib.hid hmb
  have H0 := Lib.hid (fun k => h0.drewN k)
  clear hW0 hb0 hB0 h h0 hmb hgb
  have HNO := Lib.hid hno
  clear hno
  have iia := hia
  have i1 : I64 (-1) := by constructor <;> omega
  have i2 : I64 (-2) := by constructor <;> omega
  clear x0 x2 x3
  go_enter Tryz.func154, Tryz.ntmps154
  go_upto_region 1 with (fail)
  rw [← HW0.out]
  go_wp2_with fail
  refine (own_cell p hp2 _ i2 _ (H0.out 0)).mono ?_
  rintro _ _ ⟨rfl, k1, rfl⟩
  rw [(fp_back s.fp).1]
  go_wp2_with fail
  refine (look_no hp2 _ HNO.out _ (by first | exact H0.out _ | exact HM1.out.drewN _ | exact HM2.out.drewN _)).mono ?_
  rintro _ _ ⟨rfl, rfl⟩
  first | exact ⟨rfl, rfl, HB0.out.trans ((Tn.refl _ _).drewN _)⟩ | exact ⟨rfl, rfl, HB0.out.trans (HT1.out.drewN _)⟩ | exact ⟨rfl, rfl, HB0.out.trans (HT2.out.drewN _)⟩
set_option maxHeartbeats 2000000 in
theorem mback_no2 (hp2 : p ≤ 2147483647) (op ia ib ic : Int) (hia : I64 ia) (f : Fin p) (hf : s.mem (s.fp - (1 + 1)) = some f) (hno : s.mem (s.fp - 1) = none) (w : World) (h : Mac w mB b gm n size AI L cI s 0 SV d) :
    Calls Tryz.prog 154 #[.pointer (some ⟨mB, 0, none⟩), .agg #[vi op, vi ia, vi ib, vi ic]] w fun e w' => e = .panicked (stopM 10) ∧ Tn [mB, gm] w w' := by
  have hb0 : Tn [mB, gm] w (w.alloc (.cells #[vi op, vi ia, vi ib, vi ic] 121)) := (Tn.refl _ _).alloc _
  have hB0 := Blk.new w 121 #[vi op, vi ia, vi ib, vi ic]
  have hmb := (h.blk.elim fun _ h => h.elim fun _ h => h.elim fun _ h => h.elim fun _ h => h.elim fun _ h => h.elim fun _ h => h.2.lt)
  have hgb := h.map.lt
  have h0 := h.tn ((Tn.refl [] w).alloc (.cells #[vi op, vi ia, vi ib, vi ic] 121)) (by simp) (by simp) (by simp)
  obtain ⟨W0, hW0⟩ : ∃ W0, W0 = w.alloc (.cells #[vi op, vi ia, vi ib, vi ic] 121) := ⟨_, rfl⟩
  rw [← hW0] at hb0 hB0 h0
  have KS := Lib.hid (fun W' (ht : Tn [mB, gm] W0 W') => show W'.cell? ⟨w.heap.size, 0, none⟩ = some (vi op) ∧ W'.cell? ⟨w.heap.size, 1, none⟩ = some (vi ia) ∧ W'.cell? ⟨w.heap.size, 2, none⟩ = some (vi ib) ∧ W'.cell? ⟨w.heap.size, 3, none⟩ = some (vi ic) from by
    have hB := hB0.tn ht (by simp; omega)
    exact ⟨(hB.cell 0).trans rfl, (hB.cell 1).trans rfl, (hB.cell 2).trans rfl, (hB.cell 3).trans rfl⟩)
  obtain ⟨x0, x1, x2, x3⟩ := KS.out W0 (Tn.refl _ _)
  have HW0 := Lib.hid hW0
  have HB0 := Lib.hid hb0
  have HMB := Lib.hid hmb
  have H0 := Lib.hid (fun k => h0.drewN k)
  clear hW0 hb0 hB0 h h0 hmb hgb
  have HNO := Lib.hid hno
  have HF := Lib.hid hf
  clear hno hf
  have iia := hia
  have i1 : I64 (-1) := by constructor <;> omega
  have i2 : I64 (-2) := by constructor <;> omega
  clear x0 x2 x3
  go_enter Tryz.func154, Tryz.ntmps154
  go_upto_region 1 with (fail)
  rw [← HW0.out]
  go_wp2_with fail
  refine (own_cell p hp2 _ i2 _ (H0.out 0)).mono ?_
  rintro _ _ ⟨rfl, k1, rfl⟩
  rw [(fp_back s.fp).1]
  go_wp2_with fail
  refine (look_yes hp2 _ f HF.out (by omega) _ (H0.out _)).mono ?_
  rintro _ w1 ⟨rfl, hM1, hT1⟩
  have HM1 := Lib.hid hM1
  have HT1 := Lib.hid (((Tn.refl _ _).drewN _).trans hT1 : Tn [mB, gm] W0 w1)
  clear hM1 hT1
  go_wp2_with fail
  refine (own_cell p hp2 _ i1 _ HM1.out).mono ?_
  rintro _ _ ⟨rfl, k2, rfl⟩
  rw [(fp_back s.fp).2]
  go_wp2_with fail
  refine (look_no hp2 _ HNO.out _ (by first | exact H0.out _ | exact HM1.out.drewN _ | exact HM2.out.drewN _)).mono ?_
  rintro _ _ ⟨rfl, rfl⟩
  first | exact ⟨rfl, rfl, HB0.out.trans ((Tn.refl _ _).drewN _)⟩ | exact ⟨rfl, rfl, HB0.out.trans (HT1.out.drewN _)⟩ | exact ⟨rfl, rfl, HB0.out.trans (HT2.out.drewN _)⟩
set_option maxHeartbeats 2000000 in
theorem mback_no3 (hp2 : p ≤ 2147483647) (op ia ib ic : Int) (hia : I64 ia) (f c : Fin p) (hf : s.mem (s.fp - (1 + 1)) = some f) (hc : s.mem (s.fp - 1) = some c) (hno : s.mem (s.fp + el p ia) = none) (w : World) (h : Mac w mB b gm n size AI L cI s 0 SV d) :
    Calls Tryz.prog 154 #[.pointer (some ⟨mB, 0, none⟩), .agg #[vi op, vi ia, vi ib, vi ic]] w fun e w' => e = .panicked (stopM 10) ∧ Tn [mB, gm] w w' := by
  have hb0 : Tn [mB, gm] w (w.alloc (.cells #[vi op, vi ia, vi ib, vi ic] 121)) := (Tn.refl _ _).alloc _
  have hB0 := Blk.new w 121 #[vi op, vi ia, vi ib, vi ic]
  have hmb := (h.blk.elim fun _ h => h.elim fun _ h => h.elim fun _ h => h.elim fun _ h => h.elim fun _ h => h.elim fun _ h => h.2.lt)
  have hgb := h.map.lt
  have h0 := h.tn ((Tn.refl [] w).alloc (.cells #[vi op, vi ia, vi ib, vi ic] 121)) (by simp) (by simp) (by simp)
  obtain ⟨W0, hW0⟩ : ∃ W0, W0 = w.alloc (.cells #[vi op, vi ia, vi ib, vi ic] 121) := ⟨_, rfl⟩
  rw [← hW0] at hb0 hB0 h0
  have KS := Lib.hid (fun W' (ht : Tn [mB, gm] W0 W') => show W'.cell? ⟨w.heap.size, 0, none⟩ = some (vi op) ∧ W'.cell? ⟨w.heap.size, 1, none⟩ = some (vi ia) ∧ W'.cell? ⟨w.heap.size, 2, none⟩ = some (vi ib) ∧ W'.cell? ⟨w.heap.size, 3, none⟩ = some (vi ic) from by
    have hB := hB0.tn ht (by simp; omega)
    exact ⟨(hB.cell 0).trans rfl, (hB.cell 1).trans rfl, (hB.cell 2).trans rfl, (hB.cell 3).trans rfl⟩)
  obtain ⟨x0, x1, x2, x3⟩ := KS.out W0 (Tn.refl _ _)
  have HW0 := Lib.hid hW0
  have HB0 := Lib.hid hb0
  have HMB := Lib.hid hmb
  have H0 := Lib.hid (fun k => h0.drewN k)
  clear hW0 hb0 hB0 h h0 hmb hgb
  have HNO := Lib.hid hno
  have HF := Lib.hid hf
  have HC := Lib.hid hc
  clear hno hf hc
  have iia := hia
  have i1 : I64 (-1) := by constructor <;> omega
  have i2 : I64 (-2) := by constructor <;> omega
  clear x0 x2 x3
  go_enter Tryz.func154, Tryz.ntmps154
  go_upto_region 1 with (fail)
  rw [← HW0.out]
  go_wp2_with fail
  refine (own_cell p hp2 _ i2 _ (H0.out 0)).mono ?_
  rintro _ _ ⟨rfl, k1, rfl⟩
  rw [(fp_back s.fp).1]
  go_wp2_with fail
  refine (look_yes hp2 _ f HF.out (by omega) _ (H0.out _)).mono ?_
  rintro _ w1 ⟨rfl, hM1, hT1⟩
  have HM1 := Lib.hid hM1
  have HT1 := Lib.hid (((Tn.refl _ _).drewN _).trans hT1 : Tn [mB, gm] W0 w1)
  clear hM1 hT1
  go_wp2_with fail
  refine (own_cell p hp2 _ i1 _ HM1.out).mono ?_
  rintro _ _ ⟨rfl, k2, rfl⟩
  rw [(fp_back s.fp).2]
  go_wp2_with fail
  refine (look_yes hp2 _ c HC.out (by omega) _ (HM1.out.drewN _)).mono ?_
  rintro _ w2 ⟨rfl, hM2, hT2⟩
  have HM2 := Lib.hid hM2
  have HT2 := Lib.hid (HT1.out.trans (((Tn.refl _ _).drewN _).trans hT2))
  clear hM2 hT2
  obtain ⟨_, x1, _, _⟩ := KS.out _ HT2.out
  go_wp2_with fail
  refine (own_cell p hp2 _ iia _ HM2.out).mono ?_
  rintro _ _ ⟨rfl, k3, rfl⟩
  go_wp2_with fail
  refine (look_no hp2 _ HNO.out _ (by first | exact H0.out _ | exact HM1.out.drewN _ | exact HM2.out.drewN _)).mono ?_
  rintro _ _ ⟨rfl, rfl⟩
  first | exact ⟨rfl, rfl, HB0.out.trans ((Tn.refl _ _).drewN _)⟩ | exact ⟨rfl, rfl, HB0.out.trans (HT1.out.drewN _)⟩ | exact ⟨rfl, rfl, HB0.out.trans (HT2.out.drewN _)⟩
set_option maxHeartbeats 2000000 in
theorem mback_ok (hp2 : p ≤ 2147483647) (op ia ib ic : Int) (hia : I64 ia) (f c v : Fin p) (hf : s.mem (s.fp - (1 + 1)) = some f) (hc : s.mem (s.fp - 1) = some c) (hv : s.mem (s.fp + el p ia) = some v) (w : World) (h : Mac w mB b gm n size AI L cI s 0 SV d) :
    Calls Tryz.prog 154 #[.pointer (some ⟨mB, 0, none⟩), .agg #[vi op, vi ia, vi ib, vi ic]] w fun e w' => e = .returned (.tuple #[]) ∧ Mac w' mB b gm n size AI L cI { s with pc := c, fp := f, rv := v } 3 SV d ∧ Tn [mB, gm] w w' := by
  have hb0 : Tn [mB, gm] w (w.alloc (.cells #[vi op, vi ia, vi ib, vi ic] 121)) := (Tn.refl _ _).alloc _
  have hB0 := Blk.new w 121 #[vi op, vi ia, vi ib, vi ic]
  have hmb := (h.blk.elim fun _ h => h.elim fun _ h => h.elim fun _ h => h.elim fun _ h => h.elim fun _ h => h.elim fun _ h => h.2.lt)
  have hgb := h.map.lt
  have h0 := h.tn ((Tn.refl [] w).alloc (.cells #[vi op, vi ia, vi ib, vi ic] 121)) (by simp) (by simp) (by simp)
  obtain ⟨W0, hW0⟩ : ∃ W0, W0 = w.alloc (.cells #[vi op, vi ia, vi ib, vi ic] 121) := ⟨_, rfl⟩
  rw [← hW0] at hb0 hB0 h0
  have KS := Lib.hid (fun W' (ht : Tn [mB, gm] W0 W') => show W'.cell? ⟨w.heap.size, 0, none⟩ = some (vi op) ∧ W'.cell? ⟨w.heap.size, 1, none⟩ = some (vi ia) ∧ W'.cell? ⟨w.heap.size, 2, none⟩ = some (vi ib) ∧ W'.cell? ⟨w.heap.size, 3, none⟩ = some (vi ic) from by
    have hB := hB0.tn ht (by simp; omega)
    exact ⟨(hB.cell 0).trans rfl, (hB.cell 1).trans rfl, (hB.cell 2).trans rfl, (hB.cell 3).trans rfl⟩)
  obtain ⟨x0, x1, x2, x3⟩ := KS.out W0 (Tn.refl _ _)
  have HW0 := Lib.hid hW0
  have HB0 := Lib.hid hb0
  have HMB := Lib.hid hmb
  have H0 := Lib.hid (fun k => h0.drewN k)
  clear hW0 hb0 hB0 h h0 hmb hgb
  have HV := Lib.hid hv
  have HF := Lib.hid hf
  have HC := Lib.hid hc
  clear hv hf hc
  have iia := hia
  have i1 : I64 (-1) := by constructor <;> omega
  have i2 : I64 (-2) := by constructor <;> omega
  clear x0 x2 x3
  go_enter Tryz.func154, Tryz.ntmps154
  go_upto_region 1 with (fail)
  rw [← HW0.out]
  go_wp2_with fail
  refine (own_cell p hp2 _ i2 _ (H0.out 0)).mono ?_
  rintro _ _ ⟨rfl, k1, rfl⟩
  rw [(fp_back s.fp).1]
  go_wp2_with fail
  refine (look_yes hp2 _ f HF.out (by omega) _ (H0.out _)).mono ?_
  rintro _ w1 ⟨rfl, hM1, hT1⟩
  have HM1 := Lib.hid hM1
  have HT1 := Lib.hid (((Tn.refl _ _).drewN _).trans hT1 : Tn [mB, gm] W0 w1)
  clear hM1 hT1
  go_wp2_with fail
  refine (own_cell p hp2 _ i1 _ HM1.out).mono ?_
  rintro _ _ ⟨rfl, k2, rfl⟩
  rw [(fp_back s.fp).2]
  go_wp2_with fail
  refine (look_yes hp2 _ c HC.out (by omega) _ (HM1.out.drewN _)).mono ?_
  rintro _ w2 ⟨rfl, hM2, hT2⟩
  have HM2 := Lib.hid hM2
  have HT2 := Lib.hid (HT1.out.trans (((Tn.refl _ _).drewN _).trans hT2))
  clear hM2 hT2
  obtain ⟨_, x1, _, _⟩ := KS.out _ HT2.out
  go_wp2_with fail
  refine (own_cell p hp2 _ iia _ HM2.out).mono ?_
  rintro _ _ ⟨rfl, k3, rfl⟩
  go_wp2_with fail
  refine (look_yes hp2 _ v HV.out (by omega) _ (HM2.out.drewN _)).mono ?_
  rintro _ w3 ⟨rfl, hM3, hT3⟩
  have HM3 := Lib.hid hM3
  have HT3 := Lib.hid (HT2.out.trans (((Tn.refl _ _).drewN _).trans hT3))
  clear hM3 hT3
  obtain ⟨c0, c4, c5, c6, c7, cb⟩ := HM3.out.re
  have f4 := HM3.out.thaw 4
  have f5 := HM3.out.thaw 5
  have f7 := HM3.out.thaw 7
  go_wp2
  have hM4 := ((HM3.out.set_rv v).set_fp f).set_pc c
  have hT4 := ((HT3.out.setCell (q := ⟨mB, 7, none⟩) (.inl (by simp)) (vi (fv v))).setCell (q := ⟨mB, 5, none⟩) (.inl (by simp)) (vi (fv f))).setCell (q := ⟨mB, 4, none⟩) (.inl (by simp)) (vi (fv c))
  go_end0
  exact ⟨rfl, hM4, HB0.out.trans hT4⟩
end
end Go.Proofs.YtpkhcncempoohaaGreatDoor

namespace Go.Proofs.YtpkhcncempoohaaGreatDoor
open Go.RowKit Zp
section
variable {p : Nat} [NeZero p] {mB b gm n : Nat} {size : Int} {AI : Option Addr} {L cI : Nat} {s : StM p} {SV : Value} {d : Nat}
def StepOk (mB b gm n : Nat) (size : Int) (AI : Option Addr) (L cI : Nat) (s' : StM p) (SV : Value) (d : Nat) (w : World) (e : Ending) (w' : World) : Prop := e = .returned (.tuple #[]) ∧ (∃ n' u', n' ≤ n + 2 ∧ u' ≤ 3 ∧ Mac w' mB b gm n' size AI L cI s' u' SV d) ∧ Tn [mB, gm] w w'
def StepNo (mB gm : Nat) (w : World) (e : Ending) (w' : World) : Prop := e = .panicked (stopM 10) ∧ Tn [mB, gm] w w'
set_option maxHeartbeats 4000000 in
theorem one_comp (hp2 : p ≤ 2147483647) (op ia ib ic : Int) (ho : op = 1 ∨ op = 2 ∨ op = 3 ∨ op = 4 ∨ op = 6) (m' : Fin p → Option (Fin p)) (w : World) (h : Mac w mB b gm n size AI L cI s 0 SV d)
    (hC : ∀ W, Mac W mB b gm n size AI L cI s 0 SV d → Calls Tryz.prog 151 #[.pointer (some ⟨mB, 0, none⟩), .agg #[vi op, vi ia, vi ib, vi ic]] W fun e w' => e = .returned (.tuple #[]) ∧ Mac w' mB b gm (n + 1) size AI L cI { s with mem := m' } 3 SV d ∧ Tn [mB, gm] W w') :
    Calls Tryz.prog 107 #[.pointer (some ⟨mB, 0, none⟩), .agg #[vi op, vi ia, vi ib, vi ic]] w (StepOk mB b gm n size AI L cI { s with pc := s.pc + 1, mem := m' } SV d w) := by
  have hb0 : Tn [mB, gm] w (w.alloc (.cells #[vi op, vi ia, vi ib, vi ic] 121)) := (Tn.refl _ _).alloc _
  have hB0 := Blk.new w 121 #[vi op, vi ia, vi ib, vi ic]
  have hmb := (h.blk.elim fun _ h => h.elim fun _ h => h.elim fun _ h => h.elim fun _ h => h.elim fun _ h => h.elim fun _ h => h.2.lt)
  have hgb := h.map.lt
  have h0 := h.tn ((Tn.refl [] w).alloc (.cells #[vi op, vi ia, vi ib, vi ic] 121)) (by simp) (by simp) (by simp)
  obtain ⟨W0, hW0⟩ : ∃ W0, W0 = w.alloc (.cells #[vi op, vi ia, vi ib, vi ic] 121) := ⟨_, rfl⟩
  rw [← hW0] at hb0 hB0 h0
  have KS := Lib.hid (fun W' (ht : Tn [mB, gm] W0 W') => show W'.cell? ⟨w.heap.size, 0, none⟩ = some (vi op) ∧ W'.cell? ⟨w.heap.size, 1, none⟩ = some (vi ia) ∧ W'.cell? ⟨w.heap.size, 2, none⟩ = some (vi ib) ∧ W'.cell? ⟨w.heap.size, 3, none⟩ = some (vi ic) from by
    have hB := hB0.tn ht (by simp; omega)
    exact ⟨(hB.cell 0).trans rfl, (hB.cell 1).trans rfl, (hB.cell 2).trans rfl, (hB.cell 3).trans rfl⟩)
  obtain ⟨x0, x1, x2, x3⟩ := KS.out W0 (Tn.refl _ _)
  have HW0 := Lib.hid hW0
  have HB0 := Lib.hid hb0
  have HMB := Lib.hid hmb
  have H0 := Lib.hid (fun k => h0.drewN k)
  clear hW0 hb0 hB0 h h0 hmb hgb
  have HC := Lib.hid hC
  clear hC
  obtain ⟨c0, c4, _, _, _, cb⟩ := (H0.out 0).re
  have ipc := i64_fv s.pc hp2
  go_enter Tryz.func107, Tryz.ntmps107
  go_upto_region 1 with (fail)
  rw [← HW0.out]
  go_region_held3 (fun w' => w'.cell? ⟨mB, 0, none⟩ = some (.pointer (some ⟨b, 0, none⟩)) ∧ w'.cell? ⟨mB, 4, none⟩ = some (vi (fv s.pc)) ∧ w'.cell? ⟨b, 0, none⟩ = some (vi p)) (exact ⟨c0, c4, cb⟩) ((go_at_call 98; refine (add_any p hp2 b _ _ (by assumption) (by constructor <;> omega) _ (by exact cb)).mono ?_; rintro _ _ ⟨rfl, k0, rfl⟩))
  rw [show el p (fv s.pc) + el p 1 = s.pc + 1 by rw [el_fv, el_one]]
  rcases ho with rfl | rfl | rfl | rfl | rfl
  all_goals
    go_wp2_with fail
    refine (HC.out _ (H0.out _)).mono ?_
    rintro _ w5 ⟨rfl, hM, hT⟩
    have HM := Lib.hid hM
    have HT := Lib.hid hT
    clear hM hT
    have f4 := HM.out.thaw 4
    have g4 := HM.out.regs.1
    go_wp2
    go_end0
    exact ⟨rfl, ⟨_, _, by omega, Nat.le_refl _, HM.out.set_pc _⟩, HB0.out.trans ((((Tn.refl _ _).drewN _).trans HT.out).setCell (.inl (by simp)) _)⟩
set_option maxHeartbeats 4000000 in
theorem one_comp_no (hp2 : p ≤ 2147483647) (op ia ib ic : Int) (ho : op = 1 ∨ op = 2 ∨ op = 3 ∨ op = 4 ∨ op = 6) (w : World) (h : Mac w mB b gm n size AI L cI s 0 SV d)
    (hC : ∀ W, Mac W mB b gm n size AI L cI s 0 SV d → Calls Tryz.prog 151 #[.pointer (some ⟨mB, 0, none⟩), .agg #[vi op, vi ia, vi ib, vi ic]] W fun e w' => e = .panicked (stopM 10) ∧ Tn [mB, gm] W w') :
    Calls Tryz.prog 107 #[.pointer (some ⟨mB, 0, none⟩), .agg #[vi op, vi ia, vi ib, vi ic]] w (StepNo mB gm w) := by
  have hb0 : Tn [mB, gm] w (w.alloc (.cells #[vi op, vi ia, vi ib, vi ic] 121)) := (Tn.refl _ _).alloc _
  have hB0 := Blk.new w 121 #[vi op, vi ia, vi ib, vi ic]
  have hmb := (h.blk.elim fun _ h => h.elim fun _ h => h.elim fun _ h => h.elim fun _ h => h.elim fun _ h => h.elim fun _ h => h.2.lt)
  have hgb := h.map.lt
  have h0 := h.tn ((Tn.refl [] w).alloc (.cells #[vi op, vi ia, vi ib, vi ic] 121)) (by simp) (by simp) (by simp)
  obtain ⟨W0, hW0⟩ : ∃ W0, W0 = w.alloc (.cells #[vi op, vi ia, vi ib, vi ic] 121) := ⟨_, rfl⟩
  rw [← hW0] at hb0 hB0 h0
  have KS := Lib.hid (fun W' (ht : Tn [mB, gm] W0 W') => show W'.cell? ⟨w.heap.size, 0, none⟩ = some (vi op) ∧ W'.cell? ⟨w.heap.size, 1, none⟩ = some (vi ia) ∧ W'.cell? ⟨w.heap.size, 2, none⟩ = some (vi ib) ∧ W'.cell? ⟨w.heap.size, 3, none⟩ = some (vi ic) from by
    have hB := hB0.tn ht (by simp; omega)
    exact ⟨(hB.cell 0).trans rfl, (hB.cell 1).trans rfl, (hB.cell 2).trans rfl, (hB.cell 3).trans rfl⟩)
  obtain ⟨x0, x1, x2, x3⟩ := KS.out W0 (Tn.refl _ _)
  have HW0 := Lib.hid hW0
  have HB0 := Lib.hid hb0
  have HMB := Lib.hid hmb
  have H0 := Lib.hid (fun k => h0.drewN k)
  clear hW0 hb0 hB0 h h0 hmb hgb
  have HC := Lib.hid hC
  clear hC
  obtain ⟨c0, c4, _, _, _, cb⟩ := (H0.out 0).re
  have ipc := i64_fv s.pc hp2
  go_enter Tryz.func107, Tryz.ntmps107
  go_upto_region 1 with (fail)
  rw [← HW0.out]
  go_region_held3 (fun w' => w'.cell? ⟨mB, 0, none⟩ = some (.pointer (some ⟨b, 0, none⟩)) ∧ w'.cell? ⟨mB, 4, none⟩ = some (vi (fv s.pc)) ∧ w'.cell? ⟨b, 0, none⟩ = some (vi p)) (exact ⟨c0, c4, cb⟩) ((go_at_call 98; refine (add_any p hp2 b _ _ (by assumption) (by constructor <;> omega) _ (by exact cb)).mono ?_; rintro _ _ ⟨rfl, k0, rfl⟩))
  rw [show el p (fv s.pc) + el p 1 = s.pc + 1 by rw [el_fv, el_one]]
  rcases ho with rfl | rfl | rfl | rfl | rfl
  all_goals
    go_wp2_with fail
    refine (HC.out _ (H0.out _)).mono ?_
    rintro _ w5 ⟨rfl, hT⟩
    exact ⟨rfl, rfl, HB0.out.trans (((Tn.refl _ _).drewN _).trans hT)⟩
end
end Go.Proofs.YtpkhcncempoohaaGreatDoor

namespace Go.Proofs.YtpkhcncempoohaaGreatDoor
open Go.RowKit Zp
section
variable {p : Nat} [NeZero p] {mB b gm n : Nat} {size : Int} {AI : Option Addr} {L cI : Nat} {s : StM p} {SV : Value} {d : Nat}
set_option maxHeartbeats 4000000 in
theorem one_set (hp2 : p ≤ 2147483647) (ia ib ic : Int) (hia : I64 ia) (hib : I64 ib) (m' : Fin p → Option (Fin p)) (hm : tellM s.mem (s.fp + el p ia) (el p ib) = some m') (hn : n ≤ 999999) (w : World) (h : Mac w mB b gm n size AI L cI s 0 SV d) :
    Calls Tryz.prog 107 #[.pointer (some ⟨mB, 0, none⟩), .agg #[vi 5, vi ia, vi ib, vi ic]] w (StepOk mB b gm n size AI L cI { s with pc := s.pc + 1, mem := m' } SV d w) := by
  obtain ⟨op, hop⟩ : ∃ op : Int, op = 5 := ⟨_, rfl⟩
  rw [← hop]
  have hb0 : Tn [mB, gm] w (w.alloc (.cells #[vi op, vi ia, vi ib, vi ic] 121)) := (Tn.refl _ _).alloc _
  have hB0 := Blk.new w 121 #[vi op, vi ia, vi ib, vi ic]
  have hmb := (h.blk.elim fun _ h => h.elim fun _ h => h.elim fun _ h => h.elim fun _ h => h.elim fun _ h => h.elim fun _ h => h.2.lt)
  have hgb := h.map.lt
  have h0 := h.tn ((Tn.refl [] w).alloc (.cells #[vi op, vi ia, vi ib, vi ic] 121)) (by simp) (by simp) (by simp)
  obtain ⟨W0, hW0⟩ : ∃ W0, W0 = w.alloc (.cells #[vi op, vi ia, vi ib, vi ic] 121) := ⟨_, rfl⟩
  rw [← hW0] at hb0 hB0 h0
  have KS := Lib.hid (fun W' (ht : Tn [mB, gm] W0 W') => show W'.cell? ⟨w.heap.size, 0, none⟩ = some (vi op) ∧ W'.cell? ⟨w.heap.size, 1, none⟩ = some (vi ia) ∧ W'.cell? ⟨w.heap.size, 2, none⟩ = some (vi ib) ∧ W'.cell? ⟨w.heap.size, 3, none⟩ = some (vi ic) from by
    have hB := hB0.tn ht (by simp; omega)
    exact ⟨(hB.cell 0).trans rfl, (hB.cell 1).trans rfl, (hB.cell 2).trans rfl, (hB.cell 3).trans rfl⟩)
  obtain ⟨x0, x1, x2, x3⟩ := KS.out W0 (Tn.refl _ _)
  have HW0 := Lib.hid hW0
  have HB0 := Lib.hid hb0
  have HMB := Lib.hid hmb
  have H0 := Lib.hid (fun k => h0.drewN k)
  clear hW0 hb0 hB0 h h0 hmb hgb
  have HM0 := Lib.hid hm
  clear hm
  subst hop
  obtain ⟨c0, c4, _, _, _, cb⟩ := (H0.out 0).re
  have ipc := i64_fv s.pc hp2
  go_enter Tryz.func107, Tryz.ntmps107
  go_upto_region 1 with (fail)
  rw [← HW0.out]
  go_region_held3 (fun w' => w'.cell? ⟨mB, 0, none⟩ = some (.pointer (some ⟨b, 0, none⟩)) ∧ w'.cell? ⟨mB, 4, none⟩ = some (vi (fv s.pc)) ∧ w'.cell? ⟨b, 0, none⟩ = some (vi p)) (exact ⟨c0, c4, cb⟩) ((go_at_call 98; refine (add_any p hp2 b _ _ (by assumption) (by constructor <;> omega) _ (by exact cb)).mono ?_; rintro _ _ ⟨rfl, k0, rfl⟩))
  rw [show el p (fv s.pc) + el p 1 = s.pc + 1 by rw [el_fv, el_one]]
  go_wp2
  go_region_held3 (fun w' => w'.cell? ⟨mB, 0, none⟩ = some (.pointer (some ⟨b, 0, none⟩)) ∧ w'.cell? ⟨w.heap.size, 1, none⟩ = some (vi ia) ∧ w'.cell? ⟨w.heap.size, 2, none⟩ = some (vi ib) ∧ w'.cell? ⟨b, 0, none⟩ = some (vi p)) (first | exact ⟨c0, x1, x2, cb⟩ | exact ⟨HM.out.c0, (KS.out _ HT.out).2.1, (KS.out _ HT.out).2.2.1, HM.out.fld⟩) ((first | (go_at_call 106; refine (own_cell p hp2 ia hia _ (H0.out _)).mono ?_; rintro _ _ ⟨rfl, k1, rfl⟩) | (go_at_call 25; refine (of_el p hp2 b _ (by assumption) _ (by exact cb)).mono ?_; rintro _ _ ⟨rfl, rfl⟩) | (go_at_call 152; refine (tell_ok hp2 _ _ m' HM0.out (by omega) (by omega) _ (H0.out _)).mono ?_; rintro _ w5 ⟨rfl, hM, hT⟩; have HM := Lib.hid hM; have HT := Lib.hid (((Tn.refl _ _).drewN _).trans hT : Tn [mB, gm] W0 w5); clear hM hT)))
  have g4 := HM.out.regs.1
  have f4 := HM.out.thaw 4
  go_wp2
  go_end0
  exact ⟨rfl, ⟨_, _, by omega, by omega, HM.out.set_pc _⟩, HB0.out.trans (HT.out.setCell (.inl (by simp)) _)⟩
set_option maxHeartbeats 4000000 in
theorem one_take (hp2 : p ≤ 2147483647) (ia ib ic : Int) (hia : I64 ia) (m' : Fin p → Option (Fin p)) (hm : tellM s.mem (s.fp + el p ia) s.rv = some m') (hn : n ≤ 999999) (w : World) (h : Mac w mB b gm n size AI L cI s 0 SV d) :
    Calls Tryz.prog 107 #[.pointer (some ⟨mB, 0, none⟩), .agg #[vi 12, vi ia, vi ib, vi ic]] w (StepOk mB b gm n size AI L cI { s with pc := s.pc + 1, mem := m' } SV d w) := by
  obtain ⟨op, hop⟩ : ∃ op : Int, op = 12 := ⟨_, rfl⟩
  rw [← hop]
  have hb0 : Tn [mB, gm] w (w.alloc (.cells #[vi op, vi ia, vi ib, vi ic] 121)) := (Tn.refl _ _).alloc _
  have hB0 := Blk.new w 121 #[vi op, vi ia, vi ib, vi ic]
  have hmb := (h.blk.elim fun _ h => h.elim fun _ h => h.elim fun _ h => h.elim fun _ h => h.elim fun _ h => h.elim fun _ h => h.2.lt)
  have hgb := h.map.lt
  have h0 := h.tn ((Tn.refl [] w).alloc (.cells #[vi op, vi ia, vi ib, vi ic] 121)) (by simp) (by simp) (by simp)
  obtain ⟨W0, hW0⟩ : ∃ W0, W0 = w.alloc (.cells #[vi op, vi ia, vi ib, vi ic] 121) := ⟨_, rfl⟩
  rw [← hW0] at hb0 hB0 h0
  have KS := Lib.hid (fun W' (ht : Tn [mB, gm] W0 W') => show W'.cell? ⟨w.heap.size, 0, none⟩ = some (vi op) ∧ W'.cell? ⟨w.heap.size, 1, none⟩ = some (vi ia) ∧ W'.cell? ⟨w.heap.size, 2, none⟩ = some (vi ib) ∧ W'.cell? ⟨w.heap.size, 3, none⟩ = some (vi ic) from by
    have hB := hB0.tn ht (by simp; omega)
    exact ⟨(hB.cell 0).trans rfl, (hB.cell 1).trans rfl, (hB.cell 2).trans rfl, (hB.cell 3).trans rfl⟩)
  obtain ⟨x0, x1, x2, x3⟩ := KS.out W0 (Tn.refl _ _)
  have HW0 := Lib.hid hW0
  have HB0 := Lib.hid hb0
  have HMB := Lib.hid hmb
  have H0 := Lib.hid (fun k => h0.drewN k)
  clear hW0 hb0 hB0 h h0 hmb hgb
  have HM0 := Lib.hid hm
  clear hm
  subst hop
  have c7 := (H0.out 0).regs.2.2.2
  obtain ⟨c0, c4, _, _, _, cb⟩ := (H0.out 0).re
  have ipc := i64_fv s.pc hp2
  go_enter Tryz.func107, Tryz.ntmps107
  go_upto_region 1 with (fail)
  rw [← HW0.out]
  go_region_held3 (fun w' => w'.cell? ⟨mB, 0, none⟩ = some (.pointer (some ⟨b, 0, none⟩)) ∧ w'.cell? ⟨mB, 4, none⟩ = some (vi (fv s.pc)) ∧ w'.cell? ⟨b, 0, none⟩ = some (vi p)) (exact ⟨c0, c4, cb⟩) ((go_at_call 98; refine (add_any p hp2 b _ _ (by assumption) (by constructor <;> omega) _ (by exact cb)).mono ?_; rintro _ _ ⟨rfl, k0, rfl⟩))
  rw [show el p (fv s.pc) + el p 1 = s.pc + 1 by rw [el_fv, el_one]]
  go_wp2
  go_region_held3 (fun w' => w'.cell? ⟨mB, 7, none⟩ = some (vi (fv s.rv)) ∧ w'.cell? ⟨w.heap.size, 1, none⟩ = some (vi ia)) (first | exact ⟨c7, x1⟩ | exact ⟨HM.out.regs.2.2.2, (KS.out _ HT.out).2.1⟩) ((first | (go_at_call 106; refine (own_cell p hp2 ia hia _ (H0.out _)).mono ?_; rintro _ _ ⟨rfl, k1, rfl⟩) | (go_at_call 152; refine (tell_ok hp2 _ _ m' HM0.out (by omega) (by omega) _ (H0.out _)).mono ?_; rintro _ w5 ⟨rfl, hM, hT⟩; have HM := Lib.hid hM; have HT := Lib.hid (((Tn.refl _ _).drewN _).trans hT : Tn [mB, gm] W0 w5); clear hM hT)))
  have g4 := HM.out.regs.1
  have f4 := HM.out.thaw 4
  go_wp2
  go_end0
  exact ⟨rfl, ⟨_, _, by omega, by omega, HM.out.set_pc _⟩, HB0.out.trans (HT.out.setCell (.inl (by simp)) _)⟩
set_option maxHeartbeats 4000000 in
theorem one_jump (hp2 : p ≤ 2147483647) (ia ib ic : Int) (hia : I64 ia) (w : World) (h : Mac w mB b gm n size AI L cI s 0 SV d) :
    Calls Tryz.prog 107 #[.pointer (some ⟨mB, 0, none⟩), .agg #[vi 8, vi ia, vi ib, vi ic]] w (StepOk mB b gm n size AI L cI { s with pc := el p ia } SV d w) := by
  obtain ⟨op, hop⟩ : ∃ op : Int, op = 8 := ⟨_, rfl⟩
  rw [← hop]
  have hb0 : Tn [mB, gm] w (w.alloc (.cells #[vi op, vi ia, vi ib, vi ic] 121)) := (Tn.refl _ _).alloc _
  have hB0 := Blk.new w 121 #[vi op, vi ia, vi ib, vi ic]
  have hmb := (h.blk.elim fun _ h => h.elim fun _ h => h.elim fun _ h => h.elim fun _ h => h.elim fun _ h => h.elim fun _ h => h.2.lt)
  have hgb := h.map.lt
  have h0 := h.tn ((Tn.refl [] w).alloc (.cells #[vi op, vi ia, vi ib, vi ic] 121)) (by simp) (by simp) (by simp)
  obtain ⟨W0, hW0⟩ : ∃ W0, W0 = w.alloc (.cells #[vi op, vi ia, vi ib, vi ic] 121) := ⟨_, rfl⟩
  rw [← hW0] at hb0 hB0 h0
  have KS := Lib.hid (fun W' (ht : Tn [mB, gm] W0 W') => show W'.cell? ⟨w.heap.size, 0, none⟩ = some (vi op) ∧ W'.cell? ⟨w.heap.size, 1, none⟩ = some (vi ia) ∧ W'.cell? ⟨w.heap.size, 2, none⟩ = some (vi ib) ∧ W'.cell? ⟨w.heap.size, 3, none⟩ = some (vi ic) from by
    have hB := hB0.tn ht (by simp; omega)
    exact ⟨(hB.cell 0).trans rfl, (hB.cell 1).trans rfl, (hB.cell 2).trans rfl, (hB.cell 3).trans rfl⟩)
  obtain ⟨x0, x1, x2, x3⟩ := KS.out W0 (Tn.refl _ _)
  have HW0 := Lib.hid hW0
  have HB0 := Lib.hid hb0
  have HMB := Lib.hid hmb
  have H0 := Lib.hid (fun k => h0.drewN k)
  clear hW0 hb0 hB0 h h0 hmb hgb
  subst hop
  obtain ⟨c0, c4, _, _, _, cb⟩ := (H0.out 0).re
  have ipc := i64_fv s.pc hp2
  go_enter Tryz.func107, Tryz.ntmps107
  go_upto_region 1 with (fail)
  rw [← HW0.out]
  go_region_held3 (fun w' => w'.cell? ⟨mB, 0, none⟩ = some (.pointer (some ⟨b, 0, none⟩)) ∧ w'.cell? ⟨mB, 4, none⟩ = some (vi (fv s.pc)) ∧ w'.cell? ⟨b, 0, none⟩ = some (vi p)) (exact ⟨c0, c4, cb⟩) ((go_at_call 98; refine (add_any p hp2 b _ _ (by assumption) (by constructor <;> omega) _ (by exact cb)).mono ?_; rintro _ _ ⟨rfl, k0, rfl⟩))
  rw [show el p (fv s.pc) + el p 1 = s.pc + 1 by rw [el_fv, el_one]]
  go_wp2
  go_region_held3 (fun w' => w'.cell? ⟨mB, 0, none⟩ = some (.pointer (some ⟨b, 0, none⟩)) ∧ w'.cell? ⟨w.heap.size, 1, none⟩ = some (vi ia) ∧ w'.cell? ⟨b, 0, none⟩ = some (vi p)) (exact ⟨c0, x1, cb⟩) ((go_at_call 25; refine (of_el p hp2 b _ (by assumption) _ (by exact cb)).mono ?_; rintro _ _ ⟨rfl, rfl⟩))
  have HM := Lib.hid (H0.out (1 + k0 + 1))
  have HT := Lib.hid ((Tn.refl [mB, gm] W0).drewN (1 + k0 + 1))
  have g4 := HM.out.regs.1
  have f4 := HM.out.thaw 4
  go_wp2
  go_end0
  exact ⟨rfl, ⟨_, _, by omega, by omega, HM.out.set_pc _⟩, HB0.out.trans (HT.out.setCell (.inl (by simp)) _)⟩
set_option maxHeartbeats 4000000 in
theorem one_zero_no (hp2 : p ≤ 2147483647) (ia ib ic : Int) (hia : I64 ia) (hv : s.mem (s.fp + el p ia) = none) (w : World) (h : Mac w mB b gm n size AI L cI s 0 SV d) :
    Calls Tryz.prog 107 #[.pointer (some ⟨mB, 0, none⟩), .agg #[vi 9, vi ia, vi ib, vi ic]] w (StepNo mB gm w) := by
  obtain ⟨op, hop⟩ : ∃ op : Int, op = 9 := ⟨_, rfl⟩
  rw [← hop]
  have hb0 : Tn [mB, gm] w (w.alloc (.cells #[vi op, vi ia, vi ib, vi ic] 121)) := (Tn.refl _ _).alloc _
  have hB0 := Blk.new w 121 #[vi op, vi ia, vi ib, vi ic]
  have hmb := (h.blk.elim fun _ h => h.elim fun _ h => h.elim fun _ h => h.elim fun _ h => h.elim fun _ h => h.elim fun _ h => h.2.lt)
  have hgb := h.map.lt
  have h0 := h.tn ((Tn.refl [] w).alloc (.cells #[vi op, vi ia, vi ib, vi ic] 121)) (by simp) (by simp) (by simp)
  obtain ⟨W0, hW0⟩ : ∃ W0, W0 = w.alloc (.cells #[vi op, vi ia, vi ib, vi ic] 121) := ⟨_, rfl⟩
  rw [← hW0] at hb0 hB0 h0
  have KS := Lib.hid (fun W' (ht : Tn [mB, gm] W0 W') => show W'.cell? ⟨w.heap.size, 0, none⟩ = some (vi op) ∧ W'.cell? ⟨w.heap.size, 1, none⟩ = some (vi ia) ∧ W'.cell? ⟨w.heap.size, 2, none⟩ = some (vi ib) ∧ W'.cell? ⟨w.heap.size, 3, none⟩ = some (vi ic) from by
    have hB := hB0.tn ht (by simp; omega)
    exact ⟨(hB.cell 0).trans rfl, (hB.cell 1).trans rfl, (hB.cell 2).trans rfl, (hB.cell 3).trans rfl⟩)
  obtain ⟨x0, x1, x2, x3⟩ := KS.out W0 (Tn.refl _ _)
  have HW0 := Lib.hid hW0
  have HB0 := Lib.hid hb0
  have HMB := Lib.hid hmb
  have H0 := Lib.hid (fun k => h0.drewN k)
  clear hW0 hb0 hB0 h h0 hmb hgb
  have HV := Lib.hid hv
  clear hv
  subst hop
  obtain ⟨c0, c4, _, _, _, cb⟩ := (H0.out 0).re
  have ipc := i64_fv s.pc hp2
  go_enter Tryz.func107, Tryz.ntmps107
  go_upto_region 1 with (fail)
  rw [← HW0.out]
  go_region_held3 (fun w' => w'.cell? ⟨mB, 0, none⟩ = some (.pointer (some ⟨b, 0, none⟩)) ∧ w'.cell? ⟨mB, 4, none⟩ = some (vi (fv s.pc)) ∧ w'.cell? ⟨b, 0, none⟩ = some (vi p)) (exact ⟨c0, c4, cb⟩) ((go_at_call 98; refine (add_any p hp2 b _ _ (by assumption) (by constructor <;> omega) _ (by exact cb)).mono ?_; rintro _ _ ⟨rfl, k0, rfl⟩))
  rw [show el p (fv s.pc) + el p 1 = s.pc + 1 by rw [el_fv, el_one]]
  go_wp2_with fail
  refine (own_cell p hp2 ia hia _ (H0.out _)).mono ?_
  rintro _ _ ⟨rfl, k1, rfl⟩
  go_wp2_with fail
  refine (look_no hp2 _ HV.out _ (H0.out _)).mono ?_
  rintro _ _ ⟨rfl, rfl⟩
  exact ⟨rfl, rfl, HB0.out.trans ((Tn.refl _ _).drewN _)⟩
set_option maxHeartbeats 4000000 in
theorem one_zero_f (hp2 : p ≤ 2147483647) (ia ib ic : Int) (hia : I64 ia) (v : Fin p) (hv : s.mem (s.fp + el p ia) = some v) (h0 : v ≠ 0) (w : World) (h : Mac w mB b gm n size AI L cI s 0 SV d) :
    Calls Tryz.prog 107 #[.pointer (some ⟨mB, 0, none⟩), .agg #[vi 9, vi ia, vi ib, vi ic]] w (StepOk mB b gm n size AI L cI { s with pc := s.pc + 1 } SV d w) := by
  obtain ⟨op, hop⟩ : ∃ op : Int, op = 9 := ⟨_, rfl⟩
  rw [← hop]
  have hb0 : Tn [mB, gm] w (w.alloc (.cells #[vi op, vi ia, vi ib, vi ic] 121)) := (Tn.refl _ _).alloc _
  have hB0 := Blk.new w 121 #[vi op, vi ia, vi ib, vi ic]
  have hmb := (h.blk.elim fun _ h => h.elim fun _ h => h.elim fun _ h => h.elim fun _ h => h.elim fun _ h => h.elim fun _ h => h.2.lt)
  have hgb := h.map.lt
  have h0 := h.tn ((Tn.refl [] w).alloc (.cells #[vi op, vi ia, vi ib, vi ic] 121)) (by simp) (by simp) (by simp)
  obtain ⟨W0, hW0⟩ : ∃ W0, W0 = w.alloc (.cells #[vi op, vi ia, vi ib, vi ic] 121) := ⟨_, rfl⟩
  rw [← hW0] at hb0 hB0 h0
  have KS := Lib.hid (fun W' (ht : Tn [mB, gm] W0 W') => show W'.cell? ⟨w.heap.size, 0, none⟩ = some (vi op) ∧ W'.cell? ⟨w.heap.size, 1, none⟩ = some (vi ia) ∧ W'.cell? ⟨w.heap.size, 2, none⟩ = some (vi ib) ∧ W'.cell? ⟨w.heap.size, 3, none⟩ = some (vi ic) from by
    have hB := hB0.tn ht (by simp; omega)
    exact ⟨(hB.cell 0).trans rfl, (hB.cell 1).trans rfl, (hB.cell 2).trans rfl, (hB.cell 3).trans rfl⟩)
  obtain ⟨x0, x1, x2, x3⟩ := KS.out W0 (Tn.refl _ _)
  have HW0 := Lib.hid hW0
  have HB0 := Lib.hid hb0
  have HMB := Lib.hid hmb
  have H0 := Lib.hid (fun k => h0.drewN k)
  clear hW0 hb0 hB0 h h0 hmb hgb
  have HV := Lib.hid hv
  have t0 : (fv v == 0) = false := by
    simp only [beq_eq_false_iff_ne, ne_eq]
    exact fun e => h0 (fv_inj (by rw [e, fv_zero]))
  clear hv h0
  subst hop
  obtain ⟨c0, c4, _, _, _, cb⟩ := (H0.out 0).re
  have ipc := i64_fv s.pc hp2
  go_enter Tryz.func107, Tryz.ntmps107
  go_upto_region 1 with (fail)
  rw [← HW0.out]
  go_region_held3 (fun w' => w'.cell? ⟨mB, 0, none⟩ = some (.pointer (some ⟨b, 0, none⟩)) ∧ w'.cell? ⟨mB, 4, none⟩ = some (vi (fv s.pc)) ∧ w'.cell? ⟨b, 0, none⟩ = some (vi p)) (exact ⟨c0, c4, cb⟩) ((go_at_call 98; refine (add_any p hp2 b _ _ (by assumption) (by constructor <;> omega) _ (by exact cb)).mono ?_; rintro _ _ ⟨rfl, k0, rfl⟩))
  rw [show el p (fv s.pc) + el p 1 = s.pc + 1 by rw [el_fv, el_one]]
  go_wp2_with fail
  refine (own_cell p hp2 ia hia _ (H0.out _)).mono ?_
  rintro _ _ ⟨rfl, k1, rfl⟩
  go_wp2_with fail
  refine (look_yes hp2 _ v HV.out (by omega) _ (H0.out _)).mono ?_
  rintro _ w5 ⟨rfl, hM, hT⟩
  have HM := Lib.hid hM
  have HT := Lib.hid (((Tn.refl _ _).drewN _).trans hT : Tn [mB, gm] W0 w5)
  clear hM hT
  have g4 := HM.out.regs.1
  have f4 := HM.out.thaw 4
  go_wp2
  go_end0
  exact ⟨rfl, ⟨_, _, by omega, by omega, HM.out.set_pc _⟩, HB0.out.trans (HT.out.setCell (.inl (by simp)) _)⟩
set_option maxHeartbeats 4000000 in
theorem one_zero_t (hp2 : p ≤ 2147483647) (ia ib ic : Int) (hia : I64 ia) (hib : I64 ib) (hv : s.mem (s.fp + el p ia) = some 0) (w : World) (h : Mac w mB b gm n size AI L cI s 0 SV d) :
    Calls Tryz.prog 107 #[.pointer (some ⟨mB, 0, none⟩), .agg #[vi 9, vi ia, vi ib, vi ic]] w (StepOk mB b gm n size AI L cI { s with pc := el p ib } SV d w) := by
  obtain ⟨op, hop⟩ : ∃ op : Int, op = 9 := ⟨_, rfl⟩
  rw [← hop]
  have hb0 : Tn [mB, gm] w (w.alloc (.cells #[vi op, vi ia, vi ib, vi ic] 121)) := (Tn.refl _ _).alloc _
  have hB0 := Blk.new w 121 #[vi op, vi ia, vi ib, vi ic]
  have hmb := (h.blk.elim fun _ h => h.elim fun _ h => h.elim fun _ h => h.elim fun _ h => h.elim fun _ h => h.elim fun _ h => h.2.lt)
  have hgb := h.map.lt
  have h0 := h.tn ((Tn.refl [] w).alloc (.cells #[vi op, vi ia, vi ib, vi ic] 121)) (by simp) (by simp) (by simp)
  obtain ⟨W0, hW0⟩ : ∃ W0, W0 = w.alloc (.cells #[vi op, vi ia, vi ib, vi ic] 121) := ⟨_, rfl⟩
  rw [← hW0] at hb0 hB0 h0
  have KS := Lib.hid (fun W' (ht : Tn [mB, gm] W0 W') => show W'.cell? ⟨w.heap.size, 0, none⟩ = some (vi op) ∧ W'.cell? ⟨w.heap.size, 1, none⟩ = some (vi ia) ∧ W'.cell? ⟨w.heap.size, 2, none⟩ = some (vi ib) ∧ W'.cell? ⟨w.heap.size, 3, none⟩ = some (vi ic) from by
    have hB := hB0.tn ht (by simp; omega)
    exact ⟨(hB.cell 0).trans rfl, (hB.cell 1).trans rfl, (hB.cell 2).trans rfl, (hB.cell 3).trans rfl⟩)
  obtain ⟨x0, x1, x2, x3⟩ := KS.out W0 (Tn.refl _ _)
  have HW0 := Lib.hid hW0
  have HB0 := Lib.hid hb0
  have HMB := Lib.hid hmb
  have H0 := Lib.hid (fun k => h0.drewN k)
  clear hW0 hb0 hB0 h h0 hmb hgb
  have HV := Lib.hid hv
  have t0 : (fv (0 : Fin p) == 0) = true := by rw [fv_zero]; rfl
  clear hv
  subst hop
  obtain ⟨c0, c4, _, _, _, cb⟩ := (H0.out 0).re
  have ipc := i64_fv s.pc hp2
  go_enter Tryz.func107, Tryz.ntmps107
  go_upto_region 1 with (fail)
  rw [← HW0.out]
  go_region_held3 (fun w' => w'.cell? ⟨mB, 0, none⟩ = some (.pointer (some ⟨b, 0, none⟩)) ∧ w'.cell? ⟨mB, 4, none⟩ = some (vi (fv s.pc)) ∧ w'.cell? ⟨b, 0, none⟩ = some (vi p)) (exact ⟨c0, c4, cb⟩) ((go_at_call 98; refine (add_any p hp2 b _ _ (by assumption) (by constructor <;> omega) _ (by exact cb)).mono ?_; rintro _ _ ⟨rfl, k0, rfl⟩))
  rw [show el p (fv s.pc) + el p 1 = s.pc + 1 by rw [el_fv, el_one]]
  go_wp2_with fail
  refine (own_cell p hp2 ia hia _ (H0.out _)).mono ?_
  rintro _ _ ⟨rfl, k1, rfl⟩
  go_wp2_with fail
  refine (look_yes hp2 _ 0 HV.out (by omega) _ (H0.out _)).mono ?_
  rintro _ w5 ⟨rfl, hM, hT⟩
  have HM5 := Lib.hid hM
  have HT5 := Lib.hid (((Tn.refl _ _).drewN _).trans hT : Tn [mB, gm] W0 w5)
  have e0 := hM.c0
  have eb := hM.fld
  obtain ⟨_, _, e2, _⟩ := KS.out _ HT5.out
  clear hM hT
  go_wp2
  go_region_held3 (fun w' => w'.cell? ⟨mB, 0, none⟩ = some (.pointer (some ⟨b, 0, none⟩)) ∧ w'.cell? ⟨w.heap.size, 2, none⟩ = some (vi ib) ∧ w'.cell? ⟨b, 0, none⟩ = some (vi p)) (exact ⟨e0, e2, eb⟩) ((go_at_call 25; refine (of_el p hp2 b _ (by assumption) _ (by exact eb)).mono ?_; rintro _ _ ⟨rfl, rfl⟩))
  have HM := Lib.hid (HM5.out.drewN 1)
  have HT := Lib.hid (HT5.out.drewN 1)
  have g5 := HM5.out.regs.1
  have f5 := HM5.out.thaw 4
  have g4 := HM.out.regs.1
  have f4 := HM.out.thaw 4
  go_wp2
  go_end0
  exact ⟨rfl, ⟨_, _, by omega, by omega, HM.out.set_pc _⟩, HB0.out.trans (HT.out.setCell (.inl (by simp)) _)⟩
set_option maxHeartbeats 4000000 in
theorem one_call (hp1 : 2 ≤ p) (hp2 : p ≤ 2147483647) (ia ib ic : Int) (hia : I64 ia) (hib : I64 ib) (m1 m2 : Fin p → Option (Fin p)) (h1 : tellM s.mem s.ap s.fp = some m1) (h2 : tellM m1 (s.ap + 1) (s.pc + 1) = some m2) (hn : n ≤ 999999) (w : World) (h : Mac w mB b gm n size AI L cI s 0 SV d) :
    Calls Tryz.prog 107 #[.pointer (some ⟨mB, 0, none⟩), .agg #[vi 10, vi ia, vi ib, vi ic]] w (StepOk mB b gm n size AI L cI { s with pc := el p ia, fp := s.ap + (1 + 1), ap := s.ap + (1 + 1) + el p ib, mem := m2 } SV d w) := by
  obtain ⟨op, hop⟩ : ∃ op : Int, op = 10 := ⟨_, rfl⟩
  rw [← hop]
  have hb0 : Tn [mB, gm] w (w.alloc (.cells #[vi op, vi ia, vi ib, vi ic] 121)) := (Tn.refl _ _).alloc _
  have hB0 := Blk.new w 121 #[vi op, vi ia, vi ib, vi ic]
  have hmb := (h.blk.elim fun _ h => h.elim fun _ h => h.elim fun _ h => h.elim fun _ h => h.elim fun _ h => h.elim fun _ h => h.2.lt)
  have hgb := h.map.lt
  have h0 := h.tn ((Tn.refl [] w).alloc (.cells #[vi op, vi ia, vi ib, vi ic] 121)) (by simp) (by simp) (by simp)
  obtain ⟨W0, hW0⟩ : ∃ W0, W0 = w.alloc (.cells #[vi op, vi ia, vi ib, vi ic] 121) := ⟨_, rfl⟩
  rw [← hW0] at hb0 hB0 h0
  have KS := Lib.hid (fun W' (ht : Tn [mB, gm] W0 W') => show W'.cell? ⟨w.heap.size, 0, none⟩ = some (vi op) ∧ W'.cell? ⟨w.heap.size, 1, none⟩ = some (vi ia) ∧ W'.cell? ⟨w.heap.size, 2, none⟩ = some (vi ib) ∧ W'.cell? ⟨w.heap.size, 3, none⟩ = some (vi ic) from by
    have hB := hB0.tn ht (by simp; omega)
    exact ⟨(hB.cell 0).trans rfl, (hB.cell 1).trans rfl, (hB.cell 2).trans rfl, (hB.cell 3).trans rfl⟩)
  obtain ⟨x0, x1, x2, x3⟩ := KS.out W0 (Tn.refl _ _)
  have HW0 := Lib.hid hW0
  have HB0 := Lib.hid hb0
  have HMB := Lib.hid hmb
  have H0 := Lib.hid (fun k => h0.drewN k)
  clear hW0 hb0 hB0 h h0 hmb hgb
  have HC := Lib.hid (fun k => mcall_ok hp1 hp2 op ia ib ic hia hib m1 m2 h1 h2 hn (W0.drewN k) (H0.out k))
  clear h1 h2
  subst hop
  obtain ⟨c0, c4, _, _, _, cb⟩ := (H0.out 0).re
  have ipc := i64_fv s.pc hp2
  go_enter Tryz.func107, Tryz.ntmps107
  go_upto_region 1 with (fail)
  rw [← HW0.out]
  go_region_held3 (fun w' => w'.cell? ⟨mB, 0, none⟩ = some (.pointer (some ⟨b, 0, none⟩)) ∧ w'.cell? ⟨mB, 4, none⟩ = some (vi (fv s.pc)) ∧ w'.cell? ⟨b, 0, none⟩ = some (vi p)) (exact ⟨c0, c4, cb⟩) ((go_at_call 98; refine (add_any p hp2 b _ _ (by assumption) (by constructor <;> omega) _ (by exact cb)).mono ?_; rintro _ _ ⟨rfl, k0, rfl⟩))
  rw [show el p (fv s.pc) + el p 1 = s.pc + 1 by rw [el_fv, el_one]]
  go_wp2_with fail
  refine (HC.out _).mono ?_
  rintro _ w5 ⟨rfl, hM, hT⟩
  go_wp2
  refine bodyPost_ret (results_none rfl _ _ _) rfl ?_
  exact ⟨rfl, ⟨_, _, Nat.le_refl _, by omega, hM⟩, HB0.out.trans (((Tn.refl _ _).drewN _).trans hT)⟩
set_option maxHeartbeats 4000000 in
theorem one_back (hp2 : p ≤ 2147483647) (ia ib ic : Int) (hia : I64 ia) (f c v : Fin p) (hf : s.mem (s.fp - (1 + 1)) = some f) (hc : s.mem (s.fp - 1) = some c) (hv : s.mem (s.fp + el p ia) = some v) (w : World) (h : Mac w mB b gm n size AI L cI s 0 SV d) :
    Calls Tryz.prog 107 #[.pointer (some ⟨mB, 0, none⟩), .agg #[vi 11, vi ia, vi ib, vi ic]] w (StepOk mB b gm n size AI L cI { s with pc := c, fp := f, rv := v } SV d w) := by
  obtain ⟨op, hop⟩ : ∃ op : Int, op = 11 := ⟨_, rfl⟩
  rw [← hop]
  have hb0 : Tn [mB, gm] w (w.alloc (.cells #[vi op, vi ia, vi ib, vi ic] 121)) := (Tn.refl _ _).alloc _
  have hB0 := Blk.new w 121 #[vi op, vi ia, vi ib, vi ic]
  have hmb := (h.blk.elim fun _ h => h.elim fun _ h => h.elim fun _ h => h.elim fun _ h => h.elim fun _ h => h.elim fun _ h => h.2.lt)
  have hgb := h.map.lt
  have h0 := h.tn ((Tn.refl [] w).alloc (.cells #[vi op, vi ia, vi ib, vi ic] 121)) (by simp) (by simp) (by simp)
  obtain ⟨W0, hW0⟩ : ∃ W0, W0 = w.alloc (.cells #[vi op, vi ia, vi ib, vi ic] 121) := ⟨_, rfl⟩
  rw [← hW0] at hb0 hB0 h0
  have KS := Lib.hid (fun W' (ht : Tn [mB, gm] W0 W') => show W'.cell? ⟨w.heap.size, 0, none⟩ = some (vi op) ∧ W'.cell? ⟨w.heap.size, 1, none⟩ = some (vi ia) ∧ W'.cell? ⟨w.heap.size, 2, none⟩ = some (vi ib) ∧ W'.cell? ⟨w.heap.size, 3, none⟩ = some (vi ic) from by
    have hB := hB0.tn ht (by simp; omega)
    exact ⟨(hB.cell 0).trans rfl, (hB.cell 1).trans rfl, (hB.cell 2).trans rfl, (hB.cell 3).trans rfl⟩)
  obtain ⟨x0, x1, x2, x3⟩ := KS.out W0 (Tn.refl _ _)
  have HW0 := Lib.hid hW0
  have HB0 := Lib.hid hb0
  have HMB := Lib.hid hmb
  have H0 := Lib.hid (fun k => h0.drewN k)
  clear hW0 hb0 hB0 h h0 hmb hgb
  have HC := Lib.hid (fun k => mback_ok hp2 op ia ib ic hia f c v hf hc hv (W0.drewN k) (H0.out k))
  clear hf hc hv
  subst hop
  obtain ⟨c0, c4, _, _, _, cb⟩ := (H0.out 0).re
  have ipc := i64_fv s.pc hp2
  go_enter Tryz.func107, Tryz.ntmps107
  go_upto_region 1 with (fail)
  rw [← HW0.out]
  go_region_held3 (fun w' => w'.cell? ⟨mB, 0, none⟩ = some (.pointer (some ⟨b, 0, none⟩)) ∧ w'.cell? ⟨mB, 4, none⟩ = some (vi (fv s.pc)) ∧ w'.cell? ⟨b, 0, none⟩ = some (vi p)) (exact ⟨c0, c4, cb⟩) ((go_at_call 98; refine (add_any p hp2 b _ _ (by assumption) (by constructor <;> omega) _ (by exact cb)).mono ?_; rintro _ _ ⟨rfl, k0, rfl⟩))
  rw [show el p (fv s.pc) + el p 1 = s.pc + 1 by rw [el_fv, el_one]]
  go_wp2_with fail
  refine (HC.out _).mono ?_
  rintro _ w5 ⟨rfl, hM, hT⟩
  go_wp2
  refine bodyPost_ret (results_none rfl _ _ _) rfl ?_
  exact ⟨rfl, ⟨_, _, by omega, by omega, hM⟩, HB0.out.trans (((Tn.refl _ _).drewN _).trans hT)⟩
set_option maxHeartbeats 4000000 in
theorem one_back_no (hp2 : p ≤ 2147483647) (ia ib ic : Int) (w : World) (h : Mac w mB b gm n size AI L cI s 0 SV d)
    (hC : ∀ W, Mac W mB b gm n size AI L cI s 0 SV d → Calls Tryz.prog 154 #[.pointer (some ⟨mB, 0, none⟩), .agg #[vi 11, vi ia, vi ib, vi ic]] W fun e w' => e = .panicked (stopM 10) ∧ Tn [mB, gm] W w') :
    Calls Tryz.prog 107 #[.pointer (some ⟨mB, 0, none⟩), .agg #[vi 11, vi ia, vi ib, vi ic]] w (StepNo mB gm w) := by
  obtain ⟨op, hop⟩ : ∃ op : Int, op = 11 := ⟨_, rfl⟩
  rw [← hop] at hC ⊢
  have hb0 : Tn [mB, gm] w (w.alloc (.cells #[vi op, vi ia, vi ib, vi ic] 121)) := (Tn.refl _ _).alloc _
  have hB0 := Blk.new w 121 #[vi op, vi ia, vi ib, vi ic]
  have hmb := (h.blk.elim fun _ h => h.elim fun _ h => h.elim fun _ h => h.elim fun _ h => h.elim fun _ h => h.elim fun _ h => h.2.lt)
  have hgb := h.map.lt
  have h0 := h.tn ((Tn.refl [] w).alloc (.cells #[vi op, vi ia, vi ib, vi ic] 121)) (by simp) (by simp) (by simp)
  obtain ⟨W0, hW0⟩ : ∃ W0, W0 = w.alloc (.cells #[vi op, vi ia, vi ib, vi ic] 121) := ⟨_, rfl⟩
  rw [← hW0] at hb0 hB0 h0
  have KS := Lib.hid (fun W' (ht : Tn [mB, gm] W0 W') => show W'.cell? ⟨w.heap.size, 0, none⟩ = some (vi op) ∧ W'.cell? ⟨w.heap.size, 1, none⟩ = some (vi ia) ∧ W'.cell? ⟨w.heap.size, 2, none⟩ = some (vi ib) ∧ W'.cell? ⟨w.heap.size, 3, none⟩ = some (vi ic) from by
    have hB := hB0.tn ht (by simp; omega)
    exact ⟨(hB.cell 0).trans rfl, (hB.cell 1).trans rfl, (hB.cell 2).trans rfl, (hB.cell 3).trans rfl⟩)
  obtain ⟨x0, x1, x2, x3⟩ := KS.out W0 (Tn.refl _ _)
  have HW0 := Lib.hid hW0
  have HB0 := Lib.hid hb0
  have HMB := Lib.hid hmb
  have H0 := Lib.hid (fun k => h0.drewN k)
  clear hW0 hb0 hB0 h h0 hmb hgb
  have HC := Lib.hid hC
  clear hC
  subst hop
  obtain ⟨c0, c4, _, _, _, cb⟩ := (H0.out 0).re
  have ipc := i64_fv s.pc hp2
  go_enter Tryz.func107, Tryz.ntmps107
  go_upto_region 1 with (fail)
  rw [← HW0.out]
  go_region_held3 (fun w' => w'.cell? ⟨mB, 0, none⟩ = some (.pointer (some ⟨b, 0, none⟩)) ∧ w'.cell? ⟨mB, 4, none⟩ = some (vi (fv s.pc)) ∧ w'.cell? ⟨b, 0, none⟩ = some (vi p)) (exact ⟨c0, c4, cb⟩) ((go_at_call 98; refine (add_any p hp2 b _ _ (by assumption) (by constructor <;> omega) _ (by exact cb)).mono ?_; rintro _ _ ⟨rfl, k0, rfl⟩))
  rw [show el p (fv s.pc) + el p 1 = s.pc + 1 by rw [el_fv, el_one]]
  go_wp2_with fail
  refine (HC.out _ (H0.out _)).mono ?_
  rintro _ w5 ⟨rfl, hT⟩
  exact ⟨rfl, rfl, HB0.out.trans (((Tn.refl _ _).drewN _).trans hT)⟩
end
end Go.Proofs.YtpkhcncempoohaaGreatDoor
