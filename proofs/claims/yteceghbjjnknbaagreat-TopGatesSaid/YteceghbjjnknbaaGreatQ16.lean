/- A bundle of texts: Nl, Pd1, Pd2. -/
import Derived.Test.YteceghbjjnknbaaGreatQ15
import Derived.Test.YteceghbjjnknbaaGreatQ14
set_option linter.unusedVariables false
set_option linter.unusedSimpArgs false
namespace Go.Proofs.YteceghbjjnknbaaGreat
open Go.RowKit Zp
def TOpenedSf (l : List Int) (rs ns : List (List Int)) (w : World) (e : Ending) (w' : World) : Prop :=
  ∃ A0 n0 c0 AR nR cR AN nN cN, e = .returned (.tuple #[.agg #[.slice A0 n0 c0, .slice AR nR cR, .slice AN nN cN], .nilIface]) ∧ (∀ W', Safe w' W' → OpnAt W' A0 n0 c0 l AR nR cR rs AN nN cN ns) ∧ Below w.heap.size w w'
theorem OpenedUp.tup {l : List Int} {rs ns : List (List Int)} {w w' : World} {v : Value} (h : OpenedUp l rs ns w (.returned v) w') : TOpenedSf l rs ns w (.returned (.tuple #[v, .nilIface])) w' := by
  obtain ⟨A0, n0, c0, AR, nR, cR, AN, nN, cN, e, h1, h2, h3⟩ := h
  injection e with e
  exact ⟨A0, n0, c0, AR, nR, cR, AN, nN, cN, by rw [e], h3, h2⟩
structure Ent (w W : World) (s A : Option Addr) (N c : Nat) : Prop where
  hs : Blk W w.heap.size 27 #[.pointer s]
  hr : Blk W (w.heap.size + 1) 36 #[.slice A N c]
  ho : Blk W (w.heap.size + 1 + 1) 51 #[.slice none 0 0, .slice none 0 0, .slice none 0 0]
  hb : Below w.heap.size w W
  hz : w.heap.size + 1 + 1 < W.heap.size
theorem Ent.new (w : World) (s A : Option Addr) (N c : Nat) : Ent w (((w.alloc (.cells #[.pointer s] 27)).alloc (.cells #[.slice A N c] 36)).alloc (.cells #[.slice none 0 0, .slice none 0 0, .slice none 0 0] 51)) s A N c := by
  refine ⟨((Blk.new w _ _).alloc _).alloc _, ?_, ?_, (((Below.refl _ _).alloc (Nat.le_refl _) _).alloc (by simp) _).alloc (by simp; omega) _, by simp⟩
  · have h := (Blk.new (w.alloc (.cells #[.pointer s] 27)) 36 #[.slice A N c]).alloc (.cells #[.slice none 0 0, .slice none 0 0, .slice none 0 0] 51)
    simpa using h
  · have h := Blk.new ((w.alloc (.cells #[.pointer s] 27)).alloc (.cells #[.slice A N c] 36)) 51 #[.slice none 0 0, .slice none 0 0, .slice none 0 0]
    simpa using h
theorem Ent.below {w W W' : World} {s A : Option Addr} {N c : Nat} (h : Ent w W s A N c) (hb : Below (w.heap.size + 1 + 1 + 1) W W') : Ent w W' s A N c :=
  ⟨Blk.below h.hs hb (by omega), Blk.below h.hr hb (by omega), Blk.below h.ho hb (by omega), h.hb.trans (hb.mono (by omega)), Nat.lt_of_lt_of_le h.hz hb.size⟩
theorem Ent.cs {w W : World} {s A : Option Addr} {N c : Nat} (h : Ent w W s A N c) : W.cell? ⟨w.heap.size, 0, none⟩ = some (.pointer s) := (h.hs.cell 0).trans rfl
theorem Ent.cr {w W : World} {s A : Option Addr} {N c : Nat} (h : Ent w W s A N c) : W.cell? ⟨w.heap.size + 1, 0, none⟩ = some (.slice A N c) := (h.hr.cell 0).trans rfl
set_option maxRecDepth 100000 in
set_option maxHeartbeats 16000000 in
theorem topen_sf (p S b s k z : Nat) [NeZero p] (oo : Nat → Nat → Fin p) (A : Option Addr) (N c : Nat) (ls : List (List Int)) (hN : ls.length = N) (h1 : 1 ≤ N) (hN2 : N ≤ 65536) (hR : ∀ t ∈ ls, t.length * 8 ≤ 140737488351232)
    (A0 : Option Addr) (n0 c0 : Nat) (l : List Int) (hl : l.length = n0) (hn0 : n0 * 8 ≤ 140737488351232) (hin : l.any (outB N) = false) (w : World) (F : Fld w S b p) (G : Spg w s b k z oo) (hs : SL w A0 l) (hT : TB w A ls) :
    Calls Tryz.prog 43 #[.pointer (some ⟨s, 0, none⟩), .slice A N c, .slice A0 n0 c0] w (TOpenedSf (onceL l) (openR p ls (onceL l)) ((hidL (onceL l) 0 N).map fun g => rootD (digL p k) (rowF ls) g.1 g.2) w) := by
  have HR := Lib.hid (fun w => right_any (N : Int) w)
  have HN := Lib.hid (show rightB (N : Int) = true from decide_eq_true (by constructor <;> omega))
  have hE := Ent.new w (some ⟨s, 0, none⟩) A N c
  obtain ⟨W0, hW0⟩ : ∃ W0, W0 = ((w.alloc (.cells #[.pointer (some ⟨s, 0, none⟩)] 27)).alloc (.cells #[.slice A N c] 36)).alloc (.cells #[.slice none 0 0, .slice none 0 0, .slice none 0 0] 51) := ⟨_, rfl⟩
  rw [← hW0] at hE
  have HW0 := Lib.hid hW0
  have HE := Lib.hid hE
  have e1 := hE.cr
  have hcf := containsI_any 86 (enters_of Tryz.func86 (by kernel_rfl) rfl) #[.pointer (some ⟨w.heap.size + 1, 0, none⟩)] (outB N) A0 n0 c0 l hl (by omega) W0 (fun x _ => open1_any x _ A N c W0 e1) (hs.below hE.hb)
  rw [hin] at hcf
  have HCF := Lib.hid hcf
  clear hcf hW0
  obtain ⟨T, hTT⟩ : ∃ T, T = onceL l := ⟨_, rfl⟩
  have hTa : Asc T := by rw [hTT]; exact asc_onceL l
  have hTin : ∀ x ∈ T, 0 ≤ x ∧ x < N := fun x hx => by
    rw [hTT, mem_onceL] at hx
    have h := List.any_eq_false.1 hin x hx
    unfold outB at h
    exact Classical.byContradiction fun h' => h (decide_eq_true h')
  have hTl := hTa.len hTin
  have hcm := compact_once l
  rw [← hTT] at hcm ⊢
  have HCL := Lib.hid (fun W' (h : Below w.heap.size w W') => clone_any A0 n0 c0 l hl (by omega) W' (hs.below h))
  have HCM := Lib.hid hcm
  have HLS := Lib.hid (And.intro hN (And.intro h1 (And.intro hN2 (And.intro hR (And.intro hTl (And.intro hTa hTin))))))
  have HLL := Lib.hid (And.intro hl hn0)
  have HX := Lib.hid (fun W' (h : Below w.heap.size w W') => (show Fld W' S b p ∧ Spg W' s b k z oo ∧ TB W' A ls from ⟨F.below h F.le, G.below h (block_lt_of_cell G.c0), hT.below h⟩))
  have HPM := Lib.hid F.max
  have HT0 := Lib.hid hT
  have HEB := Lib.hid hE.hb
  clear hE hs hl hn0 hin h1 hN2 hN hR F G hT hTT hTa hTin hTl hcm
  go_enter Tryz.func43, Tryz.ntmps43
  go_upto_region 1 with (fail)
  rw [← HW0.out]
  go_wp2_with fail
  refine (HR.out _).mono ?_
  rintro e w' ⟨rfl, rfl⟩
  rw [HN.out]
  go_wp2_with fail
  refine HCF.out.mono ?_
  rintro e w' ⟨rfl, rfl⟩
  go_wp2_with fail
  refine (HCL.out _ HEB.out).mono ?_
  rintro _ w1 ⟨v1, rfl, ho1, hb1⟩
  obtain ⟨A1, n1, c1, rfl, hl1, hc1, _, _⟩ := ho1.shapeN
  go_wp2_with fail
  obtain ⟨W2, hW2⟩ : ∃ W2, W2 = w1.alloc (.cells #[.slice A1 n1 c1, .slice none 0 0, .slice none 0 0] 51) := ⟨_, rfl⟩
  obtain ⟨ob, hob⟩ : ∃ ob, ob = w1.heap.size := ⟨_, rfl⟩
  have hB2 : Blk W2 ob 51 #[.slice A1 n1 c1, .slice none 0 0, .slice none 0 0] := by rw [hW2, hob]; exact Blk.new _ _ _
  have hb2 : Below W0.heap.size W0 W2 := by rw [hW2]; exact hb1.alloc hb1.size _
  have ho2 : Own W2 W0.heap.size (.slice A1 n1 c1) l := by rw [hW2]; exact ho1.alloc' _
  have hne : some ob ≠ (Value.slice A1 n1 c1).ownBlock := fun e => by have := (ho1.lt ob e.symm).2; omega
  have hob0 : W0.heap.size ≤ ob := by rw [hob]; exact hb1.size
  rw [← hW2, ← hob]
  have HNE := Lib.hid hne
  have HO0 := Lib.hid hob0
  clear hW2 hob hb1 ho1 hne hob0
  have hn1 : n1 ≤ 4000000000000000000 := by have := HLL.out; omega
  refine (sort_any ho2 hl1 hn1).mono ?_
  rintro _ w3 ⟨rfl, ho3, hg3⟩
  have hB3 := Blk.grown hB2 hg3 HNE.out
  have hb3 := hb2.grown hg3 hb2.size (fun k hk => (ho2.lt k hk).1)
  have d3 := (hB3.cell 0).trans (show _ = some (.slice A1 n1 c1) from rfl)
  have HCC := Lib.hid (compact_any ho3 (by rw [List.length_mergeSort]; exact hl1) hn1)
  have HB3 := Lib.hid (And.intro hB3 (And.intro hb3 ho3))
  clear hB2 hb2 ho2 hB3 hb3 ho3 hg3 hl1 hn1
  go_wp2_with fail
  refine HCC.out.mono ?_
  rintro _ w4 ⟨rfl, ho4, hg4⟩
  rw [HCM.out] at ho4
  rw [HCM.out]
  have hB4 := Blk.grown HB3.out.1 hg4 HNE.out
  have hb4 := HB3.out.2.1.grown hg4 HB3.out.2.1.size (fun k hk => (HB3.out.2.2.lt k hk).1)
  obtain ⟨_, _, _, ev, hl4, _, _, hs4⟩ := ho4.shapeN
  injection ev with ev1 ev2 ev3
  subst ev1 ev2 ev3
  have HCL4 := Lib.hid (clone_any A1 T.length c1 T rfl (by have := HLS.out.2.2.2.2.1; have := HLS.out.2.2.1; omega) w4 hs4)
  have HB4 := Lib.hid (And.intro hB4 hb4)
  obtain ⟨tl, htl⟩ : ∃ tl, tl = T.length := ⟨_, rfl⟩
  rw [← htl] at HCL4 ⊢
  clear hB4 hb4 hl4 hs4 ho4 hg4 d3 HCC htl
  go_wp2_with fail
  refine HCL4.out.mono ?_
  rintro _ w5 ⟨v5, rfl, ho5, hb5⟩
  obtain ⟨A5, n5, c5, rfl, hl5, hc5, _, hs5⟩ := ho5.shapeN
  have HCI := Lib.hid (clipI_any A5 n5 c5 hc5 w5 (own_none ho5))
  have hB5 := Blk.below HB4.out.1 hb5 HB4.out.1.lt
  have d5 := (hB5.cell 0).trans (show _ = some (.slice A1 n1 c1) from rfl)
  have z5 := hB5.frozen 0
  have hobw : ob < w4.heap.size := HB4.out.1.lt
  obtain ⟨W6, hW6⟩ : ∃ W6, W6 = w5.setCell ⟨ob, 0, none⟩ (.slice A5 n5 n5) := ⟨_, rfl⟩
  have hg6 : w5.grownBy W6 (some ob) := by rw [hW6]; exact blk_grown
  have hB6 : Blk W6 ob 51 #[.slice A5 n5 n5, .slice none 0 0, .slice none 0 0] := by rw [hW6]; exact hB5.set_ 0 _
  have ho6 := own_past ho5 hg6 hobw
  have hb05 := HB4.out.2.trans (hb5.mono HB4.out.2.size)
  have hb06 := hb05.grown hg6 hb05.size (fun k hk => by injection hk with hk; have := HO0.out; omega)
  have KE : Hid (∀ W', W6.grownBy W' (some ob) → SL W' A5 T ∧ (Fld W' S b p ∧ Spg W' s b k z oo ∧ TB W' A ls) ∧ W'.cell? ⟨w.heap.size, 0, none⟩ = some (.pointer (some ⟨s, 0, none⟩)) ∧ W'.cell? ⟨w.heap.size + 1, 0, none⟩ = some (.slice A N c) ∧ Ent w W' (some ⟨s, 0, none⟩) A N c ∧ Below w.heap.size w W' ∧ Own W' w4.heap.size (.slice A5 n5 c5) T) := Lib.hid fun W' hg => by
    have hz := HE.out.hz
    have h0 := HO0.out
    have hb0 := hb06.grown hg hb06.size (fun k hk => by injection hk with hk; omega)
    have hE' := HE.out.below (hb0.mono (by omega))
    have hbw := HEB.out.trans (hb0.mono HEB.out.size)
    have how := ho6.keep fun g hgv => hg.block g (ho6.lt g hgv).2 (fun e => by injection e with e; have := (ho6.lt g hgv).1; omega)
    obtain ⟨_, _, _, ev, _, _, _, hsl⟩ := how.shapeN
    injection ev with ev1 ev2 ev3
    subst ev1 ev2 ev3
    exact ⟨hsl, HX.out W' hbw, hE'.cs, hE'.cr, hE', hbw, how⟩
  have HB6 := Lib.hid hB6
  have HL5 := Lib.hid hl5
  have HC5 := Lib.hid (And.intro hc5 hobw)
  have HW6 := Lib.hid hW6
  clear ho5 hl5 hc5 hs5 hB5 hobw hW6 hg6 hB6 ho6 hb05 hb06 hb5
  go_wp2_with fail
  refine HCI.out.mono ?_
  rintro _ _ ⟨rfl, rfl⟩
  go_upto_region 8 with (fail)
  rw [← HW6.out]
  have d6 := (HB6.out.cell 0).trans (show _ = some (.slice A5 n5 n5) from rfl)
  go_wp2
  obtain ⟨B1, hB1⟩ : ∃ B1, B1 = W6.heap.size := ⟨_, rfl⟩
  have hob1 : ob < B1 := by rw [hB1]; exact HB6.out.lt
  have HBZ := Lib.hid (show W6.heap.size ≤ B1 by rw [hB1]; exact Nat.le_refl _)
  have HOB1 := Lib.hid (And.intro hob1 (show B1 ≤ W6.heap.size by rw [hB1]; exact Nat.le_refl _))
  clear hB1 hob1 d6
  go_loopw [10, 37] (fun _ i wr => ∃ (kk : Nat) (v : Value) (us : List Value), kk ≤ T.length ∧ i = vi kk ∧ BldR wr B1 ob (.slice A5 n5 n5) v us ((openR p ls T).take kk) ∧ W6.grownBy wr (some ob)) (fun _ i _ => n5 - (intOf i).toNat)
  case atStart => exact ⟨0, .slice none 0 0, [], Nat.zero_le _, rfl, ⟨HB6.out, HOB1.out.1, HOB1.out.2, World.ownsRow_nil _ _ _ _, RowsOwn.nil _ _⟩, ⟨rfl, rfl, rfl, Nat.le_refl _, fun _ _ _ => rfl⟩⟩
  case round =>
    obtain ⟨kk, v, us, hk, rfl, hbld, hgr⟩ := hrel
    rw [HL5.out] at hk
    obtain ⟨AV, nV, cV, rfl, hnV, hcV⟩ := ownR_shape hbld.ro
    by_cases hlt : kk < n5
    · have hkT : kk < T.length := by rw [HL5.out]; exact hlt
      obtain ⟨ad, rfl, hab, hcell⟩ := (KE.out _ hgr).1.at_ hkT
      have hx := HLS.out.2.2.2.2.2.2 _ (List.getElem_mem hkT)
      obtain ⟨m, hm⟩ := Int.eq_ofNat_of_zero_le hx.1
      have htk := openR_take p ls T hkT hm
      rw [hm] at hcell hx
      have hmN : m < ls.length := by rw [HLS.out.1]; omega
      obtain ⟨ad2, A2, n2, c2, rfl, hb2, hc2, hl2, hn2, hs2, hi2⟩ := HT0.out m hmN
      have hrl := HLS.out.2.2.2.1 _ (List.getElem_mem hmN)
      rw [rowF_at hmN] at htk
      have HTK := Lib.hid htk
      have hsx : ∀ W', Below w.heap.size w W' → SL W' A2 ls[m] := fun W' h => hs2.below h
      have HI2 := Lib.hid hi2
      have HRL := Lib.hid hrl
      generalize ls[m] = x at *
      have HEL := Lib.hid (fun W' (hs : SL W' A2 x) (hc : W'.cell? ⟨b, 0, none⟩ = some (vi p)) => elements_any p b HPM.out A2 n2 c2 x hl2 HI2.out (by have := HRL.out; omega) W' hs hc)
      have HFD := Lib.hid (fun W' (G : Spg W' s b k z oo) => sfield_s s b k z oo W' G)
      have HSX := Lib.hid hsx
      have i1 : (0 : Int) ≤ (kk : Int) := by omega
      have i2 : (kk : Int) < (n5 : Int) := by omega
      have i3 : (0 : Int) ≤ (m : Int) := by omega
      have i4 : (m : Int) < (N : Int) := hx.2
      have hwr : IntKind.i64.wrap ((kk : Int) + 1) = (kk : Int) + 1 := IntWalk.i64_in _ (by have := HLS.out.2.2.2.2.1; have := HL5.out; have := HLS.out.2.2.1; omega)
      have HUS := Lib.hid (show us.length < 5864062014805 by have := hbld.rr.1; rw [List.length_take] at this; have := HLS.out.2.2.2.2.1; have := HL5.out; have := HLS.out.2.2.1; omega)
      have HBL := Lib.hid hbld
      have HC2 := Lib.hid (And.intro hb2 hc2)
      have hb11 : Below wr.heap.size wr wr.drew := below_drewN (Below.refl _ _) 1
      have kk1 : W6.grownBy wr.drew (some ob) := grownBy_trans hgr (grown_of_below hb11 _)
      have KS : Hid (∀ W', W6.grownBy W' (some ob) → W'.cell? ⟨w.heap.size, 0, none⟩ = some (.pointer (some ⟨s, 0, none⟩)) ∧ W'.cell? ⟨w.heap.size + 1, 0, none⟩ = some (.slice (some ad2) N c) ∧ W'.cell? (ad2.add m) = some (.slice A2 n2 c2)) := Lib.hid fun W' hg => by
        have h := KE.out W' hg
        exact ⟨h.2.2.1, h.2.2.2.1, (h.2.2.2.2.2.1.cell (p := ad2.add m) HC2.out.1).trans HC2.out.2⟩
      have c1 := (hbld.blk.cell 1).trans (show _ = some (.slice AV nV cV) from rfl)
      have c2' := ((Blk.drew hbld.blk).cell 1).trans (show _ = some (.slice AV nV cV) from rfl)
      clear htk hm hx hl2 hn2 hs2 hi2 hrl hmN hkT hbld hb2 hc2 hsx hab
      go_wp2_with fail
      refine wp_region_held_drew (S := fun w' => w'.cell? ⟨w.heap.size, 0, none⟩ = some (.pointer (some ⟨s, 0, none⟩)) ∧ w'.cell? ⟨w.heap.size + 1, 0, none⟩ = some (.slice (some ad2) N c) ∧ w'.cell? (ad2.add m) = some (.slice A2 n2 c2)) (by kernel_rfl) (KS.out _ kk1) (fun hHeld => ?_)
      refine tkH 0 ?_
      refine tkH 2 ?_
      refine tkH 4 ?_
      refine tkH 5 ?_
      refine tkH 6 ?_
      refine tkH 7 ?_
      refine wpAnyH_ready (rs := [1,3]) (by kernel_rfl) (by simp) ?_
      refine AllReadyH.cons rfl (fun K hK => ?_) (AllReadyH.cons rfl (fun K hK => ?_) AllReadyH.nil)
      · go_simp
        refine hK.out _ _ (by (first | exact KS.out _ (by assumption) | (simp only [Act.put]; exact KS.out _ (by assumption)))) (fun hHeld => ?_)
        clear hK K
        (try simp only [Act.put, List.setIfInBounds_toArray, List.set_cons_zero, List.set_cons_succ])
        refine stH 3 (fun K hK => ?_)
        go_simp
        refine (HFD.out _ (KE.out _ kk1).2.1.2.1).mono ?_
        rintro _ _ ⟨rfl, rfl⟩
        refine hK.out _ _ (by (first | exact KS.out _ (by assumption) | (simp only [Act.put]; exact KS.out _ (by assumption)))) (fun hHeld => ?_)
        clear hK K
        (try simp only [Act.put, List.setIfInBounds_toArray, List.set_cons_zero, List.set_cons_succ])
        refine stH 8 (fun K hK => ?_)
        go_simp
        refine (HEL.out _ (HSX.out _ (KE.out _ kk1).2.2.2.2.2.1) (KE.out _ kk1).2.1.1.c0).mono ?_
        rintro _ w8 ⟨v8, rfl, ho8, hb8⟩
        obtain ⟨A8, n8, c8, rfl, hl8, _, _, _⟩ := ho8.shapeN
        have hb8' := hb11.trans (hb8.mono hb11.size)
        have hbl8 := HBL.out.below hb8'
        have kk8 : W6.grownBy w8 (some ob) := grownBy_trans kk1 (grown_of_below hb8 _)
        have hba := (Below.refl w8.heap.size w8).alloc (Nat.le_refl _) (.cells #[.slice A8 n8 c8] 25)
        have kk8a : W6.grownBy (w8.alloc (.cells #[.slice A8 n8 c8] 25)) (some ob) := grownBy_trans kk8 (grown_of_below hba _)
        have d8 := (hbl8.blk.cell 1).trans (show _ = some (.slice AV nV cV) from rfl)
        have d8a := ((Blk.alloc hbl8.blk (.cells #[.slice A8 n8 c8] 25)).cell 1).trans (show _ = some (.slice AV nV cV) from rfl)
        have HB8 := Lib.hid (And.intro hbl8 (ho8.more (Nat.le_trans HBL.out.sz hb11.size)))
        clear ho8 hl8 hb8 hb8' hbl8 hba
        refine hK.out _ _ (by (first | exact KS.out _ (by assumption) | (simp only [Act.put]; exact KS.out _ (by assumption)))) (fun hHeld => ?_)
        clear hK K
        (try simp only [Act.put, List.setIfInBounds_toArray, List.set_cons_zero, List.set_cons_succ])
        refine stH 9 (fun K hK => ?_)
        go_simp
        refine hK.out _ _ (by (first | exact KS.out _ (by assumption) | (simp only [Act.put]; exact KS.out _ (by assumption)))) (fun hHeld => ?_)
        clear hK K
        (try simp only [Act.put, List.setIfInBounds_toArray, List.set_cons_zero, List.set_cons_succ])
        refine wpAnyH_ready (rs := [10]) (by kernel_rfl) (by simp) ?_
        refine AllReadyH.cons rfl (fun K hK => ?_) AllReadyH.nil
        refine step_appR w8 A8 n8 c8 (by rfl) _ _ (by rfl) B1 _ us (by rfl) (by rfl) HB8.out.1.ro HUS.out HB8.out.1.sz ?_
        intro v9 w9 hg9
        obtain ⟨hq9, hbld9, _⟩ := HB8.out.1.push HB8.out.2 hg9
        obtain ⟨A9, n9, c9, rfl, hn9, hc9⟩ := ownR_shape hg9.own
        have kk9 : W6.grownBy w9 (some ob) := grownBy_new kk8 hg9.grown fun j hj => Nat.le_trans HBZ.out (World.ownsRow.lt HB8.out.1.ro j hj).1
        have kk10 : W6.grownBy (w9.setCell ⟨ob, 1, none⟩ (.slice A9 n9 c9)) (some ob) := grownBy_trans kk9 blk_grown
        have d9 := (hq9.cell 1).trans (show _ = some (.slice AV nV cV) from rfl)
        have z9 := hq9.frozen 1
        have HB10 := Lib.hid hbld9
        clear hbld9 hq9 hg9 hn9 hc9
        refine hK.out _ _ (by (first | exact KS.out _ (by assumption) | (simp only [Act.put]; exact KS.out _ (by assumption)))) (fun hHeld => ?_)
        clear hK K
        (try simp only [Act.put, List.setIfInBounds_toArray, List.set_cons_zero, List.set_cons_succ])
        refine stH 11 (fun K hK => ?_)
        go_simp
        refine hK.out _ _ (by (first | exact KS.out _ (by assumption) | (simp only [Act.put]; exact KS.out _ (by assumption)))) (fun hHeld => ?_)
        clear hK K
        (try simp only [Act.put, List.setIfInBounds_toArray, List.set_cons_zero, List.set_cons_succ])
        refine stH 12 (fun K hK => ?_)
        go_simp
        refine hK.out _ _ (by (first | exact KS.out _ (by assumption) | (simp only [Act.put]; exact KS.out _ (by assumption)))) (fun hHeld => ?_)
        clear hK K
        (try simp only [Act.put, List.setIfInBounds_toArray, List.set_cons_zero, List.set_cons_succ])
        refine wpAnyH_done (by kernel_rfl) ?_ _
        go_wp2
        go_roundw
        case rel => exact ⟨kk + 1, _, _, by rw [HL5.out]; omega, by go_num, by rw [HTK.out]; exact HB10.out, kk10⟩
        case measure => simp [intOf]; omega
      · go_simp
        refine (HFD.out _ (KE.out _ kk1).2.1.2.1).mono ?_
        rintro _ _ ⟨rfl, rfl⟩
        refine hK.out _ _ (by (first | exact KS.out _ (by assumption) | (simp only [Act.put]; exact KS.out _ (by assumption)))) (fun hHeld => ?_)
        clear hK K
        (try simp only [Act.put, List.setIfInBounds_toArray, List.set_cons_zero, List.set_cons_succ])
        refine wpAnyH_ready (rs := [1,8]) (by kernel_rfl) (by simp) ?_
        refine AllReadyH.cons rfl (fun K hK => ?_) (AllReadyH.cons rfl (fun K hK => ?_) AllReadyH.nil)
        · go_simp
          refine hK.out _ _ (by (first | exact KS.out _ (by assumption) | (simp only [Act.put]; exact KS.out _ (by assumption)))) (fun hHeld => ?_)
          clear hK K
          (try simp only [Act.put, List.setIfInBounds_toArray, List.set_cons_zero, List.set_cons_succ])
          refine stH 8 (fun K hK => ?_)
          go_simp
          refine (HEL.out _ (HSX.out _ (KE.out _ kk1).2.2.2.2.2.1) (KE.out _ kk1).2.1.1.c0).mono ?_
          rintro _ w8 ⟨v8, rfl, ho8, hb8⟩
          obtain ⟨A8, n8, c8, rfl, hl8, _, _, _⟩ := ho8.shapeN
          have hb8' := hb11.trans (hb8.mono hb11.size)
          have hbl8 := HBL.out.below hb8'
          have kk8 : W6.grownBy w8 (some ob) := grownBy_trans kk1 (grown_of_below hb8 _)
          have hba := (Below.refl w8.heap.size w8).alloc (Nat.le_refl _) (.cells #[.slice A8 n8 c8] 25)
          have kk8a : W6.grownBy (w8.alloc (.cells #[.slice A8 n8 c8] 25)) (some ob) := grownBy_trans kk8 (grown_of_below hba _)
          have d8 := (hbl8.blk.cell 1).trans (show _ = some (.slice AV nV cV) from rfl)
          have d8a := ((Blk.alloc hbl8.blk (.cells #[.slice A8 n8 c8] 25)).cell 1).trans (show _ = some (.slice AV nV cV) from rfl)
          have HB8 := Lib.hid (And.intro hbl8 (ho8.more (Nat.le_trans HBL.out.sz hb11.size)))
          clear ho8 hl8 hb8 hb8' hbl8 hba
          refine hK.out _ _ (by (first | exact KS.out _ (by assumption) | (simp only [Act.put]; exact KS.out _ (by assumption)))) (fun hHeld => ?_)
          clear hK K
          (try simp only [Act.put, List.setIfInBounds_toArray, List.set_cons_zero, List.set_cons_succ])
          refine stH 9 (fun K hK => ?_)
          go_simp
          refine hK.out _ _ (by (first | exact KS.out _ (by assumption) | (simp only [Act.put]; exact KS.out _ (by assumption)))) (fun hHeld => ?_)
          clear hK K
          (try simp only [Act.put, List.setIfInBounds_toArray, List.set_cons_zero, List.set_cons_succ])
          refine wpAnyH_ready (rs := [10]) (by kernel_rfl) (by simp) ?_
          refine AllReadyH.cons rfl (fun K hK => ?_) AllReadyH.nil
          refine step_appR w8 A8 n8 c8 (by rfl) _ _ (by rfl) B1 _ us (by rfl) (by rfl) HB8.out.1.ro HUS.out HB8.out.1.sz ?_
          intro v9 w9 hg9
          obtain ⟨hq9, hbld9, _⟩ := HB8.out.1.push HB8.out.2 hg9
          obtain ⟨A9, n9, c9, rfl, hn9, hc9⟩ := ownR_shape hg9.own
          have kk9 : W6.grownBy w9 (some ob) := grownBy_new kk8 hg9.grown fun j hj => Nat.le_trans HBZ.out (World.ownsRow.lt HB8.out.1.ro j hj).1
          have kk10 : W6.grownBy (w9.setCell ⟨ob, 1, none⟩ (.slice A9 n9 c9)) (some ob) := grownBy_trans kk9 blk_grown
          have d9 := (hq9.cell 1).trans (show _ = some (.slice AV nV cV) from rfl)
          have z9 := hq9.frozen 1
          have HB10 := Lib.hid hbld9
          clear hbld9 hq9 hg9 hn9 hc9
          refine hK.out _ _ (by (first | exact KS.out _ (by assumption) | (simp only [Act.put]; exact KS.out _ (by assumption)))) (fun hHeld => ?_)
          clear hK K
          (try simp only [Act.put, List.setIfInBounds_toArray, List.set_cons_zero, List.set_cons_succ])
          refine stH 11 (fun K hK => ?_)
          go_simp
          refine hK.out _ _ (by (first | exact KS.out _ (by assumption) | (simp only [Act.put]; exact KS.out _ (by assumption)))) (fun hHeld => ?_)
          clear hK K
          (try simp only [Act.put, List.setIfInBounds_toArray, List.set_cons_zero, List.set_cons_succ])
          refine stH 12 (fun K hK => ?_)
          go_simp
          refine hK.out _ _ (by (first | exact KS.out _ (by assumption) | (simp only [Act.put]; exact KS.out _ (by assumption)))) (fun hHeld => ?_)
          clear hK K
          (try simp only [Act.put, List.setIfInBounds_toArray, List.set_cons_zero, List.set_cons_succ])
          refine wpAnyH_done (by kernel_rfl) ?_ _
          go_wp2
          go_roundw
          case rel => exact ⟨kk + 1, _, _, by rw [HL5.out]; omega, by go_num, by rw [HTK.out]; exact HB10.out, kk10⟩
          case measure => simp [intOf]; omega
        · go_simp
          refine (HEL.out _ (HSX.out _ (KE.out _ kk1).2.2.2.2.2.1) (KE.out _ kk1).2.1.1.c0).mono ?_
          rintro _ w8 ⟨v8, rfl, ho8, hb8⟩
          obtain ⟨A8, n8, c8, rfl, hl8, _, _, _⟩ := ho8.shapeN
          have hb8' := hb11.trans (hb8.mono hb11.size)
          have hbl8 := HBL.out.below hb8'
          have kk8 : W6.grownBy w8 (some ob) := grownBy_trans kk1 (grown_of_below hb8 _)
          have hba := (Below.refl w8.heap.size w8).alloc (Nat.le_refl _) (.cells #[.slice A8 n8 c8] 25)
          have kk8a : W6.grownBy (w8.alloc (.cells #[.slice A8 n8 c8] 25)) (some ob) := grownBy_trans kk8 (grown_of_below hba _)
          have d8 := (hbl8.blk.cell 1).trans (show _ = some (.slice AV nV cV) from rfl)
          have d8a := ((Blk.alloc hbl8.blk (.cells #[.slice A8 n8 c8] 25)).cell 1).trans (show _ = some (.slice AV nV cV) from rfl)
          have HB8 := Lib.hid (And.intro hbl8 (ho8.more (Nat.le_trans HBL.out.sz hb11.size)))
          clear ho8 hl8 hb8 hb8' hbl8 hba
          refine hK.out _ _ (by (first | exact KS.out _ (by assumption) | (simp only [Act.put]; exact KS.out _ (by assumption)))) (fun hHeld => ?_)
          clear hK K
          (try simp only [Act.put, List.setIfInBounds_toArray, List.set_cons_zero, List.set_cons_succ])
          refine wpAnyH_ready (rs := [1,9]) (by kernel_rfl) (by simp) ?_
          refine AllReadyH.cons rfl (fun K hK => ?_) (AllReadyH.cons rfl (fun K hK => ?_) AllReadyH.nil)
          · go_simp
            refine hK.out _ _ (by (first | exact KS.out _ (by assumption) | (simp only [Act.put]; exact KS.out _ (by assumption)))) (fun hHeld => ?_)
            clear hK K
            (try simp only [Act.put, List.setIfInBounds_toArray, List.set_cons_zero, List.set_cons_succ])
            refine stH 9 (fun K hK => ?_)
            go_simp
            refine hK.out _ _ (by (first | exact KS.out _ (by assumption) | (simp only [Act.put]; exact KS.out _ (by assumption)))) (fun hHeld => ?_)
            clear hK K
            (try simp only [Act.put, List.setIfInBounds_toArray, List.set_cons_zero, List.set_cons_succ])
            refine wpAnyH_ready (rs := [10]) (by kernel_rfl) (by simp) ?_
            refine AllReadyH.cons rfl (fun K hK => ?_) AllReadyH.nil
            refine step_appR w8 A8 n8 c8 (by rfl) _ _ (by rfl) B1 _ us (by rfl) (by rfl) HB8.out.1.ro HUS.out HB8.out.1.sz ?_
            intro v9 w9 hg9
            obtain ⟨hq9, hbld9, _⟩ := HB8.out.1.push HB8.out.2 hg9
            obtain ⟨A9, n9, c9, rfl, hn9, hc9⟩ := ownR_shape hg9.own
            have kk9 : W6.grownBy w9 (some ob) := grownBy_new kk8 hg9.grown fun j hj => Nat.le_trans HBZ.out (World.ownsRow.lt HB8.out.1.ro j hj).1
            have kk10 : W6.grownBy (w9.setCell ⟨ob, 1, none⟩ (.slice A9 n9 c9)) (some ob) := grownBy_trans kk9 blk_grown
            have d9 := (hq9.cell 1).trans (show _ = some (.slice AV nV cV) from rfl)
            have z9 := hq9.frozen 1
            have HB10 := Lib.hid hbld9
            clear hbld9 hq9 hg9 hn9 hc9
            refine hK.out _ _ (by (first | exact KS.out _ (by assumption) | (simp only [Act.put]; exact KS.out _ (by assumption)))) (fun hHeld => ?_)
            clear hK K
            (try simp only [Act.put, List.setIfInBounds_toArray, List.set_cons_zero, List.set_cons_succ])
            refine stH 11 (fun K hK => ?_)
            go_simp
            refine hK.out _ _ (by (first | exact KS.out _ (by assumption) | (simp only [Act.put]; exact KS.out _ (by assumption)))) (fun hHeld => ?_)
            clear hK K
            (try simp only [Act.put, List.setIfInBounds_toArray, List.set_cons_zero, List.set_cons_succ])
            refine stH 12 (fun K hK => ?_)
            go_simp
            refine hK.out _ _ (by (first | exact KS.out _ (by assumption) | (simp only [Act.put]; exact KS.out _ (by assumption)))) (fun hHeld => ?_)
            clear hK K
            (try simp only [Act.put, List.setIfInBounds_toArray, List.set_cons_zero, List.set_cons_succ])
            refine wpAnyH_done (by kernel_rfl) ?_ _
            go_wp2
            go_roundw
            case rel => exact ⟨kk + 1, _, _, by rw [HL5.out]; omega, by go_num, by rw [HTK.out]; exact HB10.out, kk10⟩
            case measure => simp [intOf]; omega
          · go_simp
            refine hK.out _ _ (by (first | exact KS.out _ (by assumption) | (simp only [Act.put]; exact KS.out _ (by assumption)))) (fun hHeld => ?_)
            clear hK K
            (try simp only [Act.put, List.setIfInBounds_toArray, List.set_cons_zero, List.set_cons_succ])
            refine stH 1 (fun K hK => ?_)
            go_simp
            refine hK.out _ _ (by (first | exact KS.out _ (by assumption) | (simp only [Act.put]; exact KS.out _ (by assumption)))) (fun hHeld => ?_)
            clear hK K
            (try simp only [Act.put, List.setIfInBounds_toArray, List.set_cons_zero, List.set_cons_succ])
            refine wpAnyH_ready (rs := [10]) (by kernel_rfl) (by simp) ?_
            refine AllReadyH.cons rfl (fun K hK => ?_) AllReadyH.nil
            refine step_appR w8 A8 n8 c8 (by rfl) _ _ (by rfl) B1 _ us (by rfl) (by rfl) HB8.out.1.ro HUS.out HB8.out.1.sz ?_
            intro v9 w9 hg9
            obtain ⟨hq9, hbld9, _⟩ := HB8.out.1.push HB8.out.2 hg9
            obtain ⟨A9, n9, c9, rfl, hn9, hc9⟩ := ownR_shape hg9.own
            have kk9 : W6.grownBy w9 (some ob) := grownBy_new kk8 hg9.grown fun j hj => Nat.le_trans HBZ.out (World.ownsRow.lt HB8.out.1.ro j hj).1
            have kk10 : W6.grownBy (w9.setCell ⟨ob, 1, none⟩ (.slice A9 n9 c9)) (some ob) := grownBy_trans kk9 blk_grown
            have d9 := (hq9.cell 1).trans (show _ = some (.slice AV nV cV) from rfl)
            have z9 := hq9.frozen 1
            have HB10 := Lib.hid hbld9
            clear hbld9 hq9 hg9 hn9 hc9
            refine hK.out _ _ (by (first | exact KS.out _ (by assumption) | (simp only [Act.put]; exact KS.out _ (by assumption)))) (fun hHeld => ?_)
            clear hK K
            (try simp only [Act.put, List.setIfInBounds_toArray, List.set_cons_zero, List.set_cons_succ])
            refine stH 11 (fun K hK => ?_)
            go_simp
            refine hK.out _ _ (by (first | exact KS.out _ (by assumption) | (simp only [Act.put]; exact KS.out _ (by assumption)))) (fun hHeld => ?_)
            clear hK K
            (try simp only [Act.put, List.setIfInBounds_toArray, List.set_cons_zero, List.set_cons_succ])
            refine stH 12 (fun K hK => ?_)
            go_simp
            refine hK.out _ _ (by (first | exact KS.out _ (by assumption) | (simp only [Act.put]; exact KS.out _ (by assumption)))) (fun hHeld => ?_)
            clear hK K
            (try simp only [Act.put, List.setIfInBounds_toArray, List.set_cons_zero, List.set_cons_succ])
            refine wpAnyH_done (by kernel_rfl) ?_ _
            go_wp2
            go_roundw
            case rel => exact ⟨kk + 1, _, _, by rw [HL5.out]; omega, by go_num, by rw [HTK.out]; exact HB10.out, kk10⟩
            case measure => simp [intOf]; omega
    · have ek : kk = n5 := by omega
      rw [show (openR p ls T).take kk = openR p ls T by rw [ek, ← HL5.out, ← openR_len p ls T, List.take_length]] at hbld
      have hJ0 : NodesJ (fun g => rootD (digL p k) (rowF ls) g.1 g.2) wr ob (.slice A5 n5 n5) (.slice AV nV cV) [] wr := ⟨.slice none 0 0, [], hbld.blk, World.ownsRow_nil _ _ _ _, UsAt.nil _, ⟨rfl, rfl, rfl, Nat.le_refl _, fun _ _ _ => rfl⟩⟩
      have hEE : ∀ W', wr.grownBy W' (some ob) → Fld W' S b p ∧ Spg W' s b k z oo ∧ TB W' A ls ∧ W'.cell? ⟨w.heap.size, 0, none⟩ = some (.pointer (some ⟨s, 0, none⟩)) ∧ W'.cell? ⟨w.heap.size + 1, 0, none⟩ = some (.slice A N c) := fun W' hg => by
        have h := KE.out W' (grownBy_trans hgr hg)
        exact ⟨h.2.1.1, h.2.1.2.1, h.2.1.2.2, h.2.2.1, h.2.2.2.1⟩
      have hid := hidden_gen 91 (enters_of Tryz.func91 (by kernel_rfl) rfl) #[.pointer (some ⟨ob, 0, none⟩), .pointer (some ⟨w.heap.size, 0, none⟩), .pointer (some ⟨w.heap.size + 1, 0, none⟩)] N HLS.out.2.2.1 A5 n5 n5 T HL5.out (by have := HLS.out.2.2.2.2.1; have := HL5.out; have := HLS.out.2.2.1; omega) HLS.out.2.2.2.2.2.1 (NodesJ (fun g => rootD (digL p k) (rowF ls) g.1 g.2) wr ob (.slice A5 n5 n5) (.slice AV nV cV)) (fun pre W W' h hb => h.below hb) (fun pre W h => by
          obtain ⟨_, _, _, _, _, hg⟩ := h
          exact (KE.out W (grownBy_trans hgr hg)).1)
        (fun pre a m W hj hpl h1 ha => open2_any p S b s k z oo A N c ls HLS.out.1 HLS.out.2.2.1 (fun l hl => by have := HLS.out.2.2.2.1 l hl; omega) ob _ _ _ _ wr hbld.blk.lt hEE pre a m W hj hpl h1 ha) N 0 HLS.out.2.1 (by omega) [] wr (Nat.zero_le _) hJ0
      rw [show Gp 0 (0 + N) = .agg #[vi 0, vi (N : Int)] by simp [Gp]] at hid
      have HID := Lib.hid hid
      have HBL := Lib.hid hbld
      have HGR := Lib.hid hgr
      have d0 := (hbld.blk.cell 0).trans (show _ = some (.slice A5 n5 n5) from rfl)
      have e3 := (KE.out _ hgr).2.2.2.1
      clear hid hJ0 hEE hbld hgr
      go_wp2_with fail
      refine HID.out.mono ?_
      rintro _ w9 ⟨⟨r, rfl⟩, hj9, _⟩
      rw [List.nil_append] at hj9
      obtain ⟨nv, vs, hB9, hN9, hU9, hg9⟩ := hj9
      obtain ⟨AN, nN, cN, rfl, hnN, hcN⟩ := ownR_shape hN9
      have HCA := Lib.hid (fun W => clipR_any AV nV cV hcV W (ownR_none HBL.out.ro))
      have HCN := Lib.hid (fun W => clipR_any AN nN cN hcN W (ownR_none hN9))
      have kk9 := grownBy_trans HGR.out hg9
      have hg9d : wr.grownBy w9.drew (some ob) := grownBy_trans hg9 (grown_of_below (below_drewN (Below.refl _ _) 1) _)
      have d9 := (hB9.cell 0).trans (show _ = some (.slice A5 n5 n5) from rfl)
      have k9 := KE.out _ kk9
      have hob1 := HOB1.out.1
      have hz := HE.out.hz
      have h0 := HO0.out
      have hc5 := HC5.out.2
      have d1 := (hB9.cell 1).trans (show _ = some (.slice AV nV cV) from rfl)
      have d2 := (hB9.cell 2).trans (show _ = some (.slice AN nN cN) from rfl)
      have z1 := hB9.frozen 1
      have z2 := hB9.frozen 2
      have hO9 : Blk w9.drew ob 51 #[.slice A5 n5 n5, .slice AV nV cV, .slice AN nN cN] := hB9
      have hQ9 : Blk w9.drew (w.heap.size + 1 + 1) 51 #[.slice none 0 0, .slice none 0 0, .slice none 0 0] := k9.2.2.2.2.1.ho
      have hgs : w9.drew.grownBy ((w9.drew.setCell ⟨ob, 1, none⟩ (.slice AV nV nV)).setCell ⟨ob, 2, none⟩ (.slice AN nN nN)) (some ob) := grownBy_trans blk_grown blk_grown
      have hfin := opened_fin (q := w.heap.size + 1 + 1) (ob := ob) (w := w) (w5 := w9.drew) (Own.drewN k9.2.2.2.2.2.2 1) (by omega) (fun g hg => by have := (k9.2.2.2.2.2.2.lt g hg).1; omega) (ownR_past HBL.out.ro hg9d hob1) (rowsOwn_past HBL.out.rr hg9d hob1) hob1 hN9 hU9 HBL.out.blk.lt (by omega) hO9 hQ9 hgs (by omega) (below_drewN k9.2.2.2.2.2.1 1)
        n5 nV nN (Nat.le_refl _) (by have := HLS.out.2.2.2.2.1; have := HLS.out.2.2.1; omega) (by rw [openR_len]; have := HLS.out.2.2.2.2.1; have := HLS.out.2.2.1; omega) (by have := hidL_le' T N 0 HLS.out.2.1; rw [List.length_map]; have := HLS.out.2.2.1; omega) (fun x hx => by have := HLS.out.2.2.2.2.2.2 x hx; have := HLS.out.2.2.1; constructor <;> omega) (openR_i64 p HPM.out ls T) (openR_r8 p ls T HLS.out.2.2.2.1) (fun t ht => by obtain ⟨g, _, rfl⟩ := List.mem_map.1 ht; exact rootD_len p k _ _ _)
      have HFIN := Lib.hid hfin.tup
      have hgs' : w9.grownBy ((w9.setCell ⟨ob, 1, none⟩ (.slice AV nV nV)).setCell ⟨ob, 2, none⟩ (.slice AN nN nN)) (some ob) := grownBy_trans blk_grown blk_grown
      have hQ10 := Blk.grown k9.2.2.2.2.1.ho hgs' (by intro e; injection e with e; omega)
      obtain ⟨hset, _⟩ := blk_set3 hQ10 (.slice A5 n5 n5) (.slice AV nV nV) (.slice AN nN nN)
      have q0 := (hset.cell 0).trans (show _ = some (.slice A5 n5 n5) from rfl)
      have q1 := (hset.cell 1).trans (show _ = some (.slice AV nV nV) from rfl)
      have q2 := (hset.cell 2).trans (show _ = some (.slice AN nN nN) from rfl)
      have HQ := Lib.hid (And.intro q0 (And.intro q1 q2))
      have f0 := (k9.2.2.2.2.1.ho.cell 0).trans (show _ = some (.slice none 0 0) from rfl)
      have f1 := (k9.2.2.2.2.1.ho.cell 1).trans (show _ = some (.slice none 0 0) from rfl)
      have f2 := (k9.2.2.2.2.1.ho.cell 2).trans (show _ = some (.slice none 0 0) from rfl)
      have y0 := k9.2.2.2.2.1.ho.frozen 0
      have y1 := k9.2.2.2.2.1.ho.frozen 1
      have y2 := k9.2.2.2.2.1.ho.frozen 2
      have hqo : ¬ w.heap.size + 1 + 1 = ob := by omega
      clear hfin hg9d hB9 hN9 hU9 hg9 hO9 hQ9 hgs hgs' hQ10 hset q0 q1 q2 kk9 k9 HID d0 hob1 hz h0 hc5 e3
      go_wp2
      refine wp_region_held_drew (S := fun _ => True) (by kernel_rfl) trivial (fun hHeld => ?_)
      refine tkH 0 ?_
      refine tkH 3 ?_
      refine wpAnyH_ready (rs := [1,4]) (by kernel_rfl) (by simp) ?_
      refine AllReadyH.cons rfl (fun K hK => ?_) (AllReadyH.cons rfl (fun K hK => ?_) AllReadyH.nil)
      · go_simp
        refine hK.out _ _ trivial (fun hHeld => ?_)
        clear hK K
        (try simp only [Act.put, List.setIfInBounds_toArray, List.set_cons_zero, List.set_cons_succ])
        refine wpAnyH_ready (rs := [2,4]) (by kernel_rfl) (by simp) ?_
        refine AllReadyH.cons rfl (fun K hK => ?_) (AllReadyH.cons rfl (fun K hK => ?_) AllReadyH.nil)
        · go_simp
          refine (HCA.out _).mono ?_
          rintro _ _ ⟨rfl, rfl⟩
          refine hK.out _ _ trivial (fun hHeld => ?_)
          clear hK K
          (try simp only [Act.put, List.setIfInBounds_toArray, List.set_cons_zero, List.set_cons_succ])
          refine stH 4 (fun K hK => ?_)
          go_simp
          refine hK.out _ _ trivial (fun hHeld => ?_)
          clear hK K
          (try simp only [Act.put, List.setIfInBounds_toArray, List.set_cons_zero, List.set_cons_succ])
          refine tkH 6 ?_
          refine stH 5 (fun K hK => ?_)
          go_simp
          refine (HCN.out _).mono ?_
          rintro _ _ ⟨rfl, rfl⟩
          refine hK.out _ _ trivial (fun hHeld => ?_)
          clear hK K
          (try simp only [Act.put, List.setIfInBounds_toArray, List.set_cons_zero, List.set_cons_succ])
          refine stH 7 (fun K hK => ?_)
          go_simp
          refine hK.out _ _ trivial (fun hHeld => ?_)
          clear hK K
          (try simp only [Act.put, List.setIfInBounds_toArray, List.set_cons_zero, List.set_cons_succ])
          refine stH 8 (fun K hK => ?_)
          go_simp
          refine hK.out _ _ trivial (fun hHeld => ?_)
          clear hK K
          (try simp only [Act.put, List.setIfInBounds_toArray, List.set_cons_zero, List.set_cons_succ])
          refine stH 9 (fun K hK => ?_)
          go_simp
          refine hK.out _ _ trivial (fun hHeld => ?_)
          clear hK K
          (try simp only [Act.put, List.setIfInBounds_toArray, List.set_cons_zero, List.set_cons_succ])
          refine wpAnyH_done (by kernel_rfl) ?_ _
          go_wp2
          obtain ⟨q0, q1, q2⟩ := HQ.out
          exact bodyPost_ret (v := .tuple #[.agg #[.slice A5 n5 n5, .slice AV nV nV, .slice AN nN nN], .nilIface]) (by simp [results, Tryz.results43, go_sem, q0, q1, q2]) rfl HFIN.out
        · go_simp
          refine hK.out _ _ trivial (fun hHeld => ?_)
          clear hK K
          (try simp only [Act.put, List.setIfInBounds_toArray, List.set_cons_zero, List.set_cons_succ])
          refine stH 2 (fun K hK => ?_)
          go_simp
          refine (HCA.out _).mono ?_
          rintro _ _ ⟨rfl, rfl⟩
          refine hK.out _ _ trivial (fun hHeld => ?_)
          clear hK K
          (try simp only [Act.put, List.setIfInBounds_toArray, List.set_cons_zero, List.set_cons_succ])
          refine tkH 6 ?_
          refine stH 5 (fun K hK => ?_)
          go_simp
          refine (HCN.out _).mono ?_
          rintro _ _ ⟨rfl, rfl⟩
          refine hK.out _ _ trivial (fun hHeld => ?_)
          clear hK K
          (try simp only [Act.put, List.setIfInBounds_toArray, List.set_cons_zero, List.set_cons_succ])
          refine stH 7 (fun K hK => ?_)
          go_simp
          refine hK.out _ _ trivial (fun hHeld => ?_)
          clear hK K
          (try simp only [Act.put, List.setIfInBounds_toArray, List.set_cons_zero, List.set_cons_succ])
          refine stH 8 (fun K hK => ?_)
          go_simp
          refine hK.out _ _ trivial (fun hHeld => ?_)
          clear hK K
          (try simp only [Act.put, List.setIfInBounds_toArray, List.set_cons_zero, List.set_cons_succ])
          refine stH 9 (fun K hK => ?_)
          go_simp
          refine hK.out _ _ trivial (fun hHeld => ?_)
          clear hK K
          (try simp only [Act.put, List.setIfInBounds_toArray, List.set_cons_zero, List.set_cons_succ])
          refine wpAnyH_done (by kernel_rfl) ?_ _
          go_wp2
          obtain ⟨q0, q1, q2⟩ := HQ.out
          exact bodyPost_ret (v := .tuple #[.agg #[.slice A5 n5 n5, .slice AV nV nV, .slice AN nN nN], .nilIface]) (by simp [results, Tryz.results43, go_sem, q0, q1, q2]) rfl HFIN.out
      · go_simp
        refine hK.out _ _ trivial (fun hHeld => ?_)
        clear hK K
        (try simp only [Act.put, List.setIfInBounds_toArray, List.set_cons_zero, List.set_cons_succ])
        refine stH 1 (fun K hK => ?_)
        go_simp
        refine hK.out _ _ trivial (fun hHeld => ?_)
        clear hK K
        (try simp only [Act.put, List.setIfInBounds_toArray, List.set_cons_zero, List.set_cons_succ])
        refine stH 2 (fun K hK => ?_)
        go_simp
        refine (HCA.out _).mono ?_
        rintro _ _ ⟨rfl, rfl⟩
        refine hK.out _ _ trivial (fun hHeld => ?_)
        clear hK K
        (try simp only [Act.put, List.setIfInBounds_toArray, List.set_cons_zero, List.set_cons_succ])
        refine tkH 6 ?_
        refine stH 5 (fun K hK => ?_)
        go_simp
        refine (HCN.out _).mono ?_
        rintro _ _ ⟨rfl, rfl⟩
        refine hK.out _ _ trivial (fun hHeld => ?_)
        clear hK K
        (try simp only [Act.put, List.setIfInBounds_toArray, List.set_cons_zero, List.set_cons_succ])
        refine stH 7 (fun K hK => ?_)
        go_simp
        refine hK.out _ _ trivial (fun hHeld => ?_)
        clear hK K
        (try simp only [Act.put, List.setIfInBounds_toArray, List.set_cons_zero, List.set_cons_succ])
        refine stH 8 (fun K hK => ?_)
        go_simp
        refine hK.out _ _ trivial (fun hHeld => ?_)
        clear hK K
        (try simp only [Act.put, List.setIfInBounds_toArray, List.set_cons_zero, List.set_cons_succ])
        refine stH 9 (fun K hK => ?_)
        go_simp
        refine hK.out _ _ trivial (fun hHeld => ?_)
        clear hK K
        (try simp only [Act.put, List.setIfInBounds_toArray, List.set_cons_zero, List.set_cons_succ])
        refine wpAnyH_done (by kernel_rfl) ?_ _
        go_wp2
        obtain ⟨q0, q1, q2⟩ := HQ.out
        exact bodyPost_ret (v := .tuple #[.agg #[.slice A5 n5 n5, .slice AV nV nV, .slice AN nN nN], .nilIface]) (by simp [results, Tryz.results43, go_sem, q0, q1, q2]) rfl HFIN.out
end Go.Proofs.YteceghbjjnknbaaGreat

namespace Go.Proofs.YteceghbjjnknbaaGreat
open Go.RowKit Zp
theorem SL.stay {w w' : World} {g : Nat} {l : List Int} (h : SL w (some ⟨g, 0, none⟩) l) (hs : w'.heap[g]? = w.heap[g]?) (hz : w.heap.size ≤ w'.heap.size) : SL w' (some ⟨g, 0, none⟩) l :=
  ⟨h.1, fun hn => by
    obtain ⟨ad, e, hb, hc⟩ := h.2 hn
    injection e with e
    subst e
    exact ⟨_, rfl, Nat.lt_of_lt_of_le hb hz, fun j u hu => (World.cell?_of_block (by rw [block_of_add]; exact hs)).trans (hc j u hu)⟩⟩
theorem own_keepC {w w' : World} {base x : Nat} {v : Value} {xs : List Int} (h : Own w base v xs) (hg : w.grownBy w' (some x)) (hx : x < base) : Own w' base v xs :=
  h.keep fun g hgv => hg.block g (h.lt g hgv).2 (fun e => by injection e with e; have := (h.lt g hgv).1; omega)
theorem Chn.pledge {w w' : World} {c s x : Nat} {D : List Int} {cs : Array Value} (h : Chn w c s D) (hx : Blk w x 53 cs) (hg : w.grownBy w' (some x)) : Chn w' c s D := by
  obtain ⟨g, cap, t, ds, h1, h2, h3, h4, h5, h6, h7, h8⟩ := h
  have hc : c ≠ x := Blk.ne_ h1 hx (by decide)
  have hgx : g ≠ x := Blk.ne_ h2 hx (h3.ne (by decide) (by decide))
  exact ⟨g, cap, t, ds, Blk.grown h1 hg (by intro e; injection e with e; exact hc e), h2.grown hg (by intro e; injection e with e; exact hgx e), h3, h4.far hg hgx, h5, h6, h7, h8⟩
theorem own_pledge {w w' : World} {base x : Nat} {v : Value} {xs : List Int} {cs : Array Value} (h : Own w base v xs) (hx : Blk w x 53 cs) (hg : w.grownBy w' (some x)) : Own w' base v xs :=
  h.safe (Safe.one hg hx ⟨by decide, by decide, by decide⟩)
structure OpS (w5 W : World) (c s P : Nat) (cs : Array Value) (D : List Int) : Prop where
  g : w5.grownBy W (some c)
  lo : w5.heap.size ≤ P
  p : Blk W P 53 cs
  ch : Chn W c s D
section
variable {w5 W W' : World} {c s P : Nat} {cs : Array Value} {D D' : List Int}
theorem OpS.ne (h : OpS w5 W c s P cs D) : P ≠ c := by
  obtain ⟨v, hv⟩ := h.ch.obj
  exact h.p.ne_ hv (by decide)
theorem OpS.step (h : OpS w5 W c s P cs D) (hg : W.grownBy W' (some c)) (hC : Chn W' c s D') : OpS w5 W' c s P cs D' :=
  ⟨grownBy_trans h.g hg, h.lo, h.p.grown hg (by intro e; injection e with e; exact h.ne e), hC⟩
theorem OpS.below (h : OpS w5 W c s P cs D) (hb : Below W.heap.size W W') : OpS w5 W' c s P cs D :=
  ⟨grownBy_trans h.g (grown_of_below hb _), h.lo, h.p.below hb h.p.lt, h.ch.below hb⟩
theorem OpS.store (h : OpS w5 W c s P cs D) (i : Nat) (u : Value) : OpS w5 (W.setCell ⟨P, i, none⟩ u) c s P (cs.setIfInBounds i u) D :=
  ⟨grown_two h.g blk_grown h.lo, h.lo, h.p.set_ i u, h.ch.pledge h.p blk_grown⟩
theorem OpS.put (h : OpS w5 W c s P cs D) {ds : Array Value} (hg : W.grownBy W' (some P)) (hp : Blk W' P 53 ds) : OpS w5 W' c s P ds D :=
  ⟨grown_two h.g hg h.lo, h.lo, hp, h.ch.pledge h.p hg⟩
end
def POpenIs (p kk v nd : Nat) [NeZero p] (s0 : Fin p) (T : Nat → Fin p) (D at_ : List Int) (asked c s : Nat) (w : World) (e : Ending) (w' : World) : Prop :=
  ∃ (g : Nat) (Am : Option Addr) (cm : Nat) (Ap : Option Addr) (cp : Nat) (A0 : Option Addr) (n0 c0 : Nat) (AR : Option Addr) (nR cR : Nat) (AN : Option Addr) (nN cN : Nat),
    e = .returned (.tuple #[.agg #[.slice (some ⟨g, 0, none⟩) 4 4, .slice Am (2 ^ (v - v / 2)) cm, .slice Ap (2 ^ (v - v / 2)) cp, .slice A0 n0 c0, .slice AR nR cR, .slice AN nN cN], vi (fv (extF T (els p at_))), .nilIface]) ∧
    (∀ W', Safe w' W' → SL W' (some ⟨g, 0, none⟩) (proot p kk T (v / 2) (v - v / 2) nd s0 (rootI p nd)) ∧
    SL W' Am (pmix p kk T (v / 2) (v - v / 2) nd s0 (rootI p nd) D at_) ∧ SL W' Ap (ppnt p T (v / 2) (v - v / 2) at_) ∧
    OpnAt W' A0 n0 c0 (ppl p kk T (v / 2) (v - v / 2) nd s0 (rootI p nd) D at_ asked) AR nR cR (openR p (pcols p T (v / 2) (v - v / 2) nd s0 (rootI p nd)) (ppl p kk T (v / 2) (v - v / 2) nd s0 (rootI p nd) D at_ asked)) AN nN cN ((hidL (ppl p kk T (v / 2) (v - v / 2) nd s0 (rootI p nd) D at_ asked) 0 nd).map fun g => rootD (digL p kk) (rowF (pcols p T (v / 2) (v - v / 2) nd s0 (rootI p nd))) g.1 g.2)) ∧
    w.grownBy w' (some c)
end Go.Proofs.YteceghbjjnknbaaGreat

namespace Go.Proofs.YteceghbjjnknbaaGreat
open Go.RowKit Zp
set_option maxRecDepth 100000 in
set_option maxHeartbeats 4000000 in
theorem popen_any (p S b s kk zz c Dd v nd : Nat) [NeZero p] (s0 : Fin p) (oo : Nat → Nat → Fin p) (hv : v ≤ 12) (hroom : 2 ^ (v - v / 2) ≤ nd / 2) (A : Option Addr) (n cA : Nat) (l : List Int) (hl : l.length = n) (hI : ∀ x ∈ l, I64 x) (hne : n = 2 ^ v) (hnc : n ≤ cA) (hcA : cA ≤ 9223372036854775807)
    (B : Option Addr) (cB : Nat) (xs : List Int) (hxl : xs.length = v) (hcB : v ≤ cB) (hcB9 : cB ≤ 9223372036854775807) (hxI : ∀ x ∈ xs, I64 x) (asked : Nat) (ha1 : 1 ≤ asked) (ha2 : asked ≤ 64) (D : List Int) (wc w : World) (hbc : Below wc.heap.size wc w) (hcc : wc.heap.size ≤ c) (hD : Dom wc S Dd b p nd s0) (G : Spg wc s b kk zz oo) (hs : SL wc A l) (hx : SL wc B xs) (hC : Chn w c s D) :
    Calls Tryz.prog 13 #[.pointer (some ⟨s, 0, none⟩), .pointer (some ⟨c, 0, none⟩), .pointer (some ⟨Dd, 0, none⟩), .slice A n cA, .slice B v cB, vi asked] w (POpenIs p kk v nd s0 (tabF p l) D xs asked c s w) := by
  have hnp := hD.size.pos
  have hn2 := hD.size.le
  have hp2 := hD.fld.max
  have hp1 := hD.fld.two
  have hcw : c < w.heap.size := hC.lt
  have hSc : S ≤ c := Nat.le_trans hD.fld.le hcc
  have hsc : s < c := Nat.lt_of_lt_of_le (block_lt_of_cell G.c0) hcc
  -- everything that stood before the chain
  have HB0 : Hid (∀ W, w.grownBy W (some c) → Below wc.heap.size wc W) := Lib.hid fun W hg => hbc.grown hg hbc.size (fun j hj => by injection hj with hj; omega)
  have HK : Hid (∀ W, w.grownBy W (some c) → Dom W S Dd b p nd s0 ∧ Spg W s b kk zz oo ∧ SL W A l ∧ SL W B xs) := Lib.hid fun W hg => by
    have h := HB0.out W hg
    exact ⟨hD.below h hD.le, G.below h (block_lt_of_cell G.c0), hs.below h, hx.below h⟩
  obtain ⟨va, hva⟩ : ∃ va, va = v / 2 := ⟨_, rfl⟩
  obtain ⟨vb, hvb⟩ : ∃ vb, vb = v - va := ⟨_, rfl⟩
  obtain ⟨T, hT⟩ : ∃ T, T = tabF p l := ⟨_, rfl⟩
  obtain ⟨W0, hW0⟩ : ∃ W0, W0 = (w.alloc (.cells #[.slice B v cB] 25)).alloc (.cells #[.slice none 0 0, .slice none 0 0, .slice none 0 0, .slice none 0 0, .slice none 0 0, .slice none 0 0] 53) := ⟨_, rfl⟩
  have hb0 : Below w.heap.size w W0 := by rw [hW0]; exact ((Below.refl _ _).alloc (Nat.le_refl _) _).alloc (by simp) _
  have hs0 : W0.heap.size = w.heap.size + 2 := by rw [hW0]; simp
  have hBa : Blk W0 w.heap.size 25 #[.slice B v cB] := by rw [hW0]; exact (Blk.new _ _ _).alloc _
  have hBz : Blk W0 (w.heap.size + 1) 53 #[.slice none 0 0, .slice none 0 0, .slice none 0 0, .slice none 0 0, .slice none 0 0, .slice none 0 0] := by
    rw [hW0]
    have h := Blk.new (w.alloc (.cells #[.slice B v cB] 25)) 53 #[.slice none 0 0, .slice none 0 0, .slice none 0 0, .slice none 0 0, .slice none 0 0, .slice none 0 0]
    rw [World.size_alloc] at h
    exact h
  have hg0 := grown_of_below hb0 (some c)
  have HO := Lib.hid (of_yes b Dd v nd hv (by omega) A n cA hne W0 (HK.out _ hg0).1.c0 (HK.out _ hg0).1.c1)
  have HR := Lib.hid (show decide (2 ^ (v - v / 2) ≤ nd / 2) = true from decide_eq_true hroom)
  have HW0 := Lib.hid hW0
  have H0 := Lib.hid (And.intro hb0 (And.intro hs0 (And.intro hBa hBz)))
  have HC := Lib.hid hC
  have HL := Lib.hid (And.intro hl (And.intro hI hne))
  have HX := Lib.hid (And.intro hxl hxI)
  have HVA := Lib.hid (And.intro hva (And.intro hvb hT))
  have HRW := Lib.hid (fun (x : Nat) (W : World) F hX hs => rows_any p S b x Dd v hv A n cA l hl hI hne hnc hcA W F hX hs)
  have HCL := Lib.hid (fun (x : Nat) A' R' cA' (W : World) hR hD hX hT => columns_any p S b x Dd v nd s0 hv (tabF p l) A' R' cA' hR W hD hX hT)
  have HTR := Lib.hid (fun A' c' (W : World) F G hT => tRoot_yes p S b s kk zz oo A' nd c' (pcols p (tabF p l) (v / 2) (v - v / 2) nd s0 (rootI p nd)) pcols_length hnp hn2 (fun q hq => by
    obtain ⟨j, _, rfl⟩ := List.mem_map.1 hq
    rw [pcol_length]
    have : 2 ^ (v / 2) ≤ 2 ^ 12 := Nat.pow_le_pow_right (n := 2) (by omega) (show v / 2 ≤ 12 by omega)
    omega) W F G hT)
  have HASK := Lib.hid (fun W => asks_any (asked : Int) (by constructor <;> omega) W)
  have HASK1 := Lib.hid (show decide ((1 : Int) ≤ (asked : Int) ∧ (asked : Int) ≤ 64) = true from decide_eq_true (by omega))
  have hwab : IntKind.i64.wrap ((va : Int) + (vb : Int)) = (v : Int) := by rw [IntWalk.i64_in _ (by constructor <;> omega)]; omega
  have tab0 : ((v : Int) != (v : Int)) = false := by simp
  clear hb0 hs0 hBa hBz hg0 hW0 hC hl hI hne hxl hxI hva hvb hT hs hx hD G hbc hroom
  go_enter Tryz.func13, Tryz.ntmps13
  go_upto_region 1 with (fail)
  rw [← HW0.out]
  go_wp2_with fail
  refine HO.out.mono ?_
  rintro _ w2 ⟨x, rfl, hx, hX, hb⟩
  rw [HR.out]
  have HX2 := Lib.hid (And.intro hX hb)
  clear hX hb
  go_upto_region 2 with (fail)
  obtain ⟨W3, hW3⟩ : ∃ W3, W3 = w2.alloc (.cells #[.pointer (some ⟨x, 0, none⟩)] 97) := ⟨_, rfl⟩
  rw [← hW3]
  obtain ⟨kA, hkA⟩ : ∃ kA, kA = w.heap.size := ⟨_, rfl⟩
  obtain ⟨kx, hkx⟩ : ∃ kx, kx = w2.heap.size := ⟨_, rfl⟩
  rw [← hkA, ← hkx]
  have hb03 : Below W0.heap.size W0 W3 := HX2.out.2.trans (by rw [hW3]; exact ((Below.refl _ _).alloc (Nat.le_refl _) _).mono HX2.out.2.size)
  have hs03 := hb03.size
  have hb3 : Below w.heap.size w W3 := H0.out.1.trans (hb03.mono H0.out.1.size)
  have hA3 : Blk W3 kA 25 #[.slice B v cB] := by rw [hkA]; exact H0.out.2.2.1.below hb03 H0.out.2.2.1.lt
  have hZ3 : Blk W3 (kA + 1) 53 #[.slice none 0 0, .slice none 0 0, .slice none 0 0, .slice none 0 0, .slice none 0 0, .slice none 0 0] := by rw [hkA]; exact H0.out.2.2.2.below hb03 H0.out.2.2.2.lt
  have hx3 : Blk W3 kx 97 #[.pointer (some ⟨x, 0, none⟩)] := by rw [hW3, hkx]; exact Blk.new _ _ _
  have hX3 : ShapeAt W3 x b Dd v := Blk.below HX2.out.1 (by rw [hW3]; exact (Below.refl _ _).alloc (Nat.le_refl _) _) (Blk.lt HX2.out.1)
  have e0 := (hA3.cell 0).trans (show _ = some (.slice B v cB) from rfl)
  have e1 := (hx3.cell 0).trans (show _ = some (.pointer (some ⟨x, 0, none⟩)) from rfl)
  have e2 := (Blk.cell hX3 2).trans (show _ = some (vi ((v / 2 : Nat) : Int)) from rfl)
  have e3 := (Blk.cell hX3 3).trans (show _ = some (vi ((v - v / 2 : Nat) : Int)) from rfl)
  rw [← HVA.out.1] at e2 e3
  rw [← HVA.out.2.1] at e3
  have HKA := Lib.hid (And.intro hkA (show c < kA by omega))
  have HGR := Lib.hid (And.intro (show kA + 1 < kx by have h1 := HX2.out.2.size; have h2 := H0.out.2.1; omega) (show kx ≠ kA + 1 by have h1 := HX2.out.2.size; have h2 := H0.out.2.1; omega))
  have HKX := Lib.hid (show c < kx by have := HX2.out.2.size; have := H0.out.1.size; omega)
  have HXC := Lib.hid (show c < x by have := H0.out.1.size; omega)
  have H3 := Lib.hid (And.intro hb3 (And.intro hA3 (And.intro hZ3 (And.intro hx3 hX3))))
  clear hW3 hkA hkx hb03 hs03 hb3 hA3 hZ3 hx3 hX3 hx
  go_quiet (fail)
  have e1' : (W3.drewN nq).cell? ⟨kx, 0, none⟩ = some (.pointer (some ⟨x, 0, none⟩)) := e1
  go_wp2_with fail
  refine (HASK.out _).mono ?_
  rintro _ _ ⟨rfl, rfl⟩
  rw [HASK1.out]
  have e1'' : (W3.drewN nq).cell? ⟨kx, 0, none⟩ = some (.pointer (some ⟨x, 0, none⟩)) := e1
  have hbd3 : Below w.heap.size w (W3.drewN nq) := below_drewN H3.out.1 _
  have HRW3 := Lib.hid (HRW.out x (W3.drewN nq) (HK.out _ (grown_of_below hbd3 _)).1.fld H3.out.2.2.2.2 (HK.out _ (grown_of_below hbd3 _)).2.2.1)
  clear hbd3
  go_wp2_with fail
  refine HRW3.out.mono ?_
  rintro _ w4 ⟨v4, us, rfl, ho4, hr4, hb34⟩
  obtain ⟨A4, n4, c4, rfl, hn4, _⟩ := ownR_shape ho4
  have hn4' : n4 = 2 ^ (v / 2) := by rw [← hn4, hr4.1, rowsP_len]
  have hb4 : Below w.heap.size w w4 := (below_drewN H3.out.1 _).trans (hb34.mono H3.out.1.size)
  have hT4 := tb_own ho4 hr4 (rowsP_i64 _ _ _ hp2)
  rw [← hn4'] at hT4
  have hX4 : ShapeAt w4 x b Dd v := Blk.below (Blk.drewN H3.out.2.2.2.2 nq) hb34 (Blk.lt H3.out.2.2.2.2)
  have f1 := (hb34.cell (block_lt_of_cell e1'')).trans e1''
  have HCL4 := Lib.hid (HCL.out x A4 n4 c4 w4 hn4' (HK.out _ (grown_of_below hb4 _)).1 hX4 hT4)
  have H4 := Lib.hid (And.intro ho4 (And.intro hr4 (And.intro hb34 (And.intro hn4' hb4))))
  clear ho4 hr4 hb34 hn4 hn4' hb4 hT4 hX4
  go_wp2_with fail
  refine HCL4.out.mono ?_
  rintro _ w5 ⟨gC, rfl, hgC, hT5, hb45⟩
  have hb5 := H4.out.2.2.2.2.trans (hb45.mono H4.out.2.2.2.2.size)
  have hk5 := HK.out _ (grown_of_below hb5 _)
  have HTR5 := Lib.hid (HTR.out (some ⟨gC, 0, none⟩) nd w5 hk5.1.fld hk5.2.1 (hT5 w5 (Safe.refl _)))
  have H5 := Lib.hid (And.intro hT5 (And.intro hb45 hb5))
  clear hgC hT5 hb45 hb5 hk5
  go_wp2_with fail
  refine HTR5.out.mono ?_
  rintro _ w6 ⟨gR, rfl, ⟨csR, hR8⟩, hsR, hlR, hiR, hgR, hb56⟩
  obtain ⟨root, hroot⟩ : ∃ root, root = rootD (digL p kk) (rowF (pcols p (tabF p l) (v / 2) (v - v / 2) nd s0 (rootI p nd))) 0 nd := ⟨_, rfl⟩
  rw [← hroot] at hsR hlR hiR
  have hb6 := H5.out.2.2.trans (hb56.mono H5.out.2.2.size)
  have hC6 := HC.out.below hb6
  have K6 : Hid (∀ W, w6.grownBy W (some c) → w.grownBy W (some c) ∧ Blk W kA 25 #[.slice B v cB] ∧ Blk W (kA + 1) 53 #[.slice none 0 0, .slice none 0 0, .slice none 0 0, .slice none 0 0, .slice none 0 0, .slice none 0 0] ∧ Blk W kx 97 #[.pointer (some ⟨x, 0, none⟩)] ∧ ShapeAt W x b Dd v ∧
      TB W A4 (rowsP (tabF p l) (v - v / 2) (2 ^ (v / 2))) ∧ TB W (some ⟨gC, 0, none⟩) (pcols p (tabF p l) (v / 2) (v - v / 2) nd s0 (rootI p nd)) ∧ SL W (some ⟨gR, 0, none⟩) root ∧ Blk W gR 66 csR) := Lib.hid fun W hg => by
    have hb36 : Below W3.heap.size W3 w6 := (below_drewN (Below.refl _ W3) nq).trans ((H4.out.2.2.1.trans ((H5.out.2.1.trans (hb56.mono H5.out.2.1.size)).mono H4.out.2.2.1.size)))
    have hsafe : Safe w6 W := by obtain ⟨cv, hcv⟩ := hC6.obj; exact Safe.one hg hcv ⟨by decide, by decide, by decide⟩
    have hb46 : Below w4.heap.size w4 w6 := H5.out.2.1.trans (hb56.mono H5.out.2.1.size)
    have key : ∀ {k : Nat} {t : TypeId} {cs : Array Value}, Blk W3 k t cs → c < k → Blk W k t cs := fun h hk => (h.below hb36 h.lt).grown hg (by intro e; injection e with e; omega)
    exact ⟨grownBy_trans (grown_of_below hb6 _) hg, key H3.out.2.1 HKA.out.2, key H3.out.2.2.1 (by have := HKA.out.2; omega), key H3.out.2.2.2.1 HKX.out, key H3.out.2.2.2.2 HXC.out,
      tb_own ((OwnR.below H4.out.1 hb46).safe hsafe) ((H4.out.2.1.below hb46).safe hsafe) (rowsP_i64 _ _ _ hp2), H5.out.1 W ((Safe.of hb56).trans hsafe), hsR.stay (hsafe.2 _ (.inr (.inr rfl)) gR csR hR8) hg.size, (hsafe.2 _ (.inr (.inr rfl)) gR csR hR8).trans hR8⟩
  have hkAR : kA + 1 < gR := by have h1 := H3.out.2.2.1.lt; have h2 : W3.heap.size ≤ w4.heap.size := H4.out.2.2.1.size; have h3 := H5.out.2.1.size; omega
  have HRT := Lib.hid (And.intro hroot (And.intro hlR (And.intro hiR hkAR)))
  have HC6 := Lib.hid hC6
  have HN4 := Lib.hid H4.out.2.2.2.1
  clear hkAR hR8 hsR hlR hiR hgR hb56 hroot hb6 hC6 H3 H4 H5 e0 e1 e2 e3 e1' e1'' f1
  clear HRW HCL HTR HO HASK HRW3 HCL4 HTR5 tab0 hwab
  go_upto_region 12 with (fail)
  obtain ⟨P, hP⟩ : ∃ P, P = w6.heap.size := ⟨_, rfl⟩
  rw [← hP]
  obtain ⟨w7, hw7⟩ : ∃ w7, w7 = w6.alloc (.cells #[.slice (some ⟨gR, 0, none⟩) 4 4, .slice none 0 0, .slice none 0 0, .slice none 0 0, .slice none 0 0, .slice none 0 0] 53) := ⟨_, rfl⟩
  rw [← hw7]
  have hb67 : Below w6.heap.size w6 w7 := by rw [hw7]; exact (Below.refl _ _).alloc (Nat.le_refl _) _
  have hO7 : OpS w6 w7 c s P #[.slice (some ⟨gR, 0, none⟩) 4 4, .slice none 0 0, .slice none 0 0, .slice none 0 0, .slice none 0 0, .slice none 0 0] D :=
    ⟨grown_of_below hb67 _, by rw [hP]; exact Nat.le_refl _, by rw [hw7, hP]; exact Blk.new _ _ _, HC6.out.below hb67⟩
  have HPX := Lib.hid hP
  have HKP : Hid (kA + 1 < P) := Lib.hid (by have := Blk.lt (K6.out w6 (grown_of_below (Below.refl _ _) _)).2.2.1; omega)
  have HO7 := Lib.hid hO7
  have HTK := Lib.hid (fun (D' : List Int) A' n' c' l' hl' hI' hr' (W : World) (hg : w6.grownBy W (some c)) hC hs => chtake_any p S b s kk zz c oo D' A' n' c' l' hl' hI' hr' W (HK.out W (K6.out W hg).1).1.fld (HK.out W (K6.out W hg).1).2.1 hSc hsc hC hs)
  have HDR := Lib.hid (fun (D' : List Int) (W : World) (hg : w6.grownBy W (some c)) hC => chdraw_any p S b s kk zz c oo D' W (HK.out W (K6.out W hg).1).1.fld (HK.out W (K6.out W hg).1).2.1 hSc hsc hC)
  have HT7 := Lib.hid (HTK.out D (some ⟨gR, 0, none⟩) 4 4 root HRT.out.2.1 HRT.out.2.2.1 (by omega) w7 hO7.g hO7.ch (K6.out w7 hO7.g).2.2.2.2.2.2.2.1)
  clear hP hw7 hb67 hO7 HC6
  go_wp2_with fail
  refine HT7.out.mono ?_
  rintro _ w8 ⟨⟨r8, rfl⟩, hC8, hg8, -⟩
  obtain ⟨D1, hD1⟩ : ∃ D1, D1 = digL p kk (3 :: (D ++ root)) := ⟨_, rfl⟩
  rw [← hD1] at hC8
  have hO8 := HO7.out.step hg8 hC8
  have HD1 := Lib.hid hD1
  have HO8 := Lib.hid hO8
  have a0 := ((K6.out w8 hO8.g).2.1.cell 0).trans (show _ = some (.slice B v cB) from rfl)
  have HT8 := Lib.hid (HTK.out D1 B v cB xs HX.out.1 HX.out.2 (by omega) w8 hO8.g hO8.ch (HK.out w8 (K6.out w8 hO8.g).1).2.2.2)
  clear hC8 hg8 hD1 hO8
  go_wp2_with fail
  refine HT8.out.mono ?_
  rintro _ w9 ⟨⟨r9, rfl⟩, hC9, hg9, -⟩
  obtain ⟨D2, hD2⟩ : ∃ D2, D2 = digL p kk (3 :: (D1 ++ xs)) := ⟨_, rfl⟩
  rw [← hD2] at hC9
  have hO9 := HO8.out.step hg9 hC9
  have HD2 := Lib.hid hD2
  have HO9 := Lib.hid hO9
  have HT9 := Lib.hid (HDR.out D2 w9 hO9.g hO9.ch)
  clear hC9 hg9 hD2 hO9 a0
  go_wp2_with fail
  refine HT9.out.mono ?_
  rintro _ w10 ⟨rfl, hC10, hg10, -⟩
  obtain ⟨D3, hD3⟩ : ∃ D3, D3 = drawnL p kk D2 := ⟨_, rfl⟩
  rw [← hD3] at hC10
  rw [← hD3]
  have hO10 := HO9.out.step hg10 hC10
  obtain ⟨r, hr⟩ : ∃ r, r = D3.getD 0 0 := ⟨_, rfl⟩
  have hrI : I64 r := by
    obtain ⟨y, hy⟩ := digL_bounds (p := p) (k := kk) (4 :: D2) (j := 0) (by omega)
    rw [hr, hD3]
    rw [show (drawnL p kk D2).getD 0 0 = fv y from hy]
    exact i64_fv _ hp2
  rw [← hr]
  have HD3 := Lib.hid (And.intro hD3 (And.intro hr hrI))
  have HO10 := Lib.hid hO10
  clear hC10 hg10 hD3 hO10 hr hrI
  go_upto_region 15 with (fail)
  obtain ⟨kr, hkr⟩ : ∃ kr, kr = w10.heap.size := ⟨_, rfl⟩
  rw [← hkr]
  obtain ⟨w11, hw11⟩ : ∃ w11, w11 = w10.alloc (.cells #[vi r] 3) := ⟨_, rfl⟩
  rw [← hw11]
  have hb11 : Below w10.heap.size w10 w11 := by rw [hw11]; exact (Below.refl _ _).alloc (Nat.le_refl _) _
  have hO11 := HO10.out.below hb11
  have hR11 : Blk w11 kr 3 #[vi r] := by rw [hw11, hkr]; exact Blk.new _ _ _
  have hk11 := K6.out w11 hO11.g
  have hf11 := (HK.out w11 hk11.1).1.fld
  have f0 := (hk11.2.2.2.1.cell 0).trans (show _ = some (.pointer (some ⟨x, 0, none⟩)) from rfl)
  have f1 := (Blk.cell hk11.2.2.2.2.1 0).trans (show _ = some (.pointer (some ⟨b, 0, none⟩)) from rfl)
  have f2 := (hR11.cell 0).trans (show _ = some (vi r) from rfl)
  have hrw := rowsP_len (tabF p l) (v - v / 2) (2 ^ (v / 2))
  have hc2 : 2 ^ (v / 2) ≤ 4096 := Nat.pow_le_pow_right (n := 2) (by omega) (show v / 2 ≤ 12 by omega)
  have hc3 : 2 ^ (v - v / 2) ≤ 4096 := Nat.pow_le_pow_right (n := 2) (by omega) (show v - v / 2 ≤ 12 by omega)
  have hc4 : 1 ≤ 2 ^ (v / 2) := Nat.pow_pos (by omega)
  have HW1 := weighed_any p S b 39 kx kr (enters_of Tryz.func39 (by kernel_rfl) rfl) (fun i => pw (el p r) i) A4 n4 c4 (2 ^ (v - v / 2)) (rowsP (tabF p l) (v - v / 2) (2 ^ (v / 2))) (by rw [hrw, HN4.out]) (by rw [HN4.out]; exact hc4) (by rw [HN4.out]; exact hc2) (rowsP_width _ _ _) hc3 w11 hf11 hk11.2.2.2.2.2.1
    (fun W hb i hi => powO_any p b x kx kr hp1 hp2 r HD3.out.2.2 i (by have := HN4.out; omega) W ((hb.cell (block_lt_of_cell f0)).trans f0) ((hb.cell (block_lt_of_cell f2)).trans f2) ((hb.cell (block_lt_of_cell f1)).trans f1) ((hb.cell (block_lt_of_cell hf11.c0)).trans hf11.c0))
  rw [show wgL (rowsP (tabF p l) (v - v / 2) (2 ^ (v / 2))) (fun i => pw (el p r) i) (2 ^ (v - v / 2)) n4 0 = tab (2 ^ (v - v / 2)) (mixE (tabF p l) (2 ^ (v / 2)) (2 ^ (v - v / 2)) fun i => pw (el p r) i) by rw [HN4.out]; exact wg_mix _ _ _ _] at HW1
  have HWG1 := Lib.hid HW1
  have HO11 := Lib.hid hO11
  have HF := Lib.hid (And.intro hc2 (And.intro hc3 (And.intro hc4 hrw)))
  clear hkr hw11 hb11 hO11 hR11 hk11 hf11 f2 hrw hc2 hc3 hc4 HW1
  go_wp2_with fail
  refine HWG1.out.mono ?_
  rintro _ w12 ⟨v12, rfl, ho12, hb12⟩
  obtain ⟨M1, hM1⟩ : ∃ M1, M1 = fvs (tab (2 ^ (v - v / 2)) (mixE (tabF p l) (2 ^ (v / 2)) (2 ^ (v - v / 2)) fun i => pw (el p r) i)) := ⟨_, rfl⟩
  have hM1l : M1.length = 2 ^ (v - v / 2) := by rw [hM1]; simp only [fvs, List.length_map]; exact tab_length _ _
  have hM1i : ∀ y ∈ M1, I64 y := by rw [hM1]; exact i64_fvs _ hp2
  rw [← hM1] at ho12
  obtain ⟨A12, n12, c12, rfl, hn12, hc12, hm12, _⟩ := ho12.shapeN
  have hO12 := HO11.out.below hb12
  have p1 := (hO12.p.cell 1).trans (show _ = some (.slice none 0 0) from rfl)
  have z1 := hO12.p.frozen 1
  have HM1 := Lib.hid (And.intro hM1 (And.intro hM1l hM1i))
  have H12 := Lib.hid (And.intro ho12 (And.intro hO12 (And.intro hn12 (show c < w11.heap.size from Nat.lt_of_lt_of_le HO11.out.ch.lt (Nat.le_refl _)))))
  clear hM1 hM1l hM1i ho12 hO12 hn12 hb12 hc12 hm12 f0 f1
  go_upto_region 16 with (fail)
  obtain ⟨w13, hw13⟩ : ∃ w13, w13 = w12.setCell ⟨P, 1, none⟩ (.slice A12 n12 c12) := ⟨_, rfl⟩
  rw [← hw13]
  have hO13 : OpS w6 w13 c s P #[.slice (some ⟨gR, 0, none⟩) 4 4, .slice A12 n12 c12, .slice none 0 0, .slice none 0 0, .slice none 0 0, .slice none 0 0] D3 := by rw [hw13]; exact H12.out.2.1.store 1 _
  have ho13 : Own w13 w11.heap.size (.slice A12 n12 c12) M1 := by rw [hw13]; exact own_pledge H12.out.1 H12.out.2.1.p blk_grown
  have p1' := (hO13.p.cell 1).trans (show _ = some (.slice A12 n12 c12) from rfl)
  obtain ⟨_, _, _, e13, _, _, _, hs13⟩ := ho13.shapeN
  injection e13 with q1 q2 q3
  subst q1 q2 q3
  have hn12' : n12 * 8 ≤ 140737488351232 := by
    have h1 := H12.out.2.2.1
    have h2 := HM1.out.2.1
    have h3 := HF.out.2.1
    omega
  have HT13 := Lib.hid (HTK.out D3 A12 n12 c12 M1 H12.out.2.2.1 HM1.out.2.2 hn12' w13 hO13.g hO13.ch hs13)
  have H13 := Lib.hid (And.intro hO13 ho13)
  clear hw13 hO13 ho13 hs13 hn12' p1 z1
  go_wp2_with fail
  refine HT13.out.mono ?_
  rintro _ w14 ⟨⟨r14, rfl⟩, hC14, hg14, -⟩
  obtain ⟨D4, hD4⟩ : ∃ D4, D4 = digL p kk (3 :: (D3 ++ M1)) := ⟨_, rfl⟩
  rw [← hD4] at hC14
  have hO14 := H13.out.1.step hg14 hC14
  have ho14 := own_keepC H13.out.2 hg14 H12.out.2.2.2
  have hk14 := K6.out w14 hO14.g
  have hf14 := (HK.out w14 hk14.1).1.fld
  have hsx14 := (HK.out w14 hk14.1).2.2.2
  have f0 := (hk14.2.2.2.1.cell 0).trans (show _ = some (.pointer (some ⟨x, 0, none⟩)) from rfl)
  have f1 := (Blk.cell hk14.2.2.2.2.1 0).trans (show _ = some (.pointer (some ⟨b, 0, none⟩)) from rfl)
  have f2 := (hk14.2.1.cell 0).trans (show _ = some (.slice B v cB) from rfl)
  have f3 := (Blk.cell hk14.2.2.2.2.1 2).trans (show _ = some (vi ((v / 2 : Nat) : Int)) from rfl)
  have HW2 := weighed_any p S b 41 kx kA (enters_of Tryz.func41 (by kernel_rfl) rfl) (wtL (els p (xs.take (v / 2)))) A4 n4 c4 (2 ^ (v - v / 2)) (rowsP (tabF p l) (v - v / 2) (2 ^ (v / 2))) (by rw [HF.out.2.2.2, HN4.out]) (by rw [HN4.out]; exact HF.out.2.2.1) (by rw [HN4.out]; exact HF.out.1) (rowsP_width _ _ _) HF.out.2.1 w14 hf14 hk14.2.2.2.2.2.1
    (fun W hb i hi => untO_any p b x kx kA (v / 2) hp1 hp2 B v cB xs HX.out.1 hv (by omega) hcB hcB9 HX.out.2 i (by have := HN4.out; have := HF.out.1; omega) W ((hb.cell (block_lt_of_cell f0)).trans f0) ((hb.cell (block_lt_of_cell f2)).trans f2) ((hb.cell (block_lt_of_cell f1)).trans f1) ((hb.cell (block_lt_of_cell f3)).trans f3) ((hb.cell (block_lt_of_cell hf14.c0)).trans hf14.c0) (hsx14.below hb))
  rw [show wgL (rowsP (tabF p l) (v - v / 2) (2 ^ (v / 2))) (wtL (els p (xs.take (v / 2)))) (2 ^ (v - v / 2)) n4 0 = tab (2 ^ (v - v / 2)) (mixE (tabF p l) (2 ^ (v / 2)) (2 ^ (v - v / 2)) (wtL (els p (xs.take (v / 2))))) by rw [HN4.out]; exact wg_mix _ _ _ _] at HW2
  have HWG2 := Lib.hid HW2
  have HD4 := Lib.hid hD4
  have H14 := Lib.hid (And.intro hO14 ho14)
  clear hD4 hC14 hg14 hO14 ho14 hk14 hf14 hsx14 f2 f3 HW2 p1'
  go_wp2_with fail
  refine HWG2.out.mono ?_
  rintro _ w15 ⟨v15, rfl, ho15, hb15⟩
  obtain ⟨M2, hM2⟩ : ∃ M2, M2 = fvs (tab (2 ^ (v - v / 2)) (mixE (tabF p l) (2 ^ (v / 2)) (2 ^ (v - v / 2)) (wtL (els p (xs.take (v / 2)))))) := ⟨_, rfl⟩
  have hM2l : M2.length = 2 ^ (v - v / 2) := by rw [hM2]; simp only [fvs, List.length_map]; exact tab_length _ _
  have hM2i : ∀ y ∈ M2, I64 y := by rw [hM2]; exact i64_fvs _ hp2
  rw [← hM2] at ho15
  obtain ⟨A15, n15, c15, rfl, hn15, hc15, hm15, _⟩ := ho15.shapeN
  have hO15 := H14.out.1.below hb15
  have ho15' := Own.below H14.out.2 hb15
  have p1 := (hO15.p.cell 2).trans (show _ = some (.slice none 0 0) from rfl)
  have z1 := hO15.p.frozen 2
  have HM2 := Lib.hid (And.intro hM2 (And.intro hM2l hM2i))
  have H15 := Lib.hid (And.intro ho15 (And.intro hO15 (And.intro hn15 (And.intro ho15' (show c < w14.heap.size from H14.out.1.ch.lt)))))
  clear hM2 hM2l hM2i ho15 hO15 hn15 hb15 hc15 hm15 f0 f1 ho15'
  go_upto_region 18 with (fail)
  obtain ⟨w16, hw16⟩ : ∃ w16, w16 = w15.setCell ⟨P, 2, none⟩ (.slice A15 n15 c15) := ⟨_, rfl⟩
  rw [← hw16]
  have hO16 : OpS w6 w16 c s P #[.slice (some ⟨gR, 0, none⟩) 4 4, .slice A12 n12 c12, .slice A15 n15 c15, .slice none 0 0, .slice none 0 0, .slice none 0 0] D4 := by rw [hw16]; exact H15.out.2.1.store 2 _
  have ho16 : Own w16 w14.heap.size (.slice A15 n15 c15) M2 := by rw [hw16]; exact own_pledge H15.out.1 H15.out.2.1.p blk_grown
  have ho16' : Own w16 w11.heap.size (.slice A12 n12 c12) M1 := by rw [hw16]; exact own_pledge H15.out.2.2.2.1 H15.out.2.1.p blk_grown
  have p1' := (hO16.p.cell 2).trans (show _ = some (.slice A15 n15 c15) from rfl)
  obtain ⟨_, _, _, e16, _, _, _, hs16⟩ := ho16.shapeN
  injection e16 with q1 q2 q3
  subst q1 q2 q3
  have hn15' : n15 * 8 ≤ 140737488351232 := by
    have h1 := H15.out.2.2.1
    have h2 := HM2.out.2.1
    have h3 := HF.out.2.1
    omega
  have HT16 := Lib.hid (HTK.out D4 A15 n15 c15 M2 H15.out.2.2.1 HM2.out.2.2 hn15' w16 hO16.g hO16.ch hs16)
  have H16 := Lib.hid (And.intro hO16 (And.intro ho16 ho16'))
  clear hw16 hO16 ho16 ho16' hs16 hn15' p1 z1
  go_wp2_with fail
  refine HT16.out.mono ?_
  rintro _ w17 ⟨⟨r17, rfl⟩, hC17, hg17, -⟩
  obtain ⟨D5, hD5⟩ : ∃ D5, D5 = digL p kk (3 :: (D4 ++ M2)) := ⟨_, rfl⟩
  rw [← hD5] at hC17
  have hO17 := H16.out.1.step hg17 hC17
  have ho17 := own_keepC H16.out.2.1 hg17 H15.out.2.2.2.2
  have ho17' := own_keepC H16.out.2.2 hg17 H12.out.2.2.2
  have hk17 := K6.out w17 hO17.g
  have hd1 := (HK.out w17 hk17.1).1.c1
  have HSZ := Lib.hid (size_any Dd nd w17 hd1)
  have HDW := Lib.hid (pdrawn_any p S b s kk zz c oo D5 (nd : Int) (by omega) (by omega) asked ha1 ha2 w17 hSc hsc (fun W hg => by
    have h := HK.out W (grownBy_trans hk17.1 hg)
    exact ⟨h.1.fld, h.2.1⟩) hO17.ch)
  have HD5 := Lib.hid hD5
  have H17 := Lib.hid (And.intro hO17 (And.intro ho17 ho17'))
  clear hD5 hC17 hg17 hO17 ho17 ho17' hk17 hd1 p1'
  go_wp2_with fail
  refine HSZ.out.mono ?_
  rintro _ _ ⟨rfl, rfl⟩
  go_wp2_with fail
  refine HDW.out.mono ?_
  rintro _ w18 ⟨A18, m18, c18, rfl, ho18, hC18, hg18⟩
  obtain ⟨_, _, _, e18, hl18, _, _, hs18⟩ := ho18.shapeN
  injection e18 with q1 q2 q3
  subst q1 q2 q3
  have hO18 := H17.out.1.step hg18 hC18
  have ho18a := own_keepC H17.out.2.1 hg18 H15.out.2.2.2.2
  have ho18b := own_keepC H17.out.2.2 hg18 H12.out.2.2.2
  have hin : ∀ y ∈ onceL (placesL p kk D5 (nd : Int) asked), 0 ≤ y ∧ y < (nd : Int) := fun y hy => placesL_in p kk _ _ _ (by omega) y ((mem_onceL y _).1 hy)
  have hm18 : m18 ≤ nd := by rw [← hl18]; exact Asc.len (asc_onceL _) hin
  have hout : (onceL (placesL p kk D5 (nd : Int) asked)).any (outB nd) = false := List.any_eq_false.2 fun y hy => by
    have h := hin y hy
    simp [outB, h]
  have hk18 := K6.out w18 hO18.g
  have hK18 := HK.out w18 hk18.1
  have hop := topen_sf p S b s kk zz oo (some ⟨gC, 0, none⟩) nd nd (pcols p (tabF p l) (v / 2) (v - v / 2) nd s0 (rootI p nd)) pcols_length (by omega) hn2 (fun q hq => by
    obtain ⟨j, _, rfl⟩ := List.mem_map.1 hq
    rw [pcol_length]
    have := HF.out.1
    omega) A18 m18 c18 (onceL (placesL p kk D5 (nd : Int) asked)) hl18 (by omega) hout w18 hK18.1.fld hK18.2.1 hs18 hk18.2.2.2.2.2.2.1
  rw [onceL_asc (asc_onceL _)] at hop
  have HOP := Lib.hid hop
  have H18 := Lib.hid (And.intro hO18 (And.intro ho18a ho18b))
  clear hl18 hs18 hO18 ho18a ho18b hin hm18 hout hk18 hK18 hop ho18 hC18 hg18
  go_wp2_with fail
  refine HOP.out.mono ?_
  rintro _ w19 ⟨B0, m0, d0, BR, mR, dR, BN, mN, dN, rfl, hOP, hb19⟩
  have hO19 := H18.out.1.below hb19
  have ho19a := Own.below H18.out.2.1 hb19
  have ho19b := Own.below H18.out.2.2 hb19
  have p3 := (hO19.p.cell 3).trans (show _ = some (.slice none 0 0) from rfl)
  have p4 := (hO19.p.cell 4).trans (show _ = some (.slice none 0 0) from rfl)
  have p5 := (hO19.p.cell 5).trans (show _ = some (.slice none 0 0) from rfl)
  have z3 := hO19.p.frozen 3
  have z4 := hO19.p.frozen 4
  have z5 := hO19.p.frozen 5
  have H19 := Lib.hid (And.intro hO19 (And.intro ho19a (And.intro ho19b hOP)))
  clear hO19 ho19a ho19b hOP hb19
  go_upto_region 20 with (fail)
  obtain ⟨w20, hw20⟩ : ∃ w20, w20 = ((w19.setCell ⟨P, 3, none⟩ (.slice B0 m0 d0)).setCell ⟨P, 4, none⟩ (.slice BR mR dR)).setCell ⟨P, 5, none⟩ (.slice BN mN dN) := ⟨_, rfl⟩
  rw [← hw20]
  have hG20 : w19.grownBy w20 (some P) := by rw [hw20]; exact grownBy_trans (grownBy_trans blk_grown blk_grown) blk_grown
  have hO20 : OpS w6 w20 c s P #[.slice (some ⟨gR, 0, none⟩) 4 4, .slice A12 n12 c12, .slice A15 n15 c15, .slice B0 m0 d0, .slice BR mR dR, .slice BN mN dN] (iterP p kk D5 asked) := by
    rw [hw20]; exact ((H19.out.1.store 3 _).store 4 _).store 5 _
  have ho20a := own_pledge H19.out.2.1 H19.out.1.p hG20
  have ho20b := own_pledge H19.out.2.2.1 H19.out.1.p hG20
  have hsf20 : Safe w19 w20 := Safe.one hG20 H19.out.1.p ⟨by decide, by decide, by decide⟩
  have hk20 := K6.out w20 hO20.g
  have hK20 := HK.out w20 hk20.1
  have u0 := (hO20.p.cell 0).trans (show _ = some (.slice (some ⟨gR, 0, none⟩) 4 4) from rfl)
  have u1 := (hO20.p.cell 1).trans (show _ = some (.slice A12 n12 c12) from rfl)
  have u2 := (hO20.p.cell 2).trans (show _ = some (.slice A15 n15 c15) from rfl)
  have u3 := (hO20.p.cell 3).trans (show _ = some (.slice B0 m0 d0) from rfl)
  have u4 := (hO20.p.cell 4).trans (show _ = some (.slice BR mR dR) from rfl)
  have u5 := (hO20.p.cell 5).trans (show _ = some (.slice BN mN dN) from rfl)
  have u6 := (hk20.2.2.2.1.cell 0).trans (show _ = some (.pointer (some ⟨x, 0, none⟩)) from rfl)
  have u7 := (hk20.2.1.cell 0).trans (show _ = some (.slice B v cB) from rfl)
  obtain ⟨_, _, _, e20, _, _, _, hs20⟩ := ho20a.shapeN
  injection e20 with q1 q2 q3
  subst q1 q2 q3
  have hn15 : n15 = 2 ^ (v - v / 2) := by rw [← H15.out.2.2.1]; exact HM2.out.2.1
  have hbd := (below_drewN (Below.refl w20.heap.size w20) 1 : Below w20.heap.size w20 w20.drew)
  have his := is_any p S b x Dd v hv A15 n15 c15 M2 H15.out.2.2.1 (by rw [hn15]; exact HF.out.2.1) HM2.out.2.2 B cB hcB hcB9 xs HX.out.1 HX.out.2 w20.drew (hK20.1.fld.below hbd hK20.1.fld.le) (Blk.below hk20.2.2.2.2.1 hbd (Blk.lt hk20.2.2.2.2.1)) (hs20.below hbd) (hK20.2.2.2.below hbd)
  have hval : sumT n15 (isE M2 (els p (xs.drop (v / 2)))) = extF (tabF p l) (els p xs) := by
    rw [← pledge_is (p := p) (T := tabF p l) (a := v / 2) (b := v - v / 2) (at_ := xs) (by rw [HX.out.1]; omega), hn15, HM2.out.1]
    rfl
  rw [hval] at his
  have HIS := Lib.hid his
  have KC : Hid (∀ W, Below w20.heap.size w20 W → W.cell? ⟨P, 0, none⟩ = some (.slice (some ⟨gR, 0, none⟩) 4 4) ∧ W.cell? ⟨P, 1, none⟩ = some (.slice A12 n12 c12) ∧ W.cell? ⟨P, 2, none⟩ = some (.slice A15 n15 c15) ∧ W.cell? ⟨P, 3, none⟩ = some (.slice B0 m0 d0) ∧ W.cell? ⟨P, 4, none⟩ = some (.slice BR mR dR) ∧ W.cell? ⟨P, 5, none⟩ = some (.slice BN mN dN) ∧ W.cell? ⟨kx, 0, none⟩ = some (.pointer (some ⟨x, 0, none⟩)) ∧ W.cell? ⟨kA, 0, none⟩ = some (.slice B v cB)) := Lib.hid fun W hb =>
    ⟨(hb.cell (block_lt_of_cell u0)).trans u0, (hb.cell (block_lt_of_cell u1)).trans u1, (hb.cell (block_lt_of_cell u2)).trans u2, (hb.cell (block_lt_of_cell u3)).trans u3, (hb.cell (block_lt_of_cell u4)).trans u4, (hb.cell (block_lt_of_cell u5)).trans u5, (hb.cell (block_lt_of_cell u6)).trans u6, (hb.cell (block_lt_of_cell u7)).trans u7⟩
  have H20 := Lib.hid (And.intro hO20 (And.intro ho20a (And.intro ho20b (And.intro hsf20 (And.intro hk20.2.2.1 hn15)))))
  clear hbd hw20 hG20 hO20 ho20a ho20b hsf20 hk20 hK20 hs20 his hval hn15 p3 p4 p5 z3 z4 z5 u0 u1 u2 u3 u4 u5 u6 u7
  go_upto_region 22 with (fail)
  refine wp_region_held_drew (S := fun W => W.cell? ⟨P, 0, none⟩ = some (.slice (some ⟨gR, 0, none⟩) 4 4) ∧ W.cell? ⟨P, 1, none⟩ = some (.slice A12 n12 c12) ∧ W.cell? ⟨P, 2, none⟩ = some (.slice A15 n15 c15) ∧ W.cell? ⟨P, 3, none⟩ = some (.slice B0 m0 d0) ∧ W.cell? ⟨P, 4, none⟩ = some (.slice BR mR dR) ∧ W.cell? ⟨P, 5, none⟩ = some (.slice BN mN dN) ∧ W.cell? ⟨kx, 0, none⟩ = some (.pointer (some ⟨x, 0, none⟩)) ∧ W.cell? ⟨kA, 0, none⟩ = some (.slice B v cB)) (by kernel_rfl) (KC.out w20 (Below.refl _ _)) (fun hHeld => ?_)
  refine tkH 0 ?_
  refine tkH 1 ?_
  refine tkH 2 ?_
  refine tkH 3 ?_
  refine tkH 4 ?_
  refine stH 5 (fun K hK => ?_)
  go_simp
  refine HIS.out.mono ?_
  rintro _ w21 ⟨rfl, hb21'⟩
  have hb21 : Below w20.heap.size w20 w21 := (below_drewN (Below.refl w20.heap.size w20) 1 : Below w20.heap.size w20 w20.drew).trans (hb21'.mono (Nat.le_refl _))
  refine hK.out _ _ (KC.out w21 hb21) (fun hHeld => ?_)
  clear hK K
  (try simp only [Act.put, List.setIfInBounds_toArray, List.set_cons_zero, List.set_cons_succ])
  have hZ21 := Blk.below H20.out.2.2.2.2.1 hb21 (Blk.lt H20.out.2.2.2.2.1)
  have y0 := (hZ21.cell 0).trans (show _ = some (.slice none 0 0) from rfl)
  have y1 := (hZ21.cell 1).trans (show _ = some (.slice none 0 0) from rfl)
  have y2 := (hZ21.cell 2).trans (show _ = some (.slice none 0 0) from rfl)
  have y3 := (hZ21.cell 3).trans (show _ = some (.slice none 0 0) from rfl)
  have y4 := (hZ21.cell 4).trans (show _ = some (.slice none 0 0) from rfl)
  have y5 := (hZ21.cell 5).trans (show _ = some (.slice none 0 0) from rfl)
  have z0 := hZ21.frozen 0
  have z1 := hZ21.frozen 1
  have z2 := hZ21.frozen 2
  have z3 := hZ21.frozen 3
  have z4 := hZ21.frozen 4
  have z5 := hZ21.frozen 5
  have HZ21 := Lib.hid (And.intro hZ21 hb21)
  clear hZ21 hb21 hb21'
  refine stH 6 (fun K hK => ?_)
  go_simp
  obtain ⟨w22, hw22⟩ : ∃ w22, w22 = (((((w21.setCell ⟨kA + 1, 0, none⟩ (.slice (some ⟨gR, 0, none⟩) 4 4)).setCell ⟨kA + 1, 1, none⟩ (.slice A12 n12 c12)).setCell ⟨kA + 1, 2, none⟩ (.slice A15 n15 c15)).setCell ⟨kA + 1, 3, none⟩ (.slice B0 m0 d0)).setCell ⟨kA + 1, 4, none⟩ (.slice BR mR dR)).setCell ⟨kA + 1, 5, none⟩ (.slice BN mN dN) := ⟨_, rfl⟩
  rw [← hw22]
  have hG22 : w21.grownBy w22 (some (kA + 1)) := by rw [hw22]; exact grownBy_trans (grownBy_trans (grownBy_trans (grownBy_trans (grownBy_trans blk_grown blk_grown) blk_grown) blk_grown) blk_grown) blk_grown
  have hZ22 : Blk w22 (kA + 1) 53 #[.slice (some ⟨gR, 0, none⟩) 4 4, .slice A12 n12 c12, .slice A15 n15 c15, .slice B0 m0 d0, .slice BR mR dR, .slice BN mN dN] := by
    rw [hw22]; exact (((((HZ21.out.1.set_ 0 _).set_ 1 _).set_ 2 _).set_ 3 _).set_ 4 _).set_ 5 _
  have hP0 : P ≠ kA + 1 := by
    have h1 := Blk.lt H20.out.2.2.2.2.1
    have h2 := H20.out.1.lo
    have h3 := HRT.out.2.2.2
    have h4 := HPX.out
    have h5 := HKP.out
    omega
  have S22 := KC.out w21 HZ21.out.2
  have hcl : ∀ (q : Nat) (i : Nat) (u : Value), w21.cell? ⟨q, i, none⟩ = some u → q ≠ kA + 1 → w22.cell? ⟨q, i, none⟩ = some u := fun q i u h hq => (World.cell?_of_block (hG22.block q (block_lt_of_cell h) (fun e => by injection e with e; exact hq e))).trans h
  have S23 := And.intro (hcl P 0 _ S22.1 hP0) (And.intro (hcl P 1 _ S22.2.1 hP0) (And.intro (hcl P 2 _ S22.2.2.1 hP0) (And.intro (hcl P 3 _ S22.2.2.2.1 hP0) (And.intro (hcl P 4 _ S22.2.2.2.2.1 hP0) (And.intro (hcl P 5 _ S22.2.2.2.2.2.1 hP0) (And.intro (hcl kx 0 _ S22.2.2.2.2.2.2.1 HGR.out.2) (hcl kA 0 _ S22.2.2.2.2.2.2.2 (by omega))))))))
  have H22 := Lib.hid (And.intro hG22 hZ22)
  refine hK.out _ _ S23 (fun hHeld => ?_)
  clear hK K
  (try simp only [Act.put, List.setIfInBounds_toArray, List.set_cons_zero, List.set_cons_succ])
  clear hw22 hG22 hZ22 y0 y1 y2 y3 y4 y5 z0 z1 z2 z3 z4 z5 hP0 S22 hcl
  refine tkH 7 ?_
  refine tkH 8 ?_
  refine wpAnyH_done (by kernel_rfl) ?_ _
  clear hHeld S23
  have hd3 : D3 = pd3 p kk (tabF p l) (v / 2) (v - v / 2) nd s0 (rootI p nd) D xs := by
    rw [HD3.out.1, HD2.out, HD1.out, HRT.out.1]; rfl
  have hm1 : M1 = pmix p kk (tabF p l) (v / 2) (v - v / 2) nd s0 (rootI p nd) D xs := by
    rw [HM1.out.1, HD3.out.2.1, hd3]; rfl
  have hm2 : M2 = ppnt p (tabF p l) (v / 2) (v - v / 2) xs := HM2.out.1
  have hd5 : D5 = pd5 p kk (tabF p l) (v / 2) (v - v / 2) nd s0 (rootI p nd) D xs := by
    rw [HD5.out, HD4.out, hd3, hm1, hm2]; rfl
  have hpl : onceL (placesL p kk D5 (nd : Int) asked) = ppl p kk (tabF p l) (v / 2) (v - v / 2) nd s0 (rootI p nd) D xs asked := by rw [hd5]; rfl
  have hn12 : n12 = 2 ^ (v - v / 2) := by rw [← H12.out.2.2.1]; exact HM1.out.2.1
  have hn15 := H20.out.2.2.2.2.2
  have hsafe : Safe w19 w22 := (H20.out.2.2.2.1.trans (Safe.of HZ21.out.2)).trans (Safe.one H22.out.1 HZ21.out.1 ⟨by decide, by decide, by decide⟩)
  have ha := own_pledge (Own.below H20.out.2.1 HZ21.out.2) HZ21.out.1 H22.out.1
  have hb := own_pledge (Own.below H20.out.2.2.1 HZ21.out.2) HZ21.out.1 H22.out.1
  obtain ⟨_, _, _, ea, _, _, _, hsa⟩ := ha.shapeN
  injection ea with q1 q2 q3
  subst q1 q2 q3
  obtain ⟨_, _, _, eb, _, _, _, hsb⟩ := hb.shapeN
  injection eb with q1 q2 q3
  subst q1 q2 q3
  have hO21 := H20.out.1.below HZ21.out.2
  have hk21 := K6.out w21 hO21.g
  have hroot8 := hk21.2.2.2.2.2.2.2.2.grown H22.out.1 (fun e => by injection e with e; have := HRT.out.2.2.2; omega)
  have hroot := hk21.2.2.2.2.2.2.2.1.farO H22.out.1 (fun ad e _ => by injection e with e; subst e; show gR ≠ kA + 1; have := HRT.out.2.2.2; omega)
  have hgw : w.grownBy w22 (some c) := grown_two hk21.1 H22.out.1 (by have := HKA.out.1; omega)
  have hall : ∀ W', Safe w22 W' → SL W' (some ⟨gR, 0, none⟩) root ∧ SL W' A12 M1 ∧ SL W' A15 M2 ∧ _ := fun W' hs => by
    obtain ⟨_, _, _, ea', _, _, _, hsa'⟩ := (Own.safe ha hs).shapeN
    injection ea' with q1 q2 q3
    subst q1 q2 q3
    obtain ⟨_, _, _, eb', _, _, _, hsb'⟩ := (Own.safe hb hs).shapeN
    injection eb' with q1 q2 q3
    subst q1 q2 q3
    exact ⟨hroot.stay (hs.2 _ (.inr (.inr rfl)) gR csR hroot8) hs.1, hsb', hsa', H19.out.2.2.2 W' (hsafe.trans hs)⟩
  rw [hpl, hm1, hm2, HRT.out.1] at hall
  have hZ := H22.out.2
  have v0 := (hZ.cell 0).trans (show _ = some (.slice (some ⟨gR, 0, none⟩) 4 4) from rfl)
  have v1 := (hZ.cell 1).trans (show _ = some (.slice A12 n12 c12) from rfl)
  have v2 := (hZ.cell 2).trans (show _ = some (.slice A15 n15 c15) from rfl)
  have v3 := (hZ.cell 3).trans (show _ = some (.slice B0 m0 d0) from rfl)
  have v4 := (hZ.cell 4).trans (show _ = some (.slice BR mR dR) from rfl)
  have v5 := (hZ.cell 5).trans (show _ = some (.slice BN mN dN) from rfl)
  have HFIN := Lib.hid (show POpenIs p kk v nd s0 (tabF p l) D xs asked c s w (.returned (.tuple #[.agg #[.slice (some ⟨gR, 0, none⟩) 4 4, .slice A12 n12 c12, .slice A15 n15 c15, .slice B0 m0 d0, .slice BR mR dR, .slice BN mN dN], vi (fv (extF (tabF p l) (els p xs))), .nilIface])) w22 from
    ⟨gR, A12, c12, A15, c15, B0, m0, d0, BR, mR, dR, BN, mN, dN, by rw [hn12, hn15], hall, hgw⟩)
  clear hd3 hm1 hm2 hd5 hpl hn12 hn15 hsafe hall ha hb hsa hsb hO21 hk21 hroot hroot8 hgw hZ
  go_wp2
  exact bodyPost_ret (v := .tuple #[.agg #[.slice (some ⟨gR, 0, none⟩) 4 4, .slice A12 n12 c12, .slice A15 n15 c15, .slice B0 m0 d0, .slice BR mR dR, .slice BN mN dN], vi (fv (extF (tabF p l) (els p xs))), .nilIface]) (by simp [results, Tryz.results13, go_sem, v0, v1, v2, v3, v4, v5]) rfl HFIN.out
end Go.Proofs.YteceghbjjnknbaaGreat
