/- A bundle of texts: Nl, Mf3, Ck6, Ck7. -/
import Derived.Test.YtonalbdehcmjmaaGreatQ09
import Derived.Test.YtonalbdehcmjmaaGreatQ07
/- The walk of tree.Open. -/
set_option linter.unusedVariables false
set_option linter.unusedSimpArgs false
namespace Go.Proofs.YtonalbdehcmjmaaGreat
open Go.RowKit Zp
/-- .. that stays whole -/
def TOpenedSf (l : List Int) (rs ns : List (List Int)) (w : World) (e : Ending) (w' : World) : Prop :=
  ∃ A0 n0 c0 AR nR cR AN nN cN, e = .returned (.tuple #[.agg #[.slice A0 n0 c0, .slice AR nR cR, .slice AN nN cN], .nilIface]) ∧ (∀ W', Safe w' W' → OpnAt W' A0 n0 c0 l AR nR cR rs AN nN cN ns) ∧ Below w.heap.size w w'
theorem OpenedUp.tup {l : List Int} {rs ns : List (List Int)} {w w' : World} {v : Value} (h : OpenedUp l rs ns w (.returned v) w') : TOpenedSf l rs ns w (.returned (.tuple #[v, .nilIface])) w' := by
  obtain ⟨A0, n0, c0, AR, nR, cR, AN, nN, cN, e, h1, h2, h3⟩ := h
  injection e with e
  exact ⟨A0, n0, c0, AR, nR, cR, AN, nN, cN, by rw [e], h3, h2⟩
/-- the three blocks that tree.Open begins with -/
structure Ent (w W : World) (s A : Option Addr) (N c : Nat) : Prop where
  hs : Blk W w.heap.size 28 #[.pointer s]
  hr : Blk W (w.heap.size + 1) 37 #[.slice A N c]
  ho : Blk W (w.heap.size + 1 + 1) 79 #[.slice none 0 0, .slice none 0 0, .slice none 0 0]
  hb : Below w.heap.size w W
  hz : w.heap.size + 1 + 1 < W.heap.size
theorem Ent.new (w : World) (s A : Option Addr) (N c : Nat) : Ent w (((w.alloc (.cells #[.pointer s] 28)).alloc (.cells #[.slice A N c] 37)).alloc (.cells #[.slice none 0 0, .slice none 0 0, .slice none 0 0] 79)) s A N c := by
  refine ⟨((Blk.new w _ _).alloc _).alloc _, ?_, ?_, (((Below.refl _ _).alloc (Nat.le_refl _) _).alloc (by simp) _).alloc (by simp; omega) _, by simp⟩
  · have h := (Blk.new (w.alloc (.cells #[.pointer s] 28)) 37 #[.slice A N c]).alloc (.cells #[.slice none 0 0, .slice none 0 0, .slice none 0 0] 79)
    simpa using h
  · have h := Blk.new ((w.alloc (.cells #[.pointer s] 28)).alloc (.cells #[.slice A N c] 37)) 79 #[.slice none 0 0, .slice none 0 0, .slice none 0 0]
    simpa using h
theorem Ent.below {w W W' : World} {s A : Option Addr} {N c : Nat} (h : Ent w W s A N c) (hb : Below (w.heap.size + 1 + 1 + 1) W W') : Ent w W' s A N c :=
  ⟨Blk.below h.hs hb (by omega), Blk.below h.hr hb (by omega), Blk.below h.ho hb (by omega), h.hb.trans (hb.mono (by omega)), Nat.lt_of_lt_of_le h.hz hb.size⟩
theorem Ent.cs {w W : World} {s A : Option Addr} {N c : Nat} (h : Ent w W s A N c) : W.cell? ⟨w.heap.size, 0, none⟩ = some (.pointer s) := (h.hs.cell 0).trans rfl
theorem Ent.cr {w W : World} {s A : Option Addr} {N c : Nat} (h : Ent w W s A N c) : W.cell? ⟨w.heap.size + 1, 0, none⟩ = some (.slice A N c) := (h.hr.cell 0).trans rfl
set_option maxRecDepth 100000 in
set_option maxHeartbeats 16000000 in
theorem topen_sf (p S b s k z : Nat) [NeZero p] (oo : Nat → Nat → Fin p) (A : Option Addr) (N c : Nat) (ls : List (List Int)) (hN : ls.length = N) (h1 : 1 ≤ N) (hN2 : N ≤ 65536) (hR : ∀ t ∈ ls, t.length * 8 ≤ 140737488351232)
    (A0 : Option Addr) (n0 c0 : Nat) (l : List Int) (hl : l.length = n0) (hn0 : n0 * 8 ≤ 140737488351232) (hin : l.any (outB N) = false) (w : World) (F : Fld w S b p) (G : Spg w s b k z oo) (hs : SL w A0 l) (hT : TB w A ls) :
    Calls Tryz.prog 36 #[.pointer (some ⟨s, 0, none⟩), .slice A N c, .slice A0 n0 c0] w (TOpenedSf (onceL l) (openR p ls (onceL l)) ((hidL (onceL l) 0 N).map fun g => rootD (digL p k) (rowF ls) g.1 g.2) w) := by
  have HR := Lib.hid (fun w => right_any (N : Int) w)
  have HN := Lib.hid (show rightB (N : Int) = true from decide_eq_true (by constructor <;> omega))
  have hE := Ent.new w (some ⟨s, 0, none⟩) A N c
  obtain ⟨W0, hW0⟩ : ∃ W0, W0 = ((w.alloc (.cells #[.pointer (some ⟨s, 0, none⟩)] 28)).alloc (.cells #[.slice A N c] 37)).alloc (.cells #[.slice none 0 0, .slice none 0 0, .slice none 0 0] 79) := ⟨_, rfl⟩
  rw [← hW0] at hE
  have HW0 := Lib.hid hW0
  have HE := Lib.hid hE
  have e1 := hE.cr
  have hcf := containsI_any 64 (enters_of Tryz.func64 (by kernel_rfl) rfl) #[.pointer (some ⟨w.heap.size + 1, 0, none⟩)] (outB N) A0 n0 c0 l hl (by omega) W0 (fun x _ => open1_any x _ A N c W0 e1) (hs.below hE.hb)
  rw [hin] at hcf
  have HCF := Lib.hid hcf
  clear hcf hW0
  obtain ⟨T, hTT⟩ : ∃ T, T = onceL l := ⟨_, rfl⟩
  have hTa : Asc T := by rw [hTT]; exact asc_onceL l
  have hTin : ∀ x ∈ T, 0 ≤ x ∧ x < N := fun x hx => by
    rw [hTT, mem_onceL] at hx
    have h := List.any_eq_false.1 hin x hx
    unfold outB at h
    exact Classical.byContradiction fun h' => h (decide_eq_true h')
  have hTl := hTa.len hTin
  have hcm := compact_once l
  rw [← hTT] at hcm ⊢
  have HCL := Lib.hid (fun W' (h : Below w.heap.size w W') => clone_any A0 n0 c0 l hl (by omega) W' (hs.below h))
  have HCM := Lib.hid hcm
  have HLS := Lib.hid (And.intro hN (And.intro h1 (And.intro hN2 (And.intro hR (And.intro hTl (And.intro hTa hTin))))))
  have HLL := Lib.hid (And.intro hl hn0)
  have HX := Lib.hid (fun W' (h : Below w.heap.size w W') => (show Fld W' S b p ∧ Spg W' s b k z oo ∧ TB W' A ls from ⟨F.below h F.le, G.below h (block_lt_of_cell G.c0), hT.below h⟩))
  have HPM := Lib.hid F.max
  have HT0 := Lib.hid hT
  have HEB := Lib.hid hE.hb
  clear hE hs hl hn0 hin h1 hN2 hN hR F G hT hTT hTa hTin hTl hcm
  go_enter Tryz.func36, Tryz.ntmps36
  go_upto_region 1 with (fail)
  rw [← HW0.out]
  go_wp2_with fail
  refine (HR.out _).mono ?_
  rintro e w' ⟨rfl, rfl⟩
  rw [HN.out]
  go_wp2_with fail
  refine HCF.out.mono ?_
  rintro e w' ⟨rfl, rfl⟩
  go_wp2_with fail
  refine (HCL.out _ HEB.out).mono ?_
  rintro _ w1 ⟨v1, rfl, ho1, hb1⟩
  obtain ⟨A1, n1, c1, rfl, hl1, hc1, _, _⟩ := ho1.shapeN
  go_wp2_with fail
  obtain ⟨W2, hW2⟩ : ∃ W2, W2 = w1.alloc (.cells #[.slice A1 n1 c1, .slice none 0 0, .slice none 0 0] 79) := ⟨_, rfl⟩
  obtain ⟨ob, hob⟩ : ∃ ob, ob = w1.heap.size := ⟨_, rfl⟩
  have hB2 : Blk W2 ob 79 #[.slice A1 n1 c1, .slice none 0 0, .slice none 0 0] := by rw [hW2, hob]; exact Blk.new _ _ _
  have hb2 : Below W0.heap.size W0 W2 := by rw [hW2]; exact hb1.alloc hb1.size _
  have ho2 : Own W2 W0.heap.size (.slice A1 n1 c1) l := by rw [hW2]; exact ho1.alloc' _
  have hne : some ob ≠ (Value.slice A1 n1 c1).ownBlock := fun e => by have := (ho1.lt ob e.symm).2; omega
  have hob0 : W0.heap.size ≤ ob := by rw [hob]; exact hb1.size
  rw [← hW2, ← hob]
  have HNE := Lib.hid hne
  have HO0 := Lib.hid hob0
  clear hW2 hob hb1 ho1 hne hob0
  have hn1 : n1 ≤ 4000000000000000000 := by have := HLL.out; omega
  refine (sort_any ho2 hl1 hn1).mono ?_
  rintro _ w3 ⟨rfl, ho3, hg3⟩
  have hB3 := Blk.grown hB2 hg3 HNE.out
  have hb3 := hb2.grown hg3 hb2.size (fun k hk => (ho2.lt k hk).1)
  have d3 := (hB3.cell 0).trans (show _ = some (.slice A1 n1 c1) from rfl)
  have HCC := Lib.hid (compact_any ho3 (by rw [List.length_mergeSort]; exact hl1) hn1)
  have HB3 := Lib.hid (And.intro hB3 (And.intro hb3 ho3))
  clear hB2 hb2 ho2 hB3 hb3 ho3 hg3 hl1 hn1
  go_wp2_with fail
  refine HCC.out.mono ?_
  rintro _ w4 ⟨rfl, ho4, hg4⟩
  rw [HCM.out] at ho4
  rw [HCM.out]
  have hB4 := Blk.grown HB3.out.1 hg4 HNE.out
  have hb4 := HB3.out.2.1.grown hg4 HB3.out.2.1.size (fun k hk => (HB3.out.2.2.lt k hk).1)
  obtain ⟨_, _, _, ev, hl4, _, _, hs4⟩ := ho4.shapeN
  injection ev with ev1 ev2 ev3
  subst ev1 ev2 ev3
  have HCL4 := Lib.hid (clone_any A1 T.length c1 T rfl (by have := HLS.out.2.2.2.2.1; have := HLS.out.2.2.1; omega) w4 hs4)
  have HB4 := Lib.hid (And.intro hB4 hb4)
  obtain ⟨tl, htl⟩ : ∃ tl, tl = T.length := ⟨_, rfl⟩
  rw [← htl] at HCL4 ⊢
  clear hB4 hb4 hl4 hs4 ho4 hg4 d3 HCC htl
  go_wp2_with fail
  refine HCL4.out.mono ?_
  rintro _ w5 ⟨v5, rfl, ho5, hb5⟩
  obtain ⟨A5, n5, c5, rfl, hl5, hc5, _, hs5⟩ := ho5.shapeN
  have HCI := Lib.hid (clipI_any A5 n5 c5 hc5 w5 (own_none ho5))
  have hB5 := Blk.below HB4.out.1 hb5 HB4.out.1.lt
  have d5 := (hB5.cell 0).trans (show _ = some (.slice A1 n1 c1) from rfl)
  have z5 := hB5.frozen 0
  have hobw : ob < w4.heap.size := HB4.out.1.lt
  obtain ⟨W6, hW6⟩ : ∃ W6, W6 = w5.setCell ⟨ob, 0, none⟩ (.slice A5 n5 n5) := ⟨_, rfl⟩
  have hg6 : w5.grownBy W6 (some ob) := by rw [hW6]; exact blk_grown
  have hB6 : Blk W6 ob 79 #[.slice A5 n5 n5, .slice none 0 0, .slice none 0 0] := by rw [hW6]; exact hB5.set_ 0 _
  have ho6 := own_past ho5 hg6 hobw
  have hb05 := HB4.out.2.trans (hb5.mono HB4.out.2.size)
  have hb06 := hb05.grown hg6 hb05.size (fun k hk => by injection hk with hk; have := HO0.out; omega)
  have KE : Hid (∀ W', W6.grownBy W' (some ob) → SL W' A5 T ∧ (Fld W' S b p ∧ Spg W' s b k z oo ∧ TB W' A ls) ∧ W'.cell? ⟨w.heap.size, 0, none⟩ = some (.pointer (some ⟨s, 0, none⟩)) ∧ W'.cell? ⟨w.heap.size + 1, 0, none⟩ = some (.slice A N c) ∧ Ent w W' (some ⟨s, 0, none⟩) A N c ∧ Below w.heap.size w W' ∧ Own W' w4.heap.size (.slice A5 n5 c5) T) := Lib.hid fun W' hg => by
    have hz := HE.out.hz
    have h0 := HO0.out
    have hb0 := hb06.grown hg hb06.size (fun k hk => by injection hk with hk; omega)
    have hE' := HE.out.below (hb0.mono (by omega))
    have hbw := HEB.out.trans (hb0.mono HEB.out.size)
    have how := ho6.keep fun g hgv => hg.block g (ho6.lt g hgv).2 (fun e => by injection e with e; have := (ho6.lt g hgv).1; omega)
    obtain ⟨_, _, _, ev, _, _, _, hsl⟩ := how.shapeN
    injection ev with ev1 ev2 ev3
    subst ev1 ev2 ev3
    exact ⟨hsl, HX.out W' hbw, hE'.cs, hE'.cr, hE', hbw, how⟩
  have HB6 := Lib.hid hB6
  have HL5 := Lib.hid hl5
  have HC5 := Lib.hid (And.intro hc5 hobw)
  have HW6 := Lib.hid hW6
  clear ho5 hl5 hc5 hs5 hB5 hobw hW6 hg6 hB6 ho6 hb05 hb06 hb5
  go_wp2_with fail
  refine HCI.out.mono ?_
  rintro _ _ ⟨rfl, rfl⟩
  go_upto_region 8 with (fail)
  rw [← HW6.out]
  have d6 := (HB6.out.cell 0).trans (show _ = some (.slice A5 n5 n5) from rfl)
  go_wp2
  obtain ⟨B1, hB1⟩ : ∃ B1, B1 = W6.heap.size := ⟨_, rfl⟩
  have hob1 : ob < B1 := by rw [hB1]; exact HB6.out.lt
  have HBZ := Lib.hid (show W6.heap.size ≤ B1 by rw [hB1]; exact Nat.le_refl _)
  have HOB1 := Lib.hid (And.intro hob1 (show B1 ≤ W6.heap.size by rw [hB1]; exact Nat.le_refl _))
  clear hB1 hob1 d6
  go_loopw [10, 37] (fun _ i wr => ∃ (kk : Nat) (v : Value) (us : List Value), kk ≤ T.length ∧ i = vi kk ∧ BldR wr B1 ob (.slice A5 n5 n5) v us ((openR p ls T).take kk) ∧ W6.grownBy wr (some ob)) (fun _ i _ => n5 - (intOf i).toNat)
  case atStart => exact ⟨0, .slice none 0 0, [], Nat.zero_le _, rfl, ⟨HB6.out, HOB1.out.1, HOB1.out.2, World.ownsRow_nil _ _ _ _, RowsOwn.nil _ _⟩, ⟨rfl, rfl, rfl, Nat.le_refl _, fun _ _ _ => rfl⟩⟩
  case round =>
    obtain ⟨kk, v, us, hk, rfl, hbld, hgr⟩ := hrel
    rw [HL5.out] at hk
    obtain ⟨AV, nV, cV, rfl, hnV, hcV⟩ := ownR_shape hbld.ro
    by_cases hlt : kk < n5
    · have hkT : kk < T.length := by rw [HL5.out]; exact hlt
      obtain ⟨ad, rfl, hab, hcell⟩ := (KE.out _ hgr).1.at_ hkT
      have hx := HLS.out.2.2.2.2.2.2 _ (List.getElem_mem hkT)
      obtain ⟨m, hm⟩ := Int.eq_ofNat_of_zero_le hx.1
      have htk := openR_take p ls T hkT hm
      rw [hm] at hcell hx
      have hmN : m < ls.length := by rw [HLS.out.1]; omega
      obtain ⟨ad2, A2, n2, c2, rfl, hb2, hc2, hl2, hn2, hs2, hi2⟩ := HT0.out m hmN
      have hrl := HLS.out.2.2.2.1 _ (List.getElem_mem hmN)
      rw [rowF_at hmN] at htk
      have HTK := Lib.hid htk
      have hsx : ∀ W', Below w.heap.size w W' → SL W' A2 ls[m] := fun W' h => hs2.below h
      have HI2 := Lib.hid hi2
      have HRL := Lib.hid hrl
      generalize ls[m] = x at *
      have HEL := Lib.hid (fun W' (hs : SL W' A2 x) (hc : W'.cell? ⟨b, 0, none⟩ = some (vi p)) => elements_any p b HPM.out A2 n2 c2 x hl2 HI2.out (by have := HRL.out; omega) W' hs hc)
      have HFD := Lib.hid (fun W' (G : Spg W' s b k z oo) => sfield_s s b k z oo W' G)
      have HSX := Lib.hid hsx
      have i1 : (0 : Int) ≤ (kk : Int) := by omega
      have i2 : (kk : Int) < (n5 : Int) := by omega
      have i3 : (0 : Int) ≤ (m : Int) := by omega
      have i4 : (m : Int) < (N : Int) := hx.2
      have hwr : IntKind.i64.wrap ((kk : Int) + 1) = (kk : Int) + 1 := IntWalk.i64_in _ (by have := HLS.out.2.2.2.2.1; have := HL5.out; have := HLS.out.2.2.1; omega)
      have HUS := Lib.hid (show us.length < 5864062014805 by have := hbld.rr.1; rw [List.length_take] at this; have := HLS.out.2.2.2.2.1; have := HL5.out; have := HLS.out.2.2.1; omega)
      have HBL := Lib.hid hbld
      have HC2 := Lib.hid (And.intro hb2 hc2)
      have hb11 : Below wr.heap.size wr wr.drew := below_drewN (Below.refl _ _) 1
      have kk1 : W6.grownBy wr.drew (some ob) := grownBy_trans hgr (grown_of_below hb11 _)
      have KS : Hid (∀ W', W6.grownBy W' (some ob) → W'.cell? ⟨w.heap.size, 0, none⟩ = some (.pointer (some ⟨s, 0, none⟩)) ∧ W'.cell? ⟨w.heap.size + 1, 0, none⟩ = some (.slice (some ad2) N c) ∧ W'.cell? (ad2.add m) = some (.slice A2 n2 c2)) := Lib.hid fun W' hg => by
        have h := KE.out W' hg
        exact ⟨h.2.2.1, h.2.2.2.1, (h.2.2.2.2.2.1.cell (p := ad2.add m) HC2.out.1).trans HC2.out.2⟩
      have c1 := (hbld.blk.cell 1).trans (show _ = some (.slice AV nV cV) from rfl)
      have c2' := ((Blk.drew hbld.blk).cell 1).trans (show _ = some (.slice AV nV cV) from rfl)
      clear htk hm hx hl2 hn2 hs2 hi2 hrl hmN hkT hbld hb2 hc2 hsx hab
      go_wp2_with fail
      refine wp_region_held_drew (S := fun w' => w'.cell? ⟨w.heap.size, 0, none⟩ = some (.pointer (some ⟨s, 0, none⟩)) ∧ w'.cell? ⟨w.heap.size + 1, 0, none⟩ = some (.slice (some ad2) N c) ∧ w'.cell? (ad2.add m) = some (.slice A2 n2 c2)) (by kernel_rfl) (KS.out _ kk1) (fun hHeld => ?_)
      refine wpAnyH_take_at (i := 0) rfl rfl (by kernel_rfl) (by kernel_rfl) (by kernel_rfl) (fun _ _ _ h => h) (Or.inl ⟨by rfl, by (intro w hSw; (try dsimp only at hSw); go_simp; try with_reducible rfl)⟩) (by assumption) ?_
      (try simp only [Act.put, List.setIfInBounds_toArray, List.set_cons_zero, List.set_cons_succ])
      refine wpAnyH_take_at (i := 2) rfl rfl (by kernel_rfl) (by kernel_rfl) (by kernel_rfl) (fun _ _ _ h => h) (Or.inl ⟨by rfl, by (intro w hSw; (try dsimp only at hSw); go_simp; try with_reducible rfl)⟩) (by assumption) ?_
      (try simp only [Act.put, List.setIfInBounds_toArray, List.set_cons_zero, List.set_cons_succ])
      refine wpAnyH_take_at (i := 4) rfl rfl (by kernel_rfl) (by kernel_rfl) (by kernel_rfl) (fun _ _ _ h => h) (Or.inl ⟨by rfl, by (intro w hSw; (try dsimp only at hSw); go_simp; try with_reducible rfl)⟩) (by assumption) ?_
      (try simp only [Act.put, List.setIfInBounds_toArray, List.set_cons_zero, List.set_cons_succ])
      refine wpAnyH_take_at (i := 5) rfl rfl (by kernel_rfl) (by kernel_rfl) (by kernel_rfl) (fun _ _ _ h => h) (Or.inl ⟨by rfl, by (intro w hSw; (try dsimp only at hSw); go_simp; try with_reducible rfl)⟩) (by assumption) ?_
      (try simp only [Act.put, List.setIfInBounds_toArray, List.set_cons_zero, List.set_cons_succ])
      refine wpAnyH_take_at (i := 6) rfl rfl (by kernel_rfl) (by kernel_rfl) (by kernel_rfl) (fun _ _ _ h => h) (Or.inl ⟨by rfl, by (intro w hSw; (try dsimp only at hSw); go_simp; try with_reducible rfl)⟩) (by assumption) ?_
      (try simp only [Act.put, List.setIfInBounds_toArray, List.set_cons_zero, List.set_cons_succ])
      refine wpAnyH_take_at (i := 7) rfl rfl (by kernel_rfl) (by kernel_rfl) (by kernel_rfl) (fun _ _ _ h => h) (Or.inl ⟨by rfl, by (intro w hSw; (try dsimp only at hSw); go_simp; try with_reducible rfl)⟩) (by assumption) ?_
      (try simp only [Act.put, List.setIfInBounds_toArray, List.set_cons_zero, List.set_cons_succ])
      refine wpAnyH_ready (rs := [1,3]) (by kernel_rfl) (by simp) ?_
      refine AllReadyH.cons rfl (fun K hK => ?_) (AllReadyH.cons rfl (fun K hK => ?_) AllReadyH.nil)
      · go_simp
        refine hK.out _ _ (by (first | exact KS.out _ (by assumption) | (simp only [Act.put]; exact KS.out _ (by assumption)))) (fun hHeld => ?_)
        clear hK K
        (try simp only [Act.put, List.setIfInBounds_toArray, List.set_cons_zero, List.set_cons_succ])
        refine wpAnyH_ready (rs := [3]) (by kernel_rfl) (by simp) ?_
        refine AllReadyH.cons rfl (fun K hK => ?_) AllReadyH.nil
        go_simp
        refine (HFD.out _ (KE.out _ kk1).2.1.2.1).mono ?_
        rintro _ _ ⟨rfl, rfl⟩
        refine hK.out _ _ (by (first | exact KS.out _ (by assumption) | (simp only [Act.put]; exact KS.out _ (by assumption)))) (fun hHeld => ?_)
        clear hK K
        (try simp only [Act.put, List.setIfInBounds_toArray, List.set_cons_zero, List.set_cons_succ])
        refine wpAnyH_ready (rs := [8]) (by kernel_rfl) (by simp) ?_
        refine AllReadyH.cons rfl (fun K hK => ?_) AllReadyH.nil
        go_simp
        refine (HEL.out _ (HSX.out _ (KE.out _ kk1).2.2.2.2.2.1) (KE.out _ kk1).2.1.1.c0).mono ?_
        rintro _ w8 ⟨v8, rfl, ho8, hb8⟩
        obtain ⟨A8, n8, c8, rfl, hl8, _, _, _⟩ := ho8.shapeN
        have hb8' := hb11.trans (hb8.mono hb11.size)
        have hbl8 := HBL.out.below hb8'
        have kk8 : W6.grownBy w8 (some ob) := grownBy_trans kk1 (grown_of_below hb8 _)
        have hba := (Below.refl w8.heap.size w8).alloc (Nat.le_refl _) (.cells #[.slice A8 n8 c8] 22)
        have kk8a : W6.grownBy (w8.alloc (.cells #[.slice A8 n8 c8] 22)) (some ob) := grownBy_trans kk8 (grown_of_below hba _)
        have d8 := (hbl8.blk.cell 1).trans (show _ = some (.slice AV nV cV) from rfl)
        have d8a := ((Blk.alloc hbl8.blk (.cells #[.slice A8 n8 c8] 22)).cell 1).trans (show _ = some (.slice AV nV cV) from rfl)
        have HB8 := Lib.hid (And.intro hbl8 (ho8.more (Nat.le_trans HBL.out.sz hb11.size)))
        clear ho8 hl8 hb8 hb8' hbl8 hba
        refine hK.out _ _ (by (first | exact KS.out _ (by assumption) | (simp only [Act.put]; exact KS.out _ (by assumption)))) (fun hHeld => ?_)
        clear hK K
        (try simp only [Act.put, List.setIfInBounds_toArray, List.set_cons_zero, List.set_cons_succ])
        refine wpAnyH_ready (rs := [9]) (by kernel_rfl) (by simp) ?_
        refine AllReadyH.cons rfl (fun K hK => ?_) AllReadyH.nil
        go_simp
        refine hK.out _ _ (by (first | exact KS.out _ (by assumption) | (simp only [Act.put]; exact KS.out _ (by assumption)))) (fun hHeld => ?_)
        clear hK K
        (try simp only [Act.put, List.setIfInBounds_toArray, List.set_cons_zero, List.set_cons_succ])
        refine wpAnyH_ready (rs := [10]) (by kernel_rfl) (by simp) ?_
        refine AllReadyH.cons rfl (fun K hK => ?_) AllReadyH.nil
        refine step_appR w8 A8 n8 c8 (by rfl) _ _ (by rfl) B1 _ us (by rfl) (by rfl) HB8.out.1.ro HUS.out HB8.out.1.sz ?_
        intro v9 w9 hg9
        obtain ⟨hq9, hbld9, _⟩ := HB8.out.1.push HB8.out.2 hg9
        obtain ⟨A9, n9, c9, rfl, hn9, hc9⟩ := ownR_shape hg9.own
        have kk9 : W6.grownBy w9 (some ob) := grownBy_new kk8 hg9.grown fun j hj => Nat.le_trans HBZ.out (World.ownsRow.lt HB8.out.1.ro j hj).1
        have kk10 : W6.grownBy (w9.setCell ⟨ob, 1, none⟩ (.slice A9 n9 c9)) (some ob) := grownBy_trans kk9 blk_grown
        have d9 := (hq9.cell 1).trans (show _ = some (.slice AV nV cV) from rfl)
        have z9 := hq9.frozen 1
        have HB10 := Lib.hid hbld9
        clear hbld9 hq9 hg9 hn9 hc9
        refine hK.out _ _ (by (first | exact KS.out _ (by assumption) | (simp only [Act.put]; exact KS.out _ (by assumption)))) (fun hHeld => ?_)
        clear hK K
        (try simp only [Act.put, List.setIfInBounds_toArray, List.set_cons_zero, List.set_cons_succ])
        refine wpAnyH_ready (rs := [11]) (by kernel_rfl) (by simp) ?_
        refine AllReadyH.cons rfl (fun K hK => ?_) AllReadyH.nil
        go_simp
        refine hK.out _ _ (by (first | exact KS.out _ (by assumption) | (simp only [Act.put]; exact KS.out _ (by assumption)))) (fun hHeld => ?_)
        clear hK K
        (try simp only [Act.put, List.setIfInBounds_toArray, List.set_cons_zero, List.set_cons_succ])
        refine wpAnyH_ready (rs := [12]) (by kernel_rfl) (by simp) ?_
        refine AllReadyH.cons rfl (fun K hK => ?_) AllReadyH.nil
        go_simp
        refine hK.out _ _ (by (first | exact KS.out _ (by assumption) | (simp only [Act.put]; exact KS.out _ (by assumption)))) (fun hHeld => ?_)
        clear hK K
        (try simp only [Act.put, List.setIfInBounds_toArray, List.set_cons_zero, List.set_cons_succ])
        refine wpAnyH_done (by kernel_rfl) ?_ _
        go_wp2
        go_roundw
        case rel => exact ⟨kk + 1, _, _, by rw [HL5.out]; omega, by go_num, by rw [HTK.out]; exact HB10.out, kk10⟩
        case measure => simp [intOf]; omega
      · go_simp
        refine (HFD.out _ (KE.out _ kk1).2.1.2.1).mono ?_
        rintro _ _ ⟨rfl, rfl⟩
        refine hK.out _ _ (by (first | exact KS.out _ (by assumption) | (simp only [Act.put]; exact KS.out _ (by assumption)))) (fun hHeld => ?_)
        clear hK K
        (try simp only [Act.put, List.setIfInBounds_toArray, List.set_cons_zero, List.set_cons_succ])
        refine wpAnyH_ready (rs := [1,8]) (by kernel_rfl) (by simp) ?_
        refine AllReadyH.cons rfl (fun K hK => ?_) (AllReadyH.cons rfl (fun K hK => ?_) AllReadyH.nil)
        · go_simp
          refine hK.out _ _ (by (first | exact KS.out _ (by assumption) | (simp only [Act.put]; exact KS.out _ (by assumption)))) (fun hHeld => ?_)
          clear hK K
          (try simp only [Act.put, List.setIfInBounds_toArray, List.set_cons_zero, List.set_cons_succ])
          refine wpAnyH_ready (rs := [8]) (by kernel_rfl) (by simp) ?_
          refine AllReadyH.cons rfl (fun K hK => ?_) AllReadyH.nil
          go_simp
          refine (HEL.out _ (HSX.out _ (KE.out _ kk1).2.2.2.2.2.1) (KE.out _ kk1).2.1.1.c0).mono ?_
          rintro _ w8 ⟨v8, rfl, ho8, hb8⟩
          obtain ⟨A8, n8, c8, rfl, hl8, _, _, _⟩ := ho8.shapeN
          have hb8' := hb11.trans (hb8.mono hb11.size)
          have hbl8 := HBL.out.below hb8'
          have kk8 : W6.grownBy w8 (some ob) := grownBy_trans kk1 (grown_of_below hb8 _)
          have hba := (Below.refl w8.heap.size w8).alloc (Nat.le_refl _) (.cells #[.slice A8 n8 c8] 22)
          have kk8a : W6.grownBy (w8.alloc (.cells #[.slice A8 n8 c8] 22)) (some ob) := grownBy_trans kk8 (grown_of_below hba _)
          have d8 := (hbl8.blk.cell 1).trans (show _ = some (.slice AV nV cV) from rfl)
          have d8a := ((Blk.alloc hbl8.blk (.cells #[.slice A8 n8 c8] 22)).cell 1).trans (show _ = some (.slice AV nV cV) from rfl)
          have HB8 := Lib.hid (And.intro hbl8 (ho8.more (Nat.le_trans HBL.out.sz hb11.size)))
          clear ho8 hl8 hb8 hb8' hbl8 hba
          refine hK.out _ _ (by (first | exact KS.out _ (by assumption) | (simp only [Act.put]; exact KS.out _ (by assumption)))) (fun hHeld => ?_)
          clear hK K
          (try simp only [Act.put, List.setIfInBounds_toArray, List.set_cons_zero, List.set_cons_succ])
          refine wpAnyH_ready (rs := [9]) (by kernel_rfl) (by simp) ?_
          refine AllReadyH.cons rfl (fun K hK => ?_) AllReadyH.nil
          go_simp
          refine hK.out _ _ (by (first | exact KS.out _ (by assumption) | (simp only [Act.put]; exact KS.out _ (by assumption)))) (fun hHeld => ?_)
          clear hK K
          (try simp only [Act.put, List.setIfInBounds_toArray, List.set_cons_zero, List.set_cons_succ])
          refine wpAnyH_ready (rs := [10]) (by kernel_rfl) (by simp) ?_
          refine AllReadyH.cons rfl (fun K hK => ?_) AllReadyH.nil
          refine step_appR w8 A8 n8 c8 (by rfl) _ _ (by rfl) B1 _ us (by rfl) (by rfl) HB8.out.1.ro HUS.out HB8.out.1.sz ?_
          intro v9 w9 hg9
          obtain ⟨hq9, hbld9, _⟩ := HB8.out.1.push HB8.out.2 hg9
          obtain ⟨A9, n9, c9, rfl, hn9, hc9⟩ := ownR_shape hg9.own
          have kk9 : W6.grownBy w9 (some ob) := grownBy_new kk8 hg9.grown fun j hj => Nat.le_trans HBZ.out (World.ownsRow.lt HB8.out.1.ro j hj).1
          have kk10 : W6.grownBy (w9.setCell ⟨ob, 1, none⟩ (.slice A9 n9 c9)) (some ob) := grownBy_trans kk9 blk_grown
          have d9 := (hq9.cell 1).trans (show _ = some (.slice AV nV cV) from rfl)
          have z9 := hq9.frozen 1
          have HB10 := Lib.hid hbld9
          clear hbld9 hq9 hg9 hn9 hc9
          refine hK.out _ _ (by (first | exact KS.out _ (by assumption) | (simp only [Act.put]; exact KS.out _ (by assumption)))) (fun hHeld => ?_)
          clear hK K
          (try simp only [Act.put, List.setIfInBounds_toArray, List.set_cons_zero, List.set_cons_succ])
          refine wpAnyH_ready (rs := [11]) (by kernel_rfl) (by simp) ?_
          refine AllReadyH.cons rfl (fun K hK => ?_) AllReadyH.nil
          go_simp
          refine hK.out _ _ (by (first | exact KS.out _ (by assumption) | (simp only [Act.put]; exact KS.out _ (by assumption)))) (fun hHeld => ?_)
          clear hK K
          (try simp only [Act.put, List.setIfInBounds_toArray, List.set_cons_zero, List.set_cons_succ])
          refine wpAnyH_ready (rs := [12]) (by kernel_rfl) (by simp) ?_
          refine AllReadyH.cons rfl (fun K hK => ?_) AllReadyH.nil
          go_simp
          refine hK.out _ _ (by (first | exact KS.out _ (by assumption) | (simp only [Act.put]; exact KS.out _ (by assumption)))) (fun hHeld => ?_)
          clear hK K
          (try simp only [Act.put, List.setIfInBounds_toArray, List.set_cons_zero, List.set_cons_succ])
          refine wpAnyH_done (by kernel_rfl) ?_ _
          go_wp2
          go_roundw
          case rel => exact ⟨kk + 1, _, _, by rw [HL5.out]; omega, by go_num, by rw [HTK.out]; exact HB10.out, kk10⟩
          case measure => simp [intOf]; omega
        · go_simp
          refine (HEL.out _ (HSX.out _ (KE.out _ kk1).2.2.2.2.2.1) (KE.out _ kk1).2.1.1.c0).mono ?_
          rintro _ w8 ⟨v8, rfl, ho8, hb8⟩
          obtain ⟨A8, n8, c8, rfl, hl8, _, _, _⟩ := ho8.shapeN
          have hb8' := hb11.trans (hb8.mono hb11.size)
          have hbl8 := HBL.out.below hb8'
          have kk8 : W6.grownBy w8 (some ob) := grownBy_trans kk1 (grown_of_below hb8 _)
          have hba := (Below.refl w8.heap.size w8).alloc (Nat.le_refl _) (.cells #[.slice A8 n8 c8] 22)
          have kk8a : W6.grownBy (w8.alloc (.cells #[.slice A8 n8 c8] 22)) (some ob) := grownBy_trans kk8 (grown_of_below hba _)
          have d8 := (hbl8.blk.cell 1).trans (show _ = some (.slice AV nV cV) from rfl)
          have d8a := ((Blk.alloc hbl8.blk (.cells #[.slice A8 n8 c8] 22)).cell 1).trans (show _ = some (.slice AV nV cV) from rfl)
          have HB8 := Lib.hid (And.intro hbl8 (ho8.more (Nat.le_trans HBL.out.sz hb11.size)))
          clear ho8 hl8 hb8 hb8' hbl8 hba
          refine hK.out _ _ (by (first | exact KS.out _ (by assumption) | (simp only [Act.put]; exact KS.out _ (by assumption)))) (fun hHeld => ?_)
          clear hK K
          (try simp only [Act.put, List.setIfInBounds_toArray, List.set_cons_zero, List.set_cons_succ])
          refine wpAnyH_ready (rs := [1,9]) (by kernel_rfl) (by simp) ?_
          refine AllReadyH.cons rfl (fun K hK => ?_) (AllReadyH.cons rfl (fun K hK => ?_) AllReadyH.nil)
          · go_simp
            refine hK.out _ _ (by (first | exact KS.out _ (by assumption) | (simp only [Act.put]; exact KS.out _ (by assumption)))) (fun hHeld => ?_)
            clear hK K
            (try simp only [Act.put, List.setIfInBounds_toArray, List.set_cons_zero, List.set_cons_succ])
            refine wpAnyH_ready (rs := [9]) (by kernel_rfl) (by simp) ?_
            refine AllReadyH.cons rfl (fun K hK => ?_) AllReadyH.nil
            go_simp
            refine hK.out _ _ (by (first | exact KS.out _ (by assumption) | (simp only [Act.put]; exact KS.out _ (by assumption)))) (fun hHeld => ?_)
            clear hK K
            (try simp only [Act.put, List.setIfInBounds_toArray, List.set_cons_zero, List.set_cons_succ])
            refine wpAnyH_ready (rs := [10]) (by kernel_rfl) (by simp) ?_
            refine AllReadyH.cons rfl (fun K hK => ?_) AllReadyH.nil
            refine step_appR w8 A8 n8 c8 (by rfl) _ _ (by rfl) B1 _ us (by rfl) (by rfl) HB8.out.1.ro HUS.out HB8.out.1.sz ?_
            intro v9 w9 hg9
            obtain ⟨hq9, hbld9, _⟩ := HB8.out.1.push HB8.out.2 hg9
            obtain ⟨A9, n9, c9, rfl, hn9, hc9⟩ := ownR_shape hg9.own
            have kk9 : W6.grownBy w9 (some ob) := grownBy_new kk8 hg9.grown fun j hj => Nat.le_trans HBZ.out (World.ownsRow.lt HB8.out.1.ro j hj).1
            have kk10 : W6.grownBy (w9.setCell ⟨ob, 1, none⟩ (.slice A9 n9 c9)) (some ob) := grownBy_trans kk9 blk_grown
            have d9 := (hq9.cell 1).trans (show _ = some (.slice AV nV cV) from rfl)
            have z9 := hq9.frozen 1
            have HB10 := Lib.hid hbld9
            clear hbld9 hq9 hg9 hn9 hc9
            refine hK.out _ _ (by (first | exact KS.out _ (by assumption) | (simp only [Act.put]; exact KS.out _ (by assumption)))) (fun hHeld => ?_)
            clear hK K
            (try simp only [Act.put, List.setIfInBounds_toArray, List.set_cons_zero, List.set_cons_succ])
            refine wpAnyH_ready (rs := [11]) (by kernel_rfl) (by simp) ?_
            refine AllReadyH.cons rfl (fun K hK => ?_) AllReadyH.nil
            go_simp
            refine hK.out _ _ (by (first | exact KS.out _ (by assumption) | (simp only [Act.put]; exact KS.out _ (by assumption)))) (fun hHeld => ?_)
            clear hK K
            (try simp only [Act.put, List.setIfInBounds_toArray, List.set_cons_zero, List.set_cons_succ])
            refine wpAnyH_ready (rs := [12]) (by kernel_rfl) (by simp) ?_
            refine AllReadyH.cons rfl (fun K hK => ?_) AllReadyH.nil
            go_simp
            refine hK.out _ _ (by (first | exact KS.out _ (by assumption) | (simp only [Act.put]; exact KS.out _ (by assumption)))) (fun hHeld => ?_)
            clear hK K
            (try simp only [Act.put, List.setIfInBounds_toArray, List.set_cons_zero, List.set_cons_succ])
            refine wpAnyH_done (by kernel_rfl) ?_ _
            go_wp2
            go_roundw
            case rel => exact ⟨kk + 1, _, _, by rw [HL5.out]; omega, by go_num, by rw [HTK.out]; exact HB10.out, kk10⟩
            case measure => simp [intOf]; omega
          · go_simp
            refine hK.out _ _ (by (first | exact KS.out _ (by assumption) | (simp only [Act.put]; exact KS.out _ (by assumption)))) (fun hHeld => ?_)
            clear hK K
            (try simp only [Act.put, List.setIfInBounds_toArray, List.set_cons_zero, List.set_cons_succ])
            refine wpAnyH_ready (rs := [1]) (by kernel_rfl) (by simp) ?_
            refine AllReadyH.cons rfl (fun K hK => ?_) AllReadyH.nil
            go_simp
            refine hK.out _ _ (by (first | exact KS.out _ (by assumption) | (simp only [Act.put]; exact KS.out _ (by assumption)))) (fun hHeld => ?_)
            clear hK K
            (try simp only [Act.put, List.setIfInBounds_toArray, List.set_cons_zero, List.set_cons_succ])
            refine wpAnyH_ready (rs := [10]) (by kernel_rfl) (by simp) ?_
            refine AllReadyH.cons rfl (fun K hK => ?_) AllReadyH.nil
            refine step_appR w8 A8 n8 c8 (by rfl) _ _ (by rfl) B1 _ us (by rfl) (by rfl) HB8.out.1.ro HUS.out HB8.out.1.sz ?_
            intro v9 w9 hg9
            obtain ⟨hq9, hbld9, _⟩ := HB8.out.1.push HB8.out.2 hg9
            obtain ⟨A9, n9, c9, rfl, hn9, hc9⟩ := ownR_shape hg9.own
            have kk9 : W6.grownBy w9 (some ob) := grownBy_new kk8 hg9.grown fun j hj => Nat.le_trans HBZ.out (World.ownsRow.lt HB8.out.1.ro j hj).1
            have kk10 : W6.grownBy (w9.setCell ⟨ob, 1, none⟩ (.slice A9 n9 c9)) (some ob) := grownBy_trans kk9 blk_grown
            have d9 := (hq9.cell 1).trans (show _ = some (.slice AV nV cV) from rfl)
            have z9 := hq9.frozen 1
            have HB10 := Lib.hid hbld9
            clear hbld9 hq9 hg9 hn9 hc9
            refine hK.out _ _ (by (first | exact KS.out _ (by assumption) | (simp only [Act.put]; exact KS.out _ (by assumption)))) (fun hHeld => ?_)
            clear hK K
            (try simp only [Act.put, List.setIfInBounds_toArray, List.set_cons_zero, List.set_cons_succ])
            refine wpAnyH_ready (rs := [11]) (by kernel_rfl) (by simp) ?_
            refine AllReadyH.cons rfl (fun K hK => ?_) AllReadyH.nil
            go_simp
            refine hK.out _ _ (by (first | exact KS.out _ (by assumption) | (simp only [Act.put]; exact KS.out _ (by assumption)))) (fun hHeld => ?_)
            clear hK K
            (try simp only [Act.put, List.setIfInBounds_toArray, List.set_cons_zero, List.set_cons_succ])
            refine wpAnyH_ready (rs := [12]) (by kernel_rfl) (by simp) ?_
            refine AllReadyH.cons rfl (fun K hK => ?_) AllReadyH.nil
            go_simp
            refine hK.out _ _ (by (first | exact KS.out _ (by assumption) | (simp only [Act.put]; exact KS.out _ (by assumption)))) (fun hHeld => ?_)
            clear hK K
            (try simp only [Act.put, List.setIfInBounds_toArray, List.set_cons_zero, List.set_cons_succ])
            refine wpAnyH_done (by kernel_rfl) ?_ _
            go_wp2
            go_roundw
            case rel => exact ⟨kk + 1, _, _, by rw [HL5.out]; omega, by go_num, by rw [HTK.out]; exact HB10.out, kk10⟩
            case measure => simp [intOf]; omega
    · have ek : kk = n5 := by omega
      rw [show (openR p ls T).take kk = openR p ls T by rw [ek, ← HL5.out, ← openR_len p ls T, List.take_length]] at hbld
      have hJ0 : NodesJ (fun g => rootD (digL p k) (rowF ls) g.1 g.2) wr ob (.slice A5 n5 n5) (.slice AV nV cV) [] wr := ⟨.slice none 0 0, [], hbld.blk, World.ownsRow_nil _ _ _ _, UsAt.nil _, ⟨rfl, rfl, rfl, Nat.le_refl _, fun _ _ _ => rfl⟩⟩
      have hEE : ∀ W', wr.grownBy W' (some ob) → Fld W' S b p ∧ Spg W' s b k z oo ∧ TB W' A ls ∧ W'.cell? ⟨w.heap.size, 0, none⟩ = some (.pointer (some ⟨s, 0, none⟩)) ∧ W'.cell? ⟨w.heap.size + 1, 0, none⟩ = some (.slice A N c) := fun W' hg => by
        have h := KE.out W' (grownBy_trans hgr hg)
        exact ⟨h.2.1.1, h.2.1.2.1, h.2.1.2.2, h.2.2.1, h.2.2.2.1⟩
      have hid := hidden_gen 70 (enters_of Tryz.func70 (by kernel_rfl) rfl) #[.pointer (some ⟨ob, 0, none⟩), .pointer (some ⟨w.heap.size, 0, none⟩), .pointer (some ⟨w.heap.size + 1, 0, none⟩)] N HLS.out.2.2.1 A5 n5 n5 T HL5.out (by have := HLS.out.2.2.2.2.1; have := HL5.out; have := HLS.out.2.2.1; omega) HLS.out.2.2.2.2.2.1 (NodesJ (fun g => rootD (digL p k) (rowF ls) g.1 g.2) wr ob (.slice A5 n5 n5) (.slice AV nV cV)) (fun pre W W' h hb => h.below hb) (fun pre W h => by
          obtain ⟨_, _, _, _, _, hg⟩ := h
          exact (KE.out W (grownBy_trans hgr hg)).1)
        (fun pre a m W hj hpl h1 ha => open2_any p S b s k z oo A N c ls HLS.out.1 HLS.out.2.2.1 (fun l hl => by have := HLS.out.2.2.2.1 l hl; omega) ob _ _ _ _ wr hbld.blk.lt hEE pre a m W hj hpl h1 ha) N 0 HLS.out.2.1 (by omega) [] wr (Nat.zero_le _) hJ0
      rw [show Gp 0 (0 + N) = .agg #[vi 0, vi (N : Int)] by simp [Gp]] at hid
      have HID := Lib.hid hid
      have HBL := Lib.hid hbld
      have HGR := Lib.hid hgr
      have d0 := (hbld.blk.cell 0).trans (show _ = some (.slice A5 n5 n5) from rfl)
      have e3 := (KE.out _ hgr).2.2.2.1
      clear hid hJ0 hEE hbld hgr
      go_wp2_with fail
      refine HID.out.mono ?_
      rintro _ w9 ⟨⟨r, rfl⟩, hj9, _⟩
      rw [List.nil_append] at hj9
      obtain ⟨nv, vs, hB9, hN9, hU9, hg9⟩ := hj9
      obtain ⟨AN, nN, cN, rfl, hnN, hcN⟩ := ownR_shape hN9
      have HCA := Lib.hid (fun W => clipR_any AV nV cV hcV W (ownR_none HBL.out.ro))
      have HCN := Lib.hid (fun W => clipR_any AN nN cN hcN W (ownR_none hN9))
      have kk9 := grownBy_trans HGR.out hg9
      have hg9d : wr.grownBy w9.drew (some ob) := grownBy_trans hg9 (grown_of_below (below_drewN (Below.refl _ _) 1) _)
      have d9 := (hB9.cell 0).trans (show _ = some (.slice A5 n5 n5) from rfl)
      have k9 := KE.out _ kk9
      have hob1 := HOB1.out.1
      have hz := HE.out.hz
      have h0 := HO0.out
      have hc5 := HC5.out.2
      have d1 := (hB9.cell 1).trans (show _ = some (.slice AV nV cV) from rfl)
      have d2 := (hB9.cell 2).trans (show _ = some (.slice AN nN cN) from rfl)
      have z1 := hB9.frozen 1
      have z2 := hB9.frozen 2
      have hO9 : Blk w9.drew ob 79 #[.slice A5 n5 n5, .slice AV nV cV, .slice AN nN cN] := hB9
      have hQ9 : Blk w9.drew (w.heap.size + 1 + 1) 79 #[.slice none 0 0, .slice none 0 0, .slice none 0 0] := k9.2.2.2.2.1.ho
      have hgs : w9.drew.grownBy ((w9.drew.setCell ⟨ob, 1, none⟩ (.slice AV nV nV)).setCell ⟨ob, 2, none⟩ (.slice AN nN nN)) (some ob) := grownBy_trans blk_grown blk_grown
      have hfin := opened_fin (q := w.heap.size + 1 + 1) (ob := ob) (w := w) (w5 := w9.drew) (Own.drewN k9.2.2.2.2.2.2 1) (by omega) (fun g hg => by have := (k9.2.2.2.2.2.2.lt g hg).1; omega) (ownR_past HBL.out.ro hg9d hob1) (rowsOwn_past HBL.out.rr hg9d hob1) hob1 hN9 hU9 HBL.out.blk.lt (by omega) hO9 hQ9 hgs (by omega) (below_drewN k9.2.2.2.2.2.1 1)
        n5 nV nN (Nat.le_refl _) (by have := HLS.out.2.2.2.2.1; have := HLS.out.2.2.1; omega) (by rw [openR_len]; have := HLS.out.2.2.2.2.1; have := HLS.out.2.2.1; omega) (by have := hidL_le' T N 0 HLS.out.2.1; rw [List.length_map]; have := HLS.out.2.2.1; omega) (fun x hx => by have := HLS.out.2.2.2.2.2.2 x hx; have := HLS.out.2.2.1; constructor <;> omega) (openR_i64 p HPM.out ls T) (openR_r8 p ls T HLS.out.2.2.2.1) (fun t ht => by obtain ⟨g, _, rfl⟩ := List.mem_map.1 ht; exact rootD_len p k _ _ _)
      have HFIN := Lib.hid hfin.tup
      have hgs' : w9.grownBy ((w9.setCell ⟨ob, 1, none⟩ (.slice AV nV nV)).setCell ⟨ob, 2, none⟩ (.slice AN nN nN)) (some ob) := grownBy_trans blk_grown blk_grown
      have hQ10 := Blk.grown k9.2.2.2.2.1.ho hgs' (by intro e; injection e with e; omega)
      obtain ⟨hset, _⟩ := blk_set3 hQ10 (.slice A5 n5 n5) (.slice AV nV nV) (.slice AN nN nN)
      have q0 := (hset.cell 0).trans (show _ = some (.slice A5 n5 n5) from rfl)
      have q1 := (hset.cell 1).trans (show _ = some (.slice AV nV nV) from rfl)
      have q2 := (hset.cell 2).trans (show _ = some (.slice AN nN nN) from rfl)
      have HQ := Lib.hid (And.intro q0 (And.intro q1 q2))
      have f0 := (k9.2.2.2.2.1.ho.cell 0).trans (show _ = some (.slice none 0 0) from rfl)
      have f1 := (k9.2.2.2.2.1.ho.cell 1).trans (show _ = some (.slice none 0 0) from rfl)
      have f2 := (k9.2.2.2.2.1.ho.cell 2).trans (show _ = some (.slice none 0 0) from rfl)
      have y0 := k9.2.2.2.2.1.ho.frozen 0
      have y1 := k9.2.2.2.2.1.ho.frozen 1
      have y2 := k9.2.2.2.2.1.ho.frozen 2
      have hqo : ¬ w.heap.size + 1 + 1 = ob := by omega
      clear hfin hg9d hB9 hN9 hU9 hg9 hO9 hQ9 hgs hgs' hQ10 hset q0 q1 q2 kk9 k9 HID d0 hob1 hz h0 hc5 e3
      go_wp2
      refine wp_region_held_drew (S := fun _ => True) (by kernel_rfl) trivial (fun hHeld => ?_)
      refine wpAnyH_take_at (i := 0) rfl rfl (by kernel_rfl) (by kernel_rfl) (by kernel_rfl) (fun _ _ _ h => h) (Or.inl ⟨by rfl, by (intro w hSw; (try dsimp only at hSw); go_simp; try with_reducible rfl)⟩) (by assumption) ?_
      (try simp only [Act.put, List.setIfInBounds_toArray, List.set_cons_zero, List.set_cons_succ])
      refine wpAnyH_take_at (i := 3) rfl rfl (by kernel_rfl) (by kernel_rfl) (by kernel_rfl) (fun _ _ _ h => h) (Or.inl ⟨by rfl, by (intro w hSw; (try dsimp only at hSw); go_simp; try with_reducible rfl)⟩) (by assumption) ?_
      (try simp only [Act.put, List.setIfInBounds_toArray, List.set_cons_zero, List.set_cons_succ])
      refine wpAnyH_ready (rs := [1,4]) (by kernel_rfl) (by simp) ?_
      refine AllReadyH.cons rfl (fun K hK => ?_) (AllReadyH.cons rfl (fun K hK => ?_) AllReadyH.nil)
      · go_simp
        refine hK.out _ _ trivial (fun hHeld => ?_)
        clear hK K
        (try simp only [Act.put, List.setIfInBounds_toArray, List.set_cons_zero, List.set_cons_succ])
        refine wpAnyH_ready (rs := [2,4]) (by kernel_rfl) (by simp) ?_
        refine AllReadyH.cons rfl (fun K hK => ?_) (AllReadyH.cons rfl (fun K hK => ?_) AllReadyH.nil)
        · go_simp
          refine (HCA.out _).mono ?_
          rintro _ _ ⟨rfl, rfl⟩
          refine hK.out _ _ trivial (fun hHeld => ?_)
          clear hK K
          (try simp only [Act.put, List.setIfInBounds_toArray, List.set_cons_zero, List.set_cons_succ])
          refine wpAnyH_ready (rs := [4]) (by kernel_rfl) (by simp) ?_
          refine AllReadyH.cons rfl (fun K hK => ?_) AllReadyH.nil
          go_simp
          refine hK.out _ _ trivial (fun hHeld => ?_)
          clear hK K
          (try simp only [Act.put, List.setIfInBounds_toArray, List.set_cons_zero, List.set_cons_succ])
          refine wpAnyH_take_at (i := 6) rfl rfl (by kernel_rfl) (by kernel_rfl) (by kernel_rfl) (fun _ _ _ h => h) (Or.inl ⟨by rfl, by (intro w hSw; (try dsimp only at hSw); go_simp; try with_reducible rfl)⟩) (by assumption) ?_
          (try simp only [Act.put, List.setIfInBounds_toArray, List.set_cons_zero, List.set_cons_succ])
          refine wpAnyH_ready (rs := [5]) (by kernel_rfl) (by simp) ?_
          refine AllReadyH.cons rfl (fun K hK => ?_) AllReadyH.nil
          go_simp
          refine (HCN.out _).mono ?_
          rintro _ _ ⟨rfl, rfl⟩
          refine hK.out _ _ trivial (fun hHeld => ?_)
          clear hK K
          (try simp only [Act.put, List.setIfInBounds_toArray, List.set_cons_zero, List.set_cons_succ])
          refine wpAnyH_ready (rs := [7]) (by kernel_rfl) (by simp) ?_
          refine AllReadyH.cons rfl (fun K hK => ?_) AllReadyH.nil
          go_simp
          refine hK.out _ _ trivial (fun hHeld => ?_)
          clear hK K
          (try simp only [Act.put, List.setIfInBounds_toArray, List.set_cons_zero, List.set_cons_succ])
          refine wpAnyH_ready (rs := [8]) (by kernel_rfl) (by simp) ?_
          refine AllReadyH.cons rfl (fun K hK => ?_) AllReadyH.nil
          go_simp
          refine hK.out _ _ trivial (fun hHeld => ?_)
          clear hK K
          (try simp only [Act.put, List.setIfInBounds_toArray, List.set_cons_zero, List.set_cons_succ])
          refine wpAnyH_ready (rs := [9]) (by kernel_rfl) (by simp) ?_
          refine AllReadyH.cons rfl (fun K hK => ?_) AllReadyH.nil
          go_simp
          refine hK.out _ _ trivial (fun hHeld => ?_)
          clear hK K
          (try simp only [Act.put, List.setIfInBounds_toArray, List.set_cons_zero, List.set_cons_succ])
          refine wpAnyH_done (by kernel_rfl) ?_ _
          go_wp2
          obtain ⟨q0, q1, q2⟩ := HQ.out
          exact bodyPost_ret (v := .tuple #[.agg #[.slice A5 n5 n5, .slice AV nV nV, .slice AN nN nN], .nilIface]) (by simp [results, Tryz.results36, go_sem, q0, q1, q2]) rfl HFIN.out
        · go_simp
          refine hK.out _ _ trivial (fun hHeld => ?_)
          clear hK K
          (try simp only [Act.put, List.setIfInBounds_toArray, List.set_cons_zero, List.set_cons_succ])
          refine wpAnyH_ready (rs := [2]) (by kernel_rfl) (by simp) ?_
          refine AllReadyH.cons rfl (fun K hK => ?_) AllReadyH.nil
          go_simp
          refine (HCA.out _).mono ?_
          rintro _ _ ⟨rfl, rfl⟩
          refine hK.out _ _ trivial (fun hHeld => ?_)
          clear hK K
          (try simp only [Act.put, List.setIfInBounds_toArray, List.set_cons_zero, List.set_cons_succ])
          refine wpAnyH_take_at (i := 6) rfl rfl (by kernel_rfl) (by kernel_rfl) (by kernel_rfl) (fun _ _ _ h => h) (Or.inl ⟨by rfl, by (intro w hSw; (try dsimp only at hSw); go_simp; try with_reducible rfl)⟩) (by assumption) ?_
          (try simp only [Act.put, List.setIfInBounds_toArray, List.set_cons_zero, List.set_cons_succ])
          refine wpAnyH_ready (rs := [5]) (by kernel_rfl) (by simp) ?_
          refine AllReadyH.cons rfl (fun K hK => ?_) AllReadyH.nil
          go_simp
          refine (HCN.out _).mono ?_
          rintro _ _ ⟨rfl, rfl⟩
          refine hK.out _ _ trivial (fun hHeld => ?_)
          clear hK K
          (try simp only [Act.put, List.setIfInBounds_toArray, List.set_cons_zero, List.set_cons_succ])
          refine wpAnyH_ready (rs := [7]) (by kernel_rfl) (by simp) ?_
          refine AllReadyH.cons rfl (fun K hK => ?_) AllReadyH.nil
          go_simp
          refine hK.out _ _ trivial (fun hHeld => ?_)
          clear hK K
          (try simp only [Act.put, List.setIfInBounds_toArray, List.set_cons_zero, List.set_cons_succ])
          refine wpAnyH_ready (rs := [8]) (by kernel_rfl) (by simp) ?_
          refine AllReadyH.cons rfl (fun K hK => ?_) AllReadyH.nil
          go_simp
          refine hK.out _ _ trivial (fun hHeld => ?_)
          clear hK K
          (try simp only [Act.put, List.setIfInBounds_toArray, List.set_cons_zero, List.set_cons_succ])
          refine wpAnyH_ready (rs := [9]) (by kernel_rfl) (by simp) ?_
          refine AllReadyH.cons rfl (fun K hK => ?_) AllReadyH.nil
          go_simp
          refine hK.out _ _ trivial (fun hHeld => ?_)
          clear hK K
          (try simp only [Act.put, List.setIfInBounds_toArray, List.set_cons_zero, List.set_cons_succ])
          refine wpAnyH_done (by kernel_rfl) ?_ _
          go_wp2
          obtain ⟨q0, q1, q2⟩ := HQ.out
          exact bodyPost_ret (v := .tuple #[.agg #[.slice A5 n5 n5, .slice AV nV nV, .slice AN nN nN], .nilIface]) (by simp [results, Tryz.results36, go_sem, q0, q1, q2]) rfl HFIN.out
      · go_simp
        refine hK.out _ _ trivial (fun hHeld => ?_)
        clear hK K
        (try simp only [Act.put, List.setIfInBounds_toArray, List.set_cons_zero, List.set_cons_succ])
        refine wpAnyH_ready (rs := [1]) (by kernel_rfl) (by simp) ?_
        refine AllReadyH.cons rfl (fun K hK => ?_) AllReadyH.nil
        go_simp
        refine hK.out _ _ trivial (fun hHeld => ?_)
        clear hK K
        (try simp only [Act.put, List.setIfInBounds_toArray, List.set_cons_zero, List.set_cons_succ])
        refine wpAnyH_ready (rs := [2]) (by kernel_rfl) (by simp) ?_
        refine AllReadyH.cons rfl (fun K hK => ?_) AllReadyH.nil
        go_simp
        refine (HCA.out _).mono ?_
        rintro _ _ ⟨rfl, rfl⟩
        refine hK.out _ _ trivial (fun hHeld => ?_)
        clear hK K
        (try simp only [Act.put, List.setIfInBounds_toArray, List.set_cons_zero, List.set_cons_succ])
        refine wpAnyH_take_at (i := 6) rfl rfl (by kernel_rfl) (by kernel_rfl) (by kernel_rfl) (fun _ _ _ h => h) (Or.inl ⟨by rfl, by (intro w hSw; (try dsimp only at hSw); go_simp; try with_reducible rfl)⟩) (by assumption) ?_
        (try simp only [Act.put, List.setIfInBounds_toArray, List.set_cons_zero, List.set_cons_succ])
        refine wpAnyH_ready (rs := [5]) (by kernel_rfl) (by simp) ?_
        refine AllReadyH.cons rfl (fun K hK => ?_) AllReadyH.nil
        go_simp
        refine (HCN.out _).mono ?_
        rintro _ _ ⟨rfl, rfl⟩
        refine hK.out _ _ trivial (fun hHeld => ?_)
        clear hK K
        (try simp only [Act.put, List.setIfInBounds_toArray, List.set_cons_zero, List.set_cons_succ])
        refine wpAnyH_ready (rs := [7]) (by kernel_rfl) (by simp) ?_
        refine AllReadyH.cons rfl (fun K hK => ?_) AllReadyH.nil
        go_simp
        refine hK.out _ _ trivial (fun hHeld => ?_)
        clear hK K
        (try simp only [Act.put, List.setIfInBounds_toArray, List.set_cons_zero, List.set_cons_succ])
        refine wpAnyH_ready (rs := [8]) (by kernel_rfl) (by simp) ?_
        refine AllReadyH.cons rfl (fun K hK => ?_) AllReadyH.nil
        go_simp
        refine hK.out _ _ trivial (fun hHeld => ?_)
        clear hK K
        (try simp only [Act.put, List.setIfInBounds_toArray, List.set_cons_zero, List.set_cons_succ])
        refine wpAnyH_ready (rs := [9]) (by kernel_rfl) (by simp) ?_
        refine AllReadyH.cons rfl (fun K hK => ?_) AllReadyH.nil
        go_simp
        refine hK.out _ _ trivial (fun hHeld => ?_)
        clear hK K
        (try simp only [Act.put, List.setIfInBounds_toArray, List.set_cons_zero, List.set_cons_succ])
        refine wpAnyH_done (by kernel_rfl) ?_ _
        go_wp2
        obtain ⟨q0, q1, q2⟩ := HQ.out
        exact bodyPost_ret (v := .tuple #[.agg #[.slice A5 n5 n5, .slice AV nV nV, .slice AN nN nN], .nilIface]) (by simp [results, Tryz.results36, go_sem, q0, q1, q2]) rfl HFIN.out
end Go.Proofs.YtonalbdehcmjmaaGreat

/- What stands while it is shown that a word is of low degree: tables of rows, roots, Openings. -/
set_option linter.unusedVariables false
namespace Go.Proofs.YtonalbdehcmjmaaGreat
open Go.RowKit Zp
theorem info_tab : (Tryz.prog.info? 37).map (fun i => (i.zero, i.size, i.bytes)) = some (some (.slice none 0 0), 1, 24) := by kernel_rfl
theorem row_blk {W : World} {base : Nat} {e : TypeId} {sz n : Nat} {v : Value} {xs : List Value} (h : W.ownsRow base e sz v n xs) {g : Nat} (hg : v.ownBlock = some g) : ∃ cs, Blk W g e cs := by
  rcases h.2 with ⟨rfl, _⟩ | ⟨g', cap, cur, rfl, _, hh, _⟩
  · cases hg
  · injection hg with hg
    subst hg
    exact ⟨cur, hh⟩
/-- a row of another type is turned -/
theorem row_safe {W W' : World} {base : Nat} {e : TypeId} {sz n : Nat} {v : Value} {xs : List Value} (h : W.ownsRow base e sz v n xs) (hg : W.grownBy W' v.ownBlock) (he : e ≠ 3 ∧ e ≠ 22 ∧ e ≠ 56) : Safe W W' := by
  rcases hv : v.ownBlock with _ | g
  · rw [hv] at hg
    exact Safe.of ⟨hg.os, hg.tape, hg.output, hg.size, fun i hi => hg.block i hi (by intro e; cases e)⟩
  · obtain ⟨cs, hcs⟩ := row_blk h hv
    rw [hv] at hg
    exact Safe.one hg hcs he
/-- a block of another type stays where a row is turned -/
theorem row_far {W W' : World} {base : Nat} {e : TypeId} {sz n : Nat} {v : Value} {xs : List Value} (h : W.ownsRow base e sz v n xs) (hg : W.grownBy W' v.ownBlock) {x : Nat} {t : TypeId} {cs : Array Value} (hx : Blk W x t cs) (ht : t ≠ e) : Blk W' x t cs := by
  rcases hv : v.ownBlock with _ | g
  · rw [hv] at hg
    exact Blk.grown hx hg (by intro e; cases e)
  · obtain ⟨cs', hcs⟩ := row_blk h hv
    rw [hv] at hg
    exact Blk.grown hx hg (fun e' => by injection e' with e'; exact Blk.ne_ hx hcs (fun e2 => ht e2) e')
theorem row_stay {W W' : World} {base base2 : Nat} {e e2 : TypeId} {sz sz2 n n2 : Nat} {v u : Value} {xs ys : List Value} (h : W.ownsRow base e sz v n xs) (hg : W.grownBy W' v.ownBlock) (hu : W.ownsRow base2 e2 sz2 u n2 ys) (he : e2 ≠ e) : W'.ownsRow base2 e2 sz2 u n2 ys :=
  ownsRow_keep hu fun g hgu => by
    obtain ⟨cs, hcs⟩ := row_blk hu hgu
    have := row_far h hg hcs he
    exact (this : W'.heap[g]? = _).trans (hcs : W.heap[g]? = _).symm
/-- the roots -/
structure RT (W : World) (base : Nat) (v2 : Value) (us : List Value) (roots : List (List Int)) : Prop where
  own : OwnR W base v2 us
  us : UsAt W us roots
/-- the tables of rows -/
structure Tabs (W : World) (base : Nat) (v1 v2 : Value) (t : Nat) (xs : List Value) (rows : Nat → List (List Int)) : Prop where
  own : W.ownsRow base 37 1 v1 t xs
  at_ : ∀ i, i < t → ∃ (A : Option Addr) (n c : Nat) (us : List Value), xs[i]? = some (.slice A n c) ∧ OwnR W base (.slice A n c) us ∧ RowsOwn W base us (rows i) ∧ ∀ g, (Value.slice A n c).ownBlock = some g → v2.ownBlock ≠ some g
theorem RT.safe {W W' : World} {base : Nat} {v2 : Value} {us : List Value} {roots : List (List Int)} (h : RT W base v2 us roots) (hs : Safe W W') : RT W' base v2 us roots := ⟨h.own.safe hs, h.us.safe hs⟩
theorem Tabs.safe {W W' : World} {base : Nat} {v1 v2 : Value} {t : Nat} {xs : List Value} {rows : Nat → List (List Int)} (h : Tabs W base v1 v2 t xs rows) (hs : Safe W W') (hk : ∀ g, v1.ownBlock = some g → W'.heap[g]? = W.heap[g]?) : Tabs W' base v1 v2 t xs rows :=
  ⟨ownsRow_keep h.own hk, fun i hi => by
    obtain ⟨A, n, c, us, e1, e2, e3, e4⟩ := h.at_ i hi
    exact ⟨A, n, c, us, e1, e2.safe hs, e3.safe hs, e4⟩⟩
theorem RT.below {W W' : World} {base : Nat} {v2 : Value} {us : List Value} {roots : List (List Int)} (h : RT W base v2 us roots) (hb : Below W.heap.size W W') : RT W' base v2 us roots := h.safe (Safe.of hb)
theorem Tabs.below {W W' : World} {base : Nat} {v1 v2 : Value} {t : Nat} {xs : List Value} {rows : Nat → List (List Int)} (h : Tabs W base v1 v2 t xs rows) (hb : Below W.heap.size W W') : Tabs W' base v1 v2 t xs rows := h.safe (Safe.of hb) fun g hg => hb.block g (World.ownsRow.lt h.own g hg).2
/-- a block that is none of ints, rows, arrays or tables is turned -/
theorem Tabs.far {W W' : World} {base : Nat} {v1 v2 : Value} {t : Nat} {xs : List Value} {rows : Nat → List (List Int)} (h : Tabs W base v1 v2 t xs rows) {x : Nat} {tx : TypeId} {cx : Array Value} (hg : W.grownBy W' (some x)) (hx : Blk W x tx cx) (ht : tx ≠ 3 ∧ tx ≠ 22 ∧ tx ≠ 56) (ht4 : tx ≠ 37) : Tabs W' base v1 v2 t xs rows :=
  h.safe (Safe.one hg hx ht) fun g hgv => by
    obtain ⟨cs, hcs⟩ := row_blk h.own hgv
    exact hg.block g (Blk.lt hcs) (fun e => by injection e with e; exact Blk.ne_ hcs hx (fun e2 => ht4 e2.symm) e)
theorem Tabs.nil (W : World) (base : Nat) (v2 : Value) (rows : Nat → List (List Int)) : Tabs W base (.slice none 0 0) v2 0 [] rows := ⟨World.ownsRow_nil _ _ _ _, fun i hi => absurd hi (Nat.not_lt_zero _)⟩
theorem RT.nil (W : World) (base : Nat) : RT W base (.slice none 0 0) [] [] := ⟨World.ownsRow_nil _ _ _ _, UsAt.nil _⟩
/-- a table more -/
theorem Tabs.app {W W' : World} {base : Nat} {v1 v1' v2 : Value} {t : Nat} {xs us2 : List Value} {rows : Nat → List (List Int)} {roots : List (List Int)} (h : Tabs W base v1 v2 t xs rows) (r : RT W base v2 us2 roots) {A : Option Addr} {n c : Nat} {us : List Value} (ho : OwnR W base (.slice A n c) us) (hr : RowsOwn W base us (rows t)) (hne : ∀ g, (Value.slice A n c).ownBlock = some g → v2.ownBlock ≠ some g)
    (h1 : W'.ownsRow base 37 1 v1' (t + 1) (xs ++ [.slice A n c])) (h2 : W.grownBy W' v1.ownBlock) : Tabs W' base v1' v2 (t + 1) (xs ++ [.slice A n c]) rows ∧ RT W' base v2 us2 roots ∧ Safe W W' := by
  have hs := row_safe h.own h2 ⟨by decide, by decide, by decide⟩
  have hl := h.own.1
  refine ⟨⟨h1, fun i hi => ?_⟩, r.safe hs, hs⟩
  by_cases e : i < t
  · obtain ⟨A', n', c', us', e1, e2, e3, e4⟩ := h.at_ i e
    exact ⟨A', n', c', us', by rw [List.getElem?_append_left (by omega)]; exact e1, e2.safe hs, e3.safe hs, e4⟩
  · obtain rfl : i = t := by omega
    exact ⟨A, n, c, us, by rw [List.getElem?_append_right (by omega), hl, Nat.mul_one, Nat.sub_self]; rfl, ho.safe hs, hr.safe hs, hne⟩
/-- a root more -/
theorem RT.app {W W' : World} {base : Nat} {v1 v2 v2' : Value} {t : Nat} {xs us2 : List Value} {rows : Nat → List (List Int)} {roots : List (List Int)} (h : Tabs W base v1 v2 t xs rows) (r : RT W base v2 us2 roots) {g cap : Nat} {tg : TypeId} {cg : Array Value} {l : List Int} (hg : Blk W g tg cg) (htg : tg = 3 ∨ tg = 56) (hs : SL W (some ⟨g, 0, none⟩) l) (hl : l.length = 4) (hi : ∀ x ∈ l, I64 x)
    (h1 : W'.ownsRow base 22 1 v2' (us2.length + 1) (us2 ++ [.slice (some ⟨g, 0, none⟩) 4 cap])) (h2 : W.grownBy W' v2.ownBlock) (h3 : v2'.ownBlock = v2.ownBlock ∨ ∃ k, v2'.ownBlock = some k ∧ W.heap.size ≤ k) : Tabs W' base v1 v2' t xs rows ∧ RT W' base v2' (us2 ++ [.slice (some ⟨g, 0, none⟩) 4 cap]) (roots ++ [l]) := by
  have hgr : GrewR W W' base v2 v2' (us2 ++ [.slice (some ⟨g, 0, none⟩) 4 cap]) := ⟨by rw [OwnR, List.length_append]; exact h1, h2⟩
  refine ⟨⟨row_stay r.own h2 h.own (by decide), fun i hi => ?_⟩, ⟨hgr.own, UsAt.grew hgr r.own (r.us.app (UsAt.one (c := cap) hg (by rcases htg with rfl | rfl <;> decide) htg hs hl hi))⟩⟩
  obtain ⟨A, n, c, us, e1, e2, e3, e4⟩ := h.at_ i hi
  refine ⟨A, n, c, us, e1, ownsRow_keep e2 (fun x hx => h2.block x (World.ownsRow.lt e2 x hx).2 (fun e => e4 x hx e.symm)), hgr.rows r.own e3, fun x hx => ?_⟩
  rcases h3 with h3 | ⟨k, h3, h4⟩
  · rw [h3]; exact e4 x hx
  · rw [h3]; intro e; injection e with e
    have := (World.ownsRow.lt e2 x hx).2
    omega
/-- Openings of the caller's, in a table, whole while ints, rows and arrays stay -/
structure CopS (base : Nat) (wr : World) (v : Value) (t : Nat) (xs : List Value) (opens : Nat → OpnI) : Prop where
  own : wr.ownsRow base 79 3 v t xs
  at_ : ∀ k, k < t → ∃ (A0 : Option Addr) (n0 c0 : Nat) (AR : Option Addr) (nR cR : Nat) (AN : Option Addr) (nN cN : Nat), xs[k * 3]? = some (.slice A0 n0 c0) ∧ xs[k * 3 + 1]? = some (.slice AR nR cR) ∧ xs[k * 3 + 2]? = some (.slice AN nN cN) ∧ ∀ w'', Safe wr w'' → OpnAt w'' A0 n0 c0 (opens k).l AR nR cR (opens k).rs AN nN cN (opens k).ns
theorem CopS.nil (base : Nat) (w : World) (opens : Nat → OpnI) : CopS base w (.slice none 0 0) 0 [] opens := ⟨World.ownsRow_nil _ _ _ _, fun k hk => absurd hk (Nat.not_lt_zero _)⟩
theorem CopS.safe {base t : Nat} {wr w2 : World} {v : Value} {xs : List Value} {opens : Nat → OpnI} (h : CopS base wr v t xs opens) (hs : Safe wr w2) (hk : ∀ g, v.ownBlock = some g → w2.heap[g]? = wr.heap[g]?) : CopS base w2 v t xs opens := by
  refine ⟨ownsRow_keep h.own hk, fun k hkt => ?_⟩
  obtain ⟨A0, n0, c0, AR, nR, cR, AN, nN, cN, e1, e2, e3, e4⟩ := h.at_ k hkt
  exact ⟨A0, n0, c0, AR, nR, cR, AN, nN, cN, e1, e2, e3, fun w'' hw => e4 w'' (hs.trans hw)⟩
theorem CopS.app {base t : Nat} {w2 w3 : World} {v v' : Value} {xs : List Value} {opens : Nat → OpnI} {A0 : Option Addr} {n0 c0 : Nat} {AR : Option Addr} {nR cR : Nat} {AN : Option Addr} {nN cN : Nat} (h : CopS base w2 v t xs opens)
    (ho : ∀ w'', Safe w2 w'' → OpnAt w'' A0 n0 c0 (opens t).l AR nR cR (opens t).rs AN nN cN (opens t).ns)
    (h1 : w3.ownsRow base 79 3 v' (t + 1) (xs ++ [.slice A0 n0 c0, .slice AR nR cR, .slice AN nN cN])) (h2 : w2.grownBy w3 v.ownBlock) : CopS base w3 v' (t + 1) (xs ++ [.slice A0 n0 c0, .slice AR nR cR, .slice AN nN cN]) opens ∧ Safe w2 w3 := by
  have hl := h.own.1
  have hs := row_safe h.own h2 ⟨by decide, by decide, by decide⟩
  refine ⟨⟨h1, fun k hkt => ?_⟩, hs⟩
  by_cases e : k < t
  · obtain ⟨B0, m0, d0, BR, mR, dR, BN, mN, dN, e1, e2, e3, q4⟩ := h.at_ k e
    exact ⟨B0, m0, d0, BR, mR, dR, BN, mN, dN, by rw [List.getElem?_append_left (by omega)]; exact e1, by rw [List.getElem?_append_left (by omega)]; exact e2, by rw [List.getElem?_append_left (by omega)]; exact e3, fun w'' hw => q4 w'' (hs.trans hw)⟩
  · obtain rfl : k = t := by omega
    refine ⟨A0, n0, c0, AR, nR, cR, AN, nN, cN, ?_, ?_, ?_, fun w'' hw => ho w'' (hs.trans hw)⟩
    · rw [List.getElem?_append_right (by omega), hl, Nat.sub_self]; rfl
    · rw [List.getElem?_append_right (by omega), hl, show k * 3 + 1 - k * 3 = 1 by omega]; rfl
    · rw [List.getElem?_append_right (by omega), hl, show k * 3 + 2 - k * 3 = 2 by omega]; rfl
/-- .. and Openings -/
def SafeO (w w' : World) : Prop := Safe w w' ∧ ∀ x cs, Blk w x 79 cs → w'.heap[x]? = w.heap[x]?
theorem SafeO.of {w w' : World} (h : Below w.heap.size w w') : SafeO w w' := ⟨Safe.of h, fun x cs hx => h.block x (Blk.lt hx)⟩
theorem SafeO.refl (w : World) : SafeO w w := ⟨Safe.refl w, fun _ _ _ => rfl⟩
theorem SafeO.trans {a b c : World} (h : SafeO a b) (g : SafeO b c) : SafeO a c := ⟨h.1.trans g.1, fun x cs hx => by
  have h1 := h.2 x cs hx
  exact (g.2 x cs (h1.trans hx)).trans h1⟩
theorem SafeO.one {w w' : World} {r : Nat} {t : TypeId} {cs : Array Value} (h : w.grownBy w' (some r)) (hr : Blk w r t cs) (ht : t ≠ 3 ∧ t ≠ 22 ∧ t ≠ 56) (ht2 : t ≠ 79) : SafeO w w' :=
  ⟨Safe.one h hr ht, fun x cx hx => h.block x (Blk.lt hx) (fun e => by injection e with e; exact Blk.ne_ hx hr (fun e2 => ht2 e2.symm) e)⟩
theorem made_fin {wf : World} {base b5 nO cO n2 c2 n5 c5 R cR' cO' : Nat} {A2 A5 AO : Option Addr} {us xs : List Value} {roots : List (List Int)} {last : List Int} {opens : Nat → OpnI} (hr : RT wf base (.slice A2 n2 c2) us roots) (hR : roots.length = R) (hR64 : R ≤ 64) (h5 : Own wf b5 (.slice A5 n5 c5) last) (h5l : last.length ≤ 65536) (h5i : ∀ x ∈ last, I64 x)
    (hc : CopS base wf (.slice AO nO cO) R xs opens) : ∀ w'', SafeO wf w'' → FAt w'' A2 n2 cR' A5 n5 c5 AO nO cO' ⟨roots, last, (List.range R).map opens⟩ := by
  intro w'' hw
  obtain ⟨A3', n3', c3', e3, hn3, hc3⟩ := ownR_shape hr.own
  injection e3 with f1 f2 f3
  obtain ⟨A5', n5', c5', e5, hl5, _, _, _⟩ := h5.shapeN
  injection e5 with g1 g2 g3
  have hO : nO = R ∧ ∀ k, k < R → ∃ g, AO = some ⟨g, 0, none⟩ := by
    rcases hc.own.2 with ⟨e, h0⟩ | ⟨g, cap, cur, e, _⟩
    · injection e with e1 e2 e3
      exact ⟨by omega, fun k hk => by omega⟩
    · injection e with e1 e2 e3
      exact ⟨e2, fun k hk => ⟨g, e1⟩⟩
  have hul := hr.us.1
  refine ⟨by show roots.length = n2; omega, by show last.length = n5; omega, by show ((List.range R).map opens).length = nO; simp; omega, by omega, by omega, by omega, h5i, ?_, tb_us (hr.own.safe hw.1) (hr.us.safe hw.1), sl_of (h5.safe hw.1), fun k hk => ?_⟩
  · intro t ht
    obtain ⟨j, hj, rfl⟩ := List.mem_iff_getElem.1 ht
    have hj' : j < roots.length := hj
    obtain ⟨g, c, t', cs, _, _, _, _, _, h6, _⟩ := hr.us.2 j (by omega) hj'
    show (roots[j]).length * 8 ≤ _
    rw [h6]
    omega
  · simp only [List.length_map, List.length_range] at hk
    obtain ⟨g, hgO⟩ := hO.2 k hk
    obtain ⟨A0, n0, c0, BR, mR, dR, BN, mN, dN, q1, q2, q3, q7⟩ := hc.at_ k hk
    have hown : w''.ownsRow base 79 3 (.slice AO nO cO) R xs := ownsRow_keep hc.own (fun g hg => by
      obtain ⟨cs, hcs⟩ := row_blk hc.own hg
      exact hw.2 g cs hcs)
    have hcl := World.ownsRow.cells hown (g := g) (by rw [hgO]; rfl)
    have eo : ((List.range R).map opens)[k]'(by simpa using hk) = opens k := by simp
    exact ⟨_, hgO, A0, n0, c0, BR, mR, dR, BN, mN, dN, hcl _ _ q1, hcl _ _ q2, hcl _ _ q3, by simp only [eo]; exact q7 w'' hw.1⟩
/-- a list stays where its block stays -/
theorem sl_same {w w' : World} {A : Option Addr} {xs : List Int} (h : SL w A xs) (hs : w.heap.size ≤ w'.heap.size) (hb : ∀ ad, A = some ad → w'.heap[ad.block]? = w.heap[ad.block]?) : SL w' A xs := by
  refine ⟨h.1, fun hn => ?_⟩
  obtain ⟨ad, e, hbl, hc⟩ := h.2 hn
  exact ⟨ad, e, Nat.lt_of_lt_of_le hbl hs, fun j u hu => (World.cell?_of_block (by rw [block_of_add]; exact hb ad e)).trans (hc j u hu)⟩
theorem Chn.hold {w w' : World} {c s : Nat} {D : List Int} (h : Chn w c s D) (hs : Safe w w') (hc : w'.heap[c]? = w.heap[c]?) : Chn w' c s D := by
  obtain ⟨g, cap, t, cs, h1, h2, h3, h4, h5, h6, h7, h8⟩ := h
  have hb := hs.2 t (by rcases h3 with e | e <;> simp [e]) g cs h2
  exact ⟨g, cap, t, cs, (hc.trans h1 : w'.heap[c]? = _), hb.trans h2, h3, sl_same h4 hs.1 (fun ad e => by injection e with e; subst e; exact hb), h5, h6, h7, h8⟩
/-- a row of rows is turned: only rows of its own type are turned -/
theorem Chn.row {w w' : World} {c s base sz n : Nat} {D : List Int} {e : TypeId} {v : Value} {xs : List Value} (h : Chn w c s D) (hr : w.ownsRow base e sz v n xs) (hg : w.grownBy w' v.ownBlock) (hcb : c < base) (he : e ≠ 3 ∧ e ≠ 56) : Chn w' c s D := by
  obtain ⟨g, cap, t, cs, h1, h2, h3, h4, h5, h6, h7, h8⟩ := h
  have hb := row_far hr hg h2 (fun e' => by
    rcases h3 with h3 | h3
    · exact he.1 (e'.symm.trans h3)
    · exact he.2 (e'.symm.trans h3))
  exact ⟨g, cap, t, cs, Blk.grown h1 hg (fun e' => by have := (World.ownsRow.lt hr c e'.symm).1; omega), hb, h3, sl_same h4 hg.size (fun ad e => by injection e with e; subst e; exact (hb : w'.heap[g]? = _).trans (h2 : w.heap[g]? = _).symm), h5, h6, h7, h8⟩
theorem Safe.heap {w w' : World} (h : Safe w w') {x : Nat} {cs : Array Value} (hx : Blk w x 3 cs) : w'.heap[x]? = w.heap[x]? := h.2 _ (.inl rfl) x cs hx
theorem GrowM.row {a b d : World} {c m : Nat} {row : Option Nat} (h : GrowM a b c m) (hg : b.grownBy d row) (hr : ∀ g, row = some g → a.heap.size ≤ g) : GrowM a d c m :=
  ⟨hg.os.trans h.os, hg.tape.trans h.tape, hg.output.trans h.output, Nat.le_trans h.size hg.size, fun x hx h1 h2 => (hg.block x (Nat.lt_of_lt_of_le hx h.size) (fun e => by have := hr x e.symm; omega)).trans (h.block x hx h1 h2)⟩
/-- the state of what is made: the word, the tables, the roots, the box -/
structure MS (W2 : World) (ob c base : Nat) (rows : Nat → List (List Int)) (rts : Nat → List Int) (wv : List Int) (wr : World) (t1 t2 : Nat) (AW : Option Addr) (v1 v2 vo : Value) (xs us : List Value) : Prop where
  sl : SL wr AW wv
  blk : ∀ ad, AW = some ad → ∃ cs, Blk wr ad.block 3 cs
  tabs : Tabs wr base v1 v2 t1 xs rows
  rt : RT wr base v2 us ((List.range t2).map rts)
  out : Blk wr ob 40 #[vo, .slice none 0 0, .slice none 0 0]
  gm : GrowM W2 wr c ob
  hob : ob < base
  hcb : c < base
  hbs : base = W2.heap.size
section
variable {W2 wr w' : World} {ob c base : Nat} {rows : Nat → List (List Int)} {rts : Nat → List Int} {wv : List Int} {t1 t2 : Nat} {AW : Option Addr} {v1 v2 vo : Value} {xs us : List Value}
theorem MS.size (h : MS W2 ob c base rows rts wv wr t1 t2 AW v1 v2 vo xs us) : base ≤ wr.heap.size := by rw [h.hbs]; exact h.gm.size
theorem MS.safe (h : MS W2 ob c base rows rts wv wr t1 t2 AW v1 v2 vo xs us) (hs : Safe wr w') (hk : ∀ g, v1.ownBlock = some g → w'.heap[g]? = wr.heap[g]?) {vo' : Value} (ho : Blk w' ob 40 #[vo', .slice none 0 0, .slice none 0 0]) (hg : GrowM W2 w' c ob) : MS W2 ob c base rows rts wv w' t1 t2 AW v1 v2 vo' xs us :=
  ⟨sl_same h.sl hs.1 (fun ad e => by obtain ⟨cs, hcs⟩ := h.blk ad e; exact hs.heap hcs), fun ad e => by obtain ⟨cs, hcs⟩ := h.blk ad e; exact ⟨cs, (hs.heap hcs).trans hcs⟩, h.tabs.safe hs hk, h.rt.safe hs, ho, hg, h.hob, h.hcb, h.hbs⟩
theorem MS.below (h : MS W2 ob c base rows rts wv wr t1 t2 AW v1 v2 vo xs us) (hb : Below wr.heap.size wr w') : MS W2 ob c base rows rts wv w' t1 t2 AW v1 v2 vo xs us :=
  h.safe (Safe.of hb) (fun g hg => hb.block g (World.ownsRow.lt h.tabs.own g hg).2) (Blk.below h.out hb h.out.lt) (h.gm.trans (GrowM.of hb))
theorem MS.app1 (h : MS W2 ob c base rows rts wv wr t1 t2 AW v1 v2 vo xs us) {A : Option Addr} {n cA : Nat} {ua : List Value} (ho : OwnR wr base (.slice A n cA) ua) (hr : RowsOwn wr base ua (rows t1)) (hne : ∀ g, (Value.slice A n cA).ownBlock = some g → v2.ownBlock ≠ some g) {v1' : Value}
    (h1 : w'.ownsRow base 37 1 v1' (t1 + 1) (xs ++ [.slice A n cA])) (h2 : wr.grownBy w' v1.ownBlock) : MS W2 ob c base rows rts wv w' (t1 + 1) t2 AW v1' v2 vo (xs ++ [.slice A n cA]) us := by
  obtain ⟨q1, q2, q3⟩ := h.tabs.app h.rt ho hr hne h1 h2
  exact ⟨sl_same h.sl q3.1 (fun ad e => by obtain ⟨cs, hcs⟩ := h.blk ad e; exact q3.heap hcs), fun ad e => by obtain ⟨cs, hcs⟩ := h.blk ad e; exact ⟨cs, (q3.heap hcs).trans hcs⟩, q1, q2, row_far h.tabs.own h2 h.out (by decide), h.gm.row h2 (fun g hg => by rw [← h.hbs]; exact (World.ownsRow.lt h.tabs.own g hg).1), h.hob, h.hcb, h.hbs⟩
theorem MS.app2 (h : MS W2 ob c base rows rts wv wr t1 t2 AW v1 v2 vo xs us) {g cap : Nat} {tg : TypeId} {cg : Array Value} (hg : Blk wr g tg cg) (htg : tg = 3 ∨ tg = 56) (hs : SL wr (some ⟨g, 0, none⟩) (rts t2)) (hl : (rts t2).length = 4) (hi : ∀ x ∈ rts t2, I64 x) {v2' : Value}
    (h1 : w'.ownsRow base 22 1 v2' (us.length + 1) (us ++ [.slice (some ⟨g, 0, none⟩) 4 cap])) (h2 : wr.grownBy w' v2.ownBlock) (h3 : v2'.ownBlock = v2.ownBlock ∨ ∃ k, v2'.ownBlock = some k ∧ wr.heap.size ≤ k) : MS W2 ob c base rows rts wv w' t1 (t2 + 1) AW v1 v2' vo xs (us ++ [.slice (some ⟨g, 0, none⟩) 4 cap]) := by
  obtain ⟨q1, q2⟩ := RT.app h.tabs h.rt hg htg hs hl hi h1 h2 h3
  have hb : ∀ ad, AW = some ad → w'.heap[ad.block]? = wr.heap[ad.block]? := fun ad e => by
    obtain ⟨cs, hcs⟩ := h.blk ad e
    exact (row_far h.rt.own h2 hcs (by decide) : w'.heap[ad.block]? = _).trans (hcs : wr.heap[ad.block]? = _).symm
  exact ⟨sl_same h.sl h2.size hb, fun ad e => by obtain ⟨cs, hcs⟩ := h.blk ad e; exact ⟨cs, (hb ad e).trans hcs⟩, q1, by rw [List.range_succ, List.map_append]; exact q2, row_far h.rt.own h2 h.out (by decide), h.gm.row h2 (fun g hg => by rw [← h.hbs]; exact (World.ownsRow.lt h.rt.own g hg).1), h.hob, h.hcb, h.hbs⟩
theorem MS.store (h : MS W2 ob c base rows rts wv wr t1 t2 AW v1 v2 vo xs us) (vo' : Value) : MS W2 ob c base rows rts wv (wr.setCell ⟨ob, 0, none⟩ vo') t1 t2 AW v1 v2 vo' xs us := by
  have hg : wr.grownBy (wr.setCell ⟨ob, 0, none⟩ vo') (some ob) := blk_grown
  have hne : ∀ g, v1.ownBlock = some g → (wr.setCell ⟨ob, 0, none⟩ vo').heap[g]? = wr.heap[g]? := fun g hgv => by
    have h1 := World.ownsRow.lt h.tabs.own g hgv
    exact hg.block g h1.2 (fun e => by injection e with e; have := h.hob; omega)
  exact h.safe (Safe.one hg h.out ⟨by decide, by decide, by decide⟩) hne (Blk.set_ h.out 0 vo') (h.gm.trans (GrowM.two hg))
/-- the chain goes on -/
theorem MS.chain (h : MS W2 ob c base rows rts wv wr t1 t2 AW v1 v2 vo xs us) (hg : wr.grownBy w' (some c)) {tc : TypeId} {cc : Array Value} (hc : Blk wr c tc cc) (ht : tc ≠ 3 ∧ tc ≠ 22 ∧ tc ≠ 56) (ht2 : tc ≠ 40) : MS W2 ob c base rows rts wv w' t1 t2 AW v1 v2 vo xs us :=
  h.safe (Safe.one hg hc ht) (fun g hgv => by
    have h1 := World.ownsRow.lt h.tabs.own g hgv
    exact hg.block g h1.2 (fun e => by injection e with e; have := h.hcb; omega)) (Blk.grown h.out hg (fun e => by injection e with e; exact Blk.ne_ h.out hc (fun e2 => ht2 e2.symm) e)) (h.gm.trans (GrowM.one hg))
/-- another word -/
theorem MS.word (h : MS W2 ob c base rows rts wv wr t1 t2 AW v1 v2 vo xs us) {b n cp : Nat} {A : Option Addr} {wv' : List Int} (ho : Own wr b (.slice A n cp) wv') : MS W2 ob c base rows rts wv' wr t1 t2 A v1 v2 vo xs us :=
  ⟨sl_of ho, fun ad e => row_blk ho (by rw [e]; rfl), h.tabs, h.rt, h.out, h.gm, h.hob, h.hcb, h.hbs⟩
end
theorem bz0 (w : World) : Below w.heap.size w w.drew := below_drewN (Below.refl _ _) 1
theorem bz1 (w : World) (o : Obj) : Below w.heap.size w (w.drew.alloc o) := (bz0 w).alloc (Nat.le_refl _) _
theorem bz2 (w : World) (o o' : Obj) : Below w.heap.size w ((w.drew.alloc o).alloc o') := (bz1 w o).alloc (bz1 w o).size _
theorem newc1 (W : World) (u : Value) (t : TypeId) (g : Nat) (hg : g = W.heap.size) : ∀ j v, ([u] : List Value)[j]? = some v → (W.alloc (.cells #[u] t)).cell? ⟨g, j, none⟩ = some v := fun j v hj => by
  subst hg
  rw [(Blk.new W t #[u]).cell j]
  simpa using hj
theorem newc2 (W : World) (u : Value) (t : TypeId) (o : Obj) (g : Nat) (hg : g = W.heap.size) : ∀ j v, ([u] : List Value)[j]? = some v → ((W.alloc (.cells #[u] t)).alloc o).cell? ⟨g, j, none⟩ = some v := fun j v hj => by
  subst hg
  rw [((Blk.new W t #[u]).alloc o).cell j]
  simpa using hj
end Go.Proofs.YtonalbdehcmjmaaGreat

/- The walk of fold.Check: the rounds are laid. -/
set_option linter.unusedVariables false
namespace Go.Proofs.YtonalbdehcmjmaaGreat
open Go.RowKit Zp
theorem Dom.to {w w' : World} {S S' D b p n : Nat} [NeZero p] {s : Fin p} (h : Dom w S D b p n s) (hF : Fld w' S' b p) (hD : D < S') (hc : ∀ j v, w.cell? ⟨D, j, none⟩ = some v → w'.cell? ⟨D, j, none⟩ = some v) : Dom w' S' D b p n s :=
  ⟨hF, hD, hc _ _ h.c0, hc _ _ h.c1, hc _ _ h.c2, hc _ _ h.c3, h.s0, h.size⟩
/-- a round that is not looked at yet -/
def newR (D : Nat) : List Value := [.pointer (some ⟨D, 0, none⟩), vi 0, .slice none 0 0, .slice none 0 0, .slice none 0 0]
def newRs (Ds : Nat → Nat) (t : Nat) : List Value := (List.range t).flatMap fun i => newR (Ds i)
theorem newRs_succ (Ds : Nat → Nat) (t : Nat) : newRs Ds (t + 1) = newRs Ds t ++ newR (Ds t) := by simp [newRs, List.range_succ]
/-- what stands when t rounds were laid -/
structure Laid5 (w wr : World) (p b2 e : Nat) [NeZero p] (s : Fin p) (Dd : Nat) (o : Array Value) (t : Nat) (Ds : Nat → Nat) (v : Value) : Prop where
  d0 : Ds 0 = Dd
  bo : Blk wr w.heap.size 40 o
  bv : Blk wr (w.heap.size + 1) 85 #[v]
  ba : Blk wr (w.heap.size + 2) 25 #[.pointer (some ⟨Ds t, 0, none⟩)]
  own : wr.ownsRow (w.heap.size + 3) 87 5 v t (newRs Ds t)
  bel : Below w.heap.size w wr
  dom : ∀ i, i ≤ t → Dom wr wr.heap.size (Ds i) b2 p (nI e i) (sqI s i) ∧ (Ds i < w.heap.size ∨ w.heap.size + 3 ≤ Ds i) ∧ v.ownBlock ≠ some (Ds i)
/-- the world that the loop begins in -/
def baseW5 (w : World) (o : Array Value) (Dd : Nat) : World := ((w.alloc (.cells o 40)).alloc (.cells #[.slice none 0 0] 85)).alloc (.cells #[.pointer (some ⟨Dd, 0, none⟩)] 25)
theorem laid5_zero {w : World} {p b2 e S2 : Nat} [NeZero p] {s : Fin p} {Dd : Nat} (o : Array Value) (h : Dom w S2 Dd b2 p (nI e 0) (sqI s 0)) : Laid5 w (baseW5 w o Dd) p b2 e s Dd o 0 (fun _ => Dd) (.slice none 0 0) := by
  have hb : Below w.heap.size w (baseW5 w o Dd) := (((Below.refl _ _).alloc (Nat.le_refl _) _).alloc (by simp) _).alloc (by simp; omega) _
  have hD := h.lt
  have hS := h.fld.le
  have hd := (h.below hb hS).upS (Nat.le_trans hS hb.size) (Nat.le_refl _)
  refine ⟨rfl, ?_, ?_, ?_, World.ownsRow_nil _ _ _ _, hb, fun i hi => ?_⟩
  · exact ((Blk.new w 40 o).alloc _).alloc _
  · have h1 := (Blk.new (w.alloc (.cells o 40)) 85 #[.slice none 0 0]).alloc (.cells #[.pointer (some ⟨Dd, 0, none⟩)] 25)
    rw [show (w.alloc (.cells o 40)).heap.size = w.heap.size + 1 by simp] at h1
    exact h1
  · have h1 := Blk.new ((w.alloc (.cells o 40)).alloc (.cells #[.slice none 0 0] 85)) 25 #[.pointer (some ⟨Dd, 0, none⟩)]
    rw [show ((w.alloc (.cells o 40)).alloc (.cells #[.slice none 0 0] 85)).heap.size = w.heap.size + 2 by simp] at h1
    exact h1
  · obtain rfl : i = 0 := by omega
    exact ⟨hd, .inl (by omega), by simp [Value.ownBlock]⟩
/-- a row more, and the half -/
theorem Laid5.step {w wr : World} {p b2 e S2 : Nat} [NeZero p] {s : Fin p} {Dd : Nat} {o : Array Value} {t : Nat} {Ds : Nat → Nat} {v : Value} (hL : Laid5 w wr p b2 e s Dd o t Ds v) (hF0 : Fld w S2 b2 p) {v' : Value} {w2 : World}
    (h1 : w2.ownsRow (w.heap.size + 3) 87 5 v' (t + 1) (newRs Ds t ++ newR (Ds t))) (h2 : wr.grownBy w2 v.ownBlock) (h3 : v'.ownBlock = v.ownBlock ∨ ∃ k, v'.ownBlock = some k ∧ wr.heap.size ≤ k) :
    let w3 := w2.setCell ⟨w.heap.size + 1, 0, none⟩ v'
    Blk w3 w.heap.size 40 o ∧ Blk w3 (w.heap.size + 1) 85 #[v'] ∧ Blk w3 (w.heap.size + 2) 25 #[.pointer (some ⟨Ds t, 0, none⟩)] ∧ w3.ownsRow (w.heap.size + 3) 87 5 v' (t + 1) (newRs Ds t ++ newR (Ds t)) ∧ Below w.heap.size w w3 ∧
      (∀ i, i ≤ t → Dom w3 w3.heap.size (Ds i) b2 p (nI e i) (sqI s i) ∧ (Ds i < w.heap.size ∨ w.heap.size + 3 ≤ Ds i) ∧ v'.ownBlock ≠ some (Ds i)) := by
  have hown : ∀ g, v.ownBlock = some g → w.heap.size + 3 ≤ g := fun g hg => (World.ownsRow.lt hL.own g hg).1
  have hne : ∀ x, x < w.heap.size + 3 → some x ≠ v.ownBlock := fun x hx hg => by have := hown x hg.symm; omega
  have b1 := Blk.grown hL.bo h2 (hne _ (by omega))
  have b2' := Blk.grown hL.bv h2 (hne _ (by omega))
  have b3 := Blk.grown hL.ba h2 (hne _ (by omega))
  have hb2 : Below w.heap.size w w2 := hL.bel.grown h2 hL.bel.size (fun x hx => by have := hown x hx; omega)
  have hg3 : w2.grownBy (w2.setCell ⟨w.heap.size + 1, 0, none⟩ v') (some (w.heap.size + 1)) := blk_grown
  have hb3 : Below w.heap.size w (w2.setCell ⟨w.heap.size + 1, 0, none⟩ v') := hb2.grown hg3 hb2.size (fun x hx => by injection hx with hx; omega)
  have hF3 : Fld (w2.setCell ⟨w.heap.size + 1, 0, none⟩ v') (w2.setCell ⟨w.heap.size + 1, 0, none⟩ v').heap.size b2 p := (hF0.below hb3 hF0.le).moreS (Nat.le_trans hF0.le hb3.size) (Nat.le_refl _)
  refine ⟨Blk.far b1 (p := ⟨w.heap.size + 1, 0, none⟩) (by show w.heap.size ≠ w.heap.size + 1; omega) _, Blk.set_ b2' 0 v', Blk.far b3 (p := ⟨w.heap.size + 1, 0, none⟩) (by show w.heap.size + 2 ≠ w.heap.size + 1; omega) _, ownsRow_setCell_below h1 (a := ⟨w.heap.size + 1, 0, none⟩) (by show w.heap.size + 1 < w.heap.size + 3; omega) _, hb3, fun i hi => ?_⟩
  obtain ⟨hd, hr, ho⟩ := hL.dom i hi
  refine ⟨hd.to hF3 (Nat.lt_of_lt_of_le hd.lt (Nat.le_trans h2.size hg3.size)) (fun j u hu => ?_), hr, ?_⟩
  · have hlt := block_lt_of_cell hu
    have e1 : w2.cell? ⟨Ds i, j, none⟩ = some u := by rw [← hu]; exact World.cell?_of_block (h2.block _ hlt (fun e => ho e.symm))
    rw [← e1]
    exact World.cell?_setCell_far w2 ⟨w.heap.size + 1, 0, none⟩ ⟨Ds i, j, none⟩ v' (by show w.heap.size + 1 ≠ Ds i; omega)
  · rcases h3 with h | ⟨k, h, hk⟩
    · rw [h]; exact ho
    · rw [h]; intro e'; injection e' with e'; have := hd.lt; omega
/-- the half is laid down -/
theorem Laid5.next {w w3 w4 : World} {p b2 e S2 : Nat} [NeZero p] {s : Fin p} {Dd : Nat} {o : Array Value} {t : Nat} {Ds : Nat → Nat} {v' : Value} (hF0 : Fld w S2 b2 p) (hd0 : Ds 0 = Dd)
    (h : Blk w3 w.heap.size 40 o ∧ Blk w3 (w.heap.size + 1) 85 #[v'] ∧ Blk w3 (w.heap.size + 2) 25 #[.pointer (some ⟨Ds t, 0, none⟩)] ∧ w3.ownsRow (w.heap.size + 3) 87 5 v' (t + 1) (newRs Ds t ++ newR (Ds t)) ∧ Below w.heap.size w w3 ∧
      (∀ i, i ≤ t → Dom w3 w3.heap.size (Ds i) b2 p (nI e i) (sqI s i) ∧ (Ds i < w.heap.size ∨ w.heap.size + 3 ≤ Ds i) ∧ v'.ownBlock ≠ some (Ds i)))
    {D' : Nat} (hD : Dom w4 w4.heap.size D' b2 p (nI e (t + 1)) (sqI s (t + 1))) (hb : Below w3.heap.size w3 w4) (hD' : w3.heap.size ≤ D') :
    Laid5 w (w4.setCell ⟨w.heap.size + 2, 0, none⟩ (.pointer (some ⟨D', 0, none⟩))) p b2 e s Dd o (t + 1) (fun i => if i ≤ t then Ds i else D') v' := by
  obtain ⟨b1, b2', b3, ho, hbel, hdom⟩ := h
  have c1 := Blk.below b1 hb b1.lt
  have c2 := Blk.below b2' hb b2'.lt
  have c3 := Blk.below b3 hb b3.lt
  have hg : w4.grownBy (w4.setCell ⟨w.heap.size + 2, 0, none⟩ (.pointer (some ⟨D', 0, none⟩))) (some (w.heap.size + 2)) := blk_grown
  have hb4 : Below w.heap.size w w4 := hbel.trans (hb.mono hbel.size)
  have hb5 : Below w.heap.size w (w4.setCell ⟨w.heap.size + 2, 0, none⟩ (.pointer (some ⟨D', 0, none⟩))) := hb4.grown hg hb4.size (fun x hx => by injection hx with hx; omega)
  have hF5 : Fld (w4.setCell ⟨w.heap.size + 2, 0, none⟩ (.pointer (some ⟨D', 0, none⟩))) (w4.setCell ⟨w.heap.size + 2, 0, none⟩ (.pointer (some ⟨D', 0, none⟩))).heap.size b2 p := (hF0.below hb5 hF0.le).moreS (Nat.le_trans hF0.le hb5.size) (Nat.le_refl _)
  have hb2lt := b2'.lt
  have hb3lt := b3.lt
  have ho4 : w4.ownsRow (w.heap.size + 3) 87 5 v' (t + 1) (newRs Ds t ++ newR (Ds t)) := World.ownsRow.kept ho (grown_of_below hb none) (by
    rcases hv : Value.ownBlock v' with _ | g
    · exact .inl rfl
    · exact .inr (by simp))
  have ers : newRs Ds t ++ newR (Ds t) = newRs (fun i => if i ≤ t then Ds i else D') (t + 1) := by
    rw [newRs_succ]
    congr 1
    · unfold newRs
      simp only [List.flatMap_def]
      congr 1
      apply List.map_congr_left
      intro i hi
      have := List.mem_range.1 hi
      (try simp only)
      rw [if_pos (by omega)]
    · (try simp only); rw [if_pos (Nat.le_refl _)]
  rw [ers] at ho4
  refine ⟨by (try simp only); rw [if_pos (Nat.zero_le _)]; exact hd0, Blk.far c1 (p := ⟨w.heap.size + 2, 0, none⟩) (by show w.heap.size ≠ w.heap.size + 2; omega) _, Blk.far c2 (p := ⟨w.heap.size + 2, 0, none⟩) (by show w.heap.size + 1 ≠ w.heap.size + 2; omega) _, ?_, ownsRow_setCell_below ho4 (a := ⟨w.heap.size + 2, 0, none⟩) (by show w.heap.size + 2 < w.heap.size + 3; omega) _, hb5, fun i hi => ?_⟩
  · have := Blk.set_ c3 0 (.pointer (some ⟨D', 0, none⟩))
    (try simp only)
    rw [if_neg (by omega)]
    exact this
  · (try simp only)
    by_cases hit : i ≤ t
    · rw [if_pos hit]
      obtain ⟨hd, hr, hov⟩ := hdom i hit
      refine ⟨hd.to hF5 (Nat.lt_of_lt_of_le hd.lt (Nat.le_trans hb.size hg.size)) (fun j u hu => ?_), hr, hov⟩
      have e1 : w4.cell? ⟨Ds i, j, none⟩ = some u := by rw [← hu]; exact hb.cell (p := ⟨Ds i, j, none⟩) hd.lt
      rw [← e1]
      exact World.cell?_setCell_far w4 ⟨w.heap.size + 2, 0, none⟩ ⟨Ds i, j, none⟩ _ (by show w.heap.size + 2 ≠ Ds i; omega)
    · rw [if_neg hit]
      obtain rfl : i = t + 1 := by omega
      refine ⟨hD.to hF5 (Nat.lt_of_lt_of_le hD.lt hg.size) (fun j u hu => ?_), .inr (by omega), fun e' => by have := (World.ownsRow.lt ho _ e').2; omega⟩
      rw [← hu]
      exact World.cell?_setCell_far w4 ⟨w.heap.size + 2, 0, none⟩ ⟨D', j, none⟩ _ (by show w.heap.size + 2 ≠ D'; omega)
end Go.Proofs.YtonalbdehcmjmaaGreat

/- The walk of fold.Check. -/
set_option linter.unusedVariables false
namespace Go.Proofs.YtonalbdehcmjmaaGreat
open Go.RowKit Zp
theorem newR_one (D : Nat) : ∀ u ∈ newR D, u.oneCell' = true := by simp [newR, Value.oneCell']
theorem row_slice {w : World} {base : Nat} {e : TypeId} {sz n : Nat} {v : Value} {xs : List Value} (h : w.ownsRow base e sz v n xs) : ∃ A c, v = .slice A n c := by
  rcases h.2 with ⟨e1, rfl⟩ | ⟨g, cap, cur, e1, _⟩
  · exact ⟨_, _, e1⟩
  · exact ⟨_, _, e1⟩
end Go.Proofs.YtonalbdehcmjmaaGreat
