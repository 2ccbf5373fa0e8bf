/- A bundle of texts: Nl, Be, Tc, Lv1, Pl3, Lv3, Row5, Tk, LawN3. -/
import Derived.Test.YtmhhgaofilaalaaB07
import Derived.Test.YtmhhgaofilaalaaB01
import Derived.Test.YtmhhgaofilaalaaB06
import Derived.Test.YtmhhgaofilaalaaB02
import Derived.Test.YtmhhgaofilaalaaB03
import Derived.Test.YtmhhgaofilaalaaB04
/- The walk of tree.Open. -/
set_option linter.unusedVariables false
set_option linter.unusedSimpArgs false
namespace Go.Proofs.Ytmhhgaofilaalaa
open Go.RowKit Zp
/-- an Opening of the caller's, and no error -/
def TOpenedIs (l : List Int) (rs ns : List (List Int)) (w : World) (e : Ending) (w' : World) : Prop :=
  ∃ A0 n0 c0 AR nR cR AN nN cN, e = .returned (.tuple #[.agg #[.slice A0 n0 c0, .slice AR nR cR, .slice AN nN cN], .nilIface]) ∧ OpnAt w' A0 n0 c0 l AR nR cR rs AN nN cN ns ∧ Below w.heap.size w w'
theorem OpenedUp.tup {l : List Int} {rs ns : List (List Int)} {w w' : World} {v : Value} (h : OpenedUp l rs ns w (.returned v) w') : TOpenedIs l rs ns w (.returned (.tuple #[v, .nilIface])) w' := by
  obtain ⟨A0, n0, c0, AR, nR, cR, AN, nN, cN, e, h1, h2, _⟩ := h
  injection e with e
  exact ⟨A0, n0, c0, AR, nR, cR, AN, nN, cN, by rw [e], h1, h2⟩
/-- no Opening, but an error -/
def TOpenNo (n : Int) (w : World) (e : Ending) (w' : World) : Prop := e = .returned (.tuple #[.agg #[.slice none 0 0, .slice none 0 0, .slice none 0 0], .iface 72 (vi n)]) ∧ Below w.heap.size w w'
/-- the three blocks that tree.Open begins with -/
structure Ent (w W : World) (s A : Option Addr) (N c : Nat) : Prop where
  hs : Blk W w.heap.size 27 #[.pointer s]
  hr : Blk W (w.heap.size + 1) 23 #[.slice A N c]
  ho : Blk W (w.heap.size + 1 + 1) 25 #[.slice none 0 0, .slice none 0 0, .slice none 0 0]
  hb : Below w.heap.size w W
  hz : w.heap.size + 1 + 1 < W.heap.size
theorem Ent.new (w : World) (s A : Option Addr) (N c : Nat) : Ent w (((w.alloc (.cells #[.pointer s] 27)).alloc (.cells #[.slice A N c] 23)).alloc (.cells #[.slice none 0 0, .slice none 0 0, .slice none 0 0] 25)) s A N c := by
  refine ⟨((Blk.new w _ _).alloc _).alloc _, ?_, ?_, (((Below.refl _ _).alloc (Nat.le_refl _) _).alloc (by simp) _).alloc (by simp; omega) _, by simp⟩
  · have h := (Blk.new (w.alloc (.cells #[.pointer s] 27)) 23 #[.slice A N c]).alloc (.cells #[.slice none 0 0, .slice none 0 0, .slice none 0 0] 25)
    simpa using h
  · have h := Blk.new ((w.alloc (.cells #[.pointer s] 27)).alloc (.cells #[.slice A N c] 23)) 25 #[.slice none 0 0, .slice none 0 0, .slice none 0 0]
    simpa using h
theorem Ent.below {w W W' : World} {s A : Option Addr} {N c : Nat} (h : Ent w W s A N c) (hb : Below (w.heap.size + 1 + 1 + 1) W W') : Ent w W' s A N c :=
  ⟨Blk.below h.hs hb (by omega), Blk.below h.hr hb (by omega), Blk.below h.ho hb (by omega), h.hb.trans (hb.mono (by omega)), Nat.lt_of_lt_of_le h.hz hb.size⟩
theorem Ent.cs {w W : World} {s A : Option Addr} {N c : Nat} (h : Ent w W s A N c) : W.cell? ⟨w.heap.size, 0, none⟩ = some (.pointer s) := (h.hs.cell 0).trans rfl
theorem Ent.cr {w W : World} {s A : Option Addr} {N c : Nat} (h : Ent w W s A N c) : W.cell? ⟨w.heap.size + 1, 0, none⟩ = some (.slice A N c) := (h.hr.cell 0).trans rfl
set_option maxRecDepth 100000 in
set_option maxHeartbeats 2000000 in
theorem topen_no1 (s A : Option Addr) (N c : Nat) (hN : rightB N = false) (A0 : Option Addr) (n0 c0 : Nat) (w : World) :
    Calls Try.prog 13 #[.pointer s, .slice A N c, .slice A0 n0 c0] w (TOpenNo 2 w) := by
  have HR := Lib.hid (fun w => right_any (N : Int) w)
  have HN := Lib.hid hN
  have hE := Ent.new w s A N c
  obtain ⟨W0, hW0⟩ : ∃ W0, W0 = ((w.alloc (.cells #[.pointer s] 27)).alloc (.cells #[.slice A N c] 23)).alloc (.cells #[.slice none 0 0, .slice none 0 0, .slice none 0 0] 25) := ⟨_, rfl⟩
  rw [← hW0] at hE
  have HW0 := Lib.hid hW0
  have HE := Lib.hid hE
  have e1 := hE.cr
  have f0 := (hE.ho.cell 0).trans (show _ = some (.slice none 0 0) from rfl)
  have f1 := (hE.ho.cell 1).trans (show _ = some (.slice none 0 0) from rfl)
  have f2 := (hE.ho.cell 2).trans (show _ = some (.slice none 0 0) from rfl)
  have z0 := hE.ho.frozen 0
  have z1 := hE.ho.frozen 1
  have z2 := hE.ho.frozen 2
  obtain ⟨hset, hgr⟩ := blk_set3 hE.ho (.slice none 0 0) (.slice none 0 0) (.slice none 0 0)
  have HS := Lib.hid hset
  have HB := Lib.hid (hE.hb.grown hgr hE.hb.size (fun x hx => by injection hx with hx; omega))
  clear hN hW0 hE hset hgr
  go_enter Try.func13, Try.ntmps13
  go_upto_region 1 with (fail)
  rw [← HW0.out]
  go_wp2_with fail
  refine (HR.out _).mono ?_
  rintro e w' ⟨rfl, rfl⟩
  rw [HN.out]
  go_wp2
  have q0 := (HS.out.cell 0).trans (show _ = some (.slice none 0 0) from rfl)
  have q1 := (HS.out.cell 1).trans (show _ = some (.slice none 0 0) from rfl)
  have q2 := (HS.out.cell 2).trans (show _ = some (.slice none 0 0) from rfl)
  exact bodyPost_ret (v := .tuple #[.agg #[.slice none 0 0, .slice none 0 0, .slice none 0 0], .iface 72 (vi 2)]) (by simp [results, Try.results13, go_sem, q0, q1, q2]) rfl ⟨rfl, HB.out⟩
set_option maxRecDepth 100000 in
set_option maxHeartbeats 2000000 in
theorem topen_no2 (s : Nat) (A : Option Addr) (N c : Nat) (h1 : 1 ≤ N) (hN2 : N ≤ 65536) (A0 : Option Addr) (n0 c0 : Nat) (l : List Int) (hl : l.length = n0) (hn0 : n0 ≤ 9223372036854775806) (hin : l.any (outB N) = true) (w : World) (hs : SL w A0 l) :
    Calls Try.prog 13 #[.pointer (some ⟨s, 0, none⟩), .slice A N c, .slice A0 n0 c0] w (TOpenNo 3 w) := by
  have HR := Lib.hid (fun w => right_any (N : Int) w)
  have HN := Lib.hid (show rightB (N : Int) = true from decide_eq_true (by constructor <;> omega))
  have hE := Ent.new w (some ⟨s, 0, none⟩) A N c
  obtain ⟨W0, hW0⟩ : ∃ W0, W0 = ((w.alloc (.cells #[.pointer (some ⟨s, 0, none⟩)] 27)).alloc (.cells #[.slice A N c] 23)).alloc (.cells #[.slice none 0 0, .slice none 0 0, .slice none 0 0] 25) := ⟨_, rfl⟩
  rw [← hW0] at hE
  have HW0 := Lib.hid hW0
  have HE := Lib.hid hE
  have e1 := hE.cr
  have hcf := containsI_any 30 (enters_of Try.func30 (by kernel_rfl) rfl) #[.pointer (some ⟨w.heap.size + 1, 0, none⟩)] (outB N) A0 n0 c0 l hl (by omega) W0 (fun x _ => open1_any x _ A N c W0 e1) (hs.below hE.hb)
  rw [hin] at hcf
  have HCF := Lib.hid hcf
  clear hcf hW0
  have f0 := (hE.ho.cell 0).trans (show _ = some (.slice none 0 0) from rfl)
  have f1 := (hE.ho.cell 1).trans (show _ = some (.slice none 0 0) from rfl)
  have f2 := (hE.ho.cell 2).trans (show _ = some (.slice none 0 0) from rfl)
  have z0 := hE.ho.frozen 0
  have z1 := hE.ho.frozen 1
  have z2 := hE.ho.frozen 2
  obtain ⟨hset, hgr⟩ := blk_set3 hE.ho (.slice none 0 0) (.slice none 0 0) (.slice none 0 0)
  have HS := Lib.hid hset
  have HB := Lib.hid (hE.hb.grown hgr hE.hb.size (fun x hx => by injection hx with hx; omega))
  clear hE hset hgr hs hl hn0 hin h1 hN2
  go_enter Try.func13, Try.ntmps13
  go_upto_region 1 with (fail)
  rw [← HW0.out]
  go_wp2_with fail
  refine (HR.out _).mono ?_
  rintro e w' ⟨rfl, rfl⟩
  rw [HN.out]
  go_wp2_with fail
  refine HCF.out.mono ?_
  rintro e w' ⟨rfl, rfl⟩
  go_wp2
  have q0 := (HS.out.cell 0).trans (show _ = some (.slice none 0 0) from rfl)
  have q1 := (HS.out.cell 1).trans (show _ = some (.slice none 0 0) from rfl)
  have q2 := (HS.out.cell 2).trans (show _ = some (.slice none 0 0) from rfl)
  exact bodyPost_ret (v := .tuple #[.agg #[.slice none 0 0, .slice none 0 0, .slice none 0 0], .iface 72 (vi 3)]) (by simp [results, Try.results13, go_sem, q0, q1, q2]) rfl ⟨rfl, HB.out⟩
set_option maxRecDepth 100000 in
set_option maxHeartbeats 16000000 in
theorem topen_yes (p S b s k z : Nat) [NeZero p] (oo : Nat → Nat → Fin p) (A : Option Addr) (N c : Nat) (ls : List (List Int)) (hN : ls.length = N) (h1 : 1 ≤ N) (hN2 : N ≤ 65536) (hR : ∀ t ∈ ls, t.length * 8 ≤ 140737488351232)
    (A0 : Option Addr) (n0 c0 : Nat) (l : List Int) (hl : l.length = n0) (hn0 : n0 * 8 ≤ 140737488351232) (hin : l.any (outB N) = false) (w : World) (F : Fld w S b p) (G : Spg w s b k z oo) (hs : SL w A0 l) (hT : TB w A ls) :
    Calls Try.prog 13 #[.pointer (some ⟨s, 0, none⟩), .slice A N c, .slice A0 n0 c0] w (TOpenedIs (onceL l) (openR p ls (onceL l)) ((hidL (onceL l) 0 N).map fun g => rootD (digL p k) (rowF ls) g.1 g.2) w) := by
  have HR := Lib.hid (fun w => right_any (N : Int) w)
  have HN := Lib.hid (show rightB (N : Int) = true from decide_eq_true (by constructor <;> omega))
  have hE := Ent.new w (some ⟨s, 0, none⟩) A N c
  obtain ⟨W0, hW0⟩ : ∃ W0, W0 = ((w.alloc (.cells #[.pointer (some ⟨s, 0, none⟩)] 27)).alloc (.cells #[.slice A N c] 23)).alloc (.cells #[.slice none 0 0, .slice none 0 0, .slice none 0 0] 25) := ⟨_, rfl⟩
  rw [← hW0] at hE
  have HW0 := Lib.hid hW0
  have HE := Lib.hid hE
  have e1 := hE.cr
  have hcf := containsI_any 30 (enters_of Try.func30 (by kernel_rfl) rfl) #[.pointer (some ⟨w.heap.size + 1, 0, none⟩)] (outB N) A0 n0 c0 l hl (by omega) W0 (fun x _ => open1_any x _ A N c W0 e1) (hs.below hE.hb)
  rw [hin] at hcf
  have HCF := Lib.hid hcf
  clear hcf hW0
  obtain ⟨T, hTT⟩ : ∃ T, T = onceL l := ⟨_, rfl⟩
  have hTa : Asc T := by rw [hTT]; exact asc_onceL l
  have hTin : ∀ x ∈ T, 0 ≤ x ∧ x < N := fun x hx => by
    rw [hTT, mem_onceL] at hx
    have h := List.any_eq_false.1 hin x hx
    unfold outB at h
    exact Classical.byContradiction fun h' => h (decide_eq_true h')
  have hTl := hTa.len hTin
  have hcm := compact_once l
  rw [← hTT] at hcm ⊢
  have HCL := Lib.hid (fun W' (h : Below w.heap.size w W') => clone_any A0 n0 c0 l hl (by omega) W' (hs.below h))
  have HCM := Lib.hid hcm
  have HLS := Lib.hid (And.intro hN (And.intro h1 (And.intro hN2 (And.intro hR (And.intro hTl (And.intro hTa hTin))))))
  have HLL := Lib.hid (And.intro hl hn0)
  have HX := Lib.hid (fun W' (h : Below w.heap.size w W') => (show Fld W' S b p ∧ Spg W' s b k z oo ∧ TB W' A ls from ⟨F.below h F.le, G.below h (block_lt_of_cell G.c0), hT.below h⟩))
  have HPM := Lib.hid F.max
  have HT0 := Lib.hid hT
  have HEB := Lib.hid hE.hb
  clear hE hs hl hn0 hin h1 hN2 hN hR F G hT hTT hTa hTin hTl hcm
  go_enter Try.func13, Try.ntmps13
  go_upto_region 1 with (fail)
  rw [← HW0.out]
  go_wp2_with fail
  refine (HR.out _).mono ?_
  rintro e w' ⟨rfl, rfl⟩
  rw [HN.out]
  go_wp2_with fail
  refine HCF.out.mono ?_
  rintro e w' ⟨rfl, rfl⟩
  go_wp2_with fail
  refine (HCL.out _ HEB.out).mono ?_
  rintro _ w1 ⟨v1, rfl, ho1, hb1⟩
  obtain ⟨A1, n1, c1, rfl, hl1, hc1, _, _⟩ := ho1.shapeN
  go_wp2_with fail
  obtain ⟨W2, hW2⟩ : ∃ W2, W2 = w1.alloc (.cells #[.slice A1 n1 c1, .slice none 0 0, .slice none 0 0] 25) := ⟨_, rfl⟩
  obtain ⟨ob, hob⟩ : ∃ ob, ob = w1.heap.size := ⟨_, rfl⟩
  have hB2 : Blk W2 ob 25 #[.slice A1 n1 c1, .slice none 0 0, .slice none 0 0] := by rw [hW2, hob]; exact Blk.new _ _ _
  have hb2 : Below W0.heap.size W0 W2 := by rw [hW2]; exact hb1.alloc hb1.size _
  have ho2 : Own W2 W0.heap.size (.slice A1 n1 c1) l := by rw [hW2]; exact ho1.alloc' _
  have hne : some ob ≠ (Value.slice A1 n1 c1).ownBlock := fun e => by have := (ho1.lt ob e.symm).2; omega
  have hob0 : W0.heap.size ≤ ob := by rw [hob]; exact hb1.size
  rw [← hW2, ← hob]
  have HNE := Lib.hid hne
  have HO0 := Lib.hid hob0
  clear hW2 hob hb1 ho1 hne hob0
  have hn1 : n1 ≤ 4000000000000000000 := by have := HLL.out; omega
  refine (sort_any ho2 hl1 hn1).mono ?_
  rintro _ w3 ⟨rfl, ho3, hg3⟩
  have hB3 := Blk.grown hB2 hg3 HNE.out
  have hb3 := hb2.grown hg3 hb2.size (fun k hk => (ho2.lt k hk).1)
  have d3 := (hB3.cell 0).trans (show _ = some (.slice A1 n1 c1) from rfl)
  have HCC := Lib.hid (compact_any ho3 (by rw [List.length_mergeSort]; exact hl1) hn1)
  have HB3 := Lib.hid (And.intro hB3 (And.intro hb3 ho3))
  clear hB2 hb2 ho2 hB3 hb3 ho3 hg3 hl1 hn1
  go_wp2_with fail
  refine HCC.out.mono ?_
  rintro _ w4 ⟨rfl, ho4, hg4⟩
  rw [HCM.out] at ho4
  rw [HCM.out]
  have hB4 := Blk.grown HB3.out.1 hg4 HNE.out
  have hb4 := HB3.out.2.1.grown hg4 HB3.out.2.1.size (fun k hk => (HB3.out.2.2.lt k hk).1)
  obtain ⟨_, _, _, ev, hl4, _, _, hs4⟩ := ho4.shapeN
  injection ev with ev1 ev2 ev3
  subst ev1 ev2 ev3
  have HCL4 := Lib.hid (clone_any A1 T.length c1 T rfl (by have := HLS.out.2.2.2.2.1; have := HLS.out.2.2.1; omega) w4 hs4)
  have HB4 := Lib.hid (And.intro hB4 hb4)
  obtain ⟨tl, htl⟩ : ∃ tl, tl = T.length := ⟨_, rfl⟩
  rw [← htl] at HCL4 ⊢
  clear hB4 hb4 hl4 hs4 ho4 hg4 d3 HCC htl
  go_wp2_with fail
  refine HCL4.out.mono ?_
  rintro _ w5 ⟨v5, rfl, ho5, hb5⟩
  obtain ⟨A5, n5, c5, rfl, hl5, hc5, _, hs5⟩ := ho5.shapeN
  have HCI := Lib.hid (clipI_any A5 n5 c5 hc5 w5 (own_none ho5))
  have hB5 := Blk.below HB4.out.1 hb5 HB4.out.1.lt
  have d5 := (hB5.cell 0).trans (show _ = some (.slice A1 n1 c1) from rfl)
  have z5 := hB5.frozen 0
  have hobw : ob < w4.heap.size := HB4.out.1.lt
  obtain ⟨W6, hW6⟩ : ∃ W6, W6 = w5.setCell ⟨ob, 0, none⟩ (.slice A5 n5 n5) := ⟨_, rfl⟩
  have hg6 : w5.grownBy W6 (some ob) := by rw [hW6]; exact blk_grown
  have hB6 : Blk W6 ob 25 #[.slice A5 n5 n5, .slice none 0 0, .slice none 0 0] := by rw [hW6]; exact hB5.set_ 0 _
  have ho6 := own_past ho5 hg6 hobw
  have hb05 := HB4.out.2.trans (hb5.mono HB4.out.2.size)
  have hb06 := hb05.grown hg6 hb05.size (fun k hk => by injection hk with hk; have := HO0.out; omega)
  have KE : Hid (∀ W', W6.grownBy W' (some ob) → SL W' A5 T ∧ (Fld W' S b p ∧ Spg W' s b k z oo ∧ TB W' A ls) ∧ W'.cell? ⟨w.heap.size, 0, none⟩ = some (.pointer (some ⟨s, 0, none⟩)) ∧ W'.cell? ⟨w.heap.size + 1, 0, none⟩ = some (.slice A N c) ∧ Ent w W' (some ⟨s, 0, none⟩) A N c ∧ Below w.heap.size w W' ∧ Own W' w4.heap.size (.slice A5 n5 c5) T) := Lib.hid fun W' hg => by
    have hz := HE.out.hz
    have h0 := HO0.out
    have hb0 := hb06.grown hg hb06.size (fun k hk => by injection hk with hk; omega)
    have hE' := HE.out.below (hb0.mono (by omega))
    have hbw := HEB.out.trans (hb0.mono HEB.out.size)
    have how := ho6.keep fun g hgv => hg.block g (ho6.lt g hgv).2 (fun e => by injection e with e; have := (ho6.lt g hgv).1; omega)
    obtain ⟨_, _, _, ev, _, _, _, hsl⟩ := how.shapeN
    injection ev with ev1 ev2 ev3
    subst ev1 ev2 ev3
    exact ⟨hsl, HX.out W' hbw, hE'.cs, hE'.cr, hE', hbw, how⟩
  have HB6 := Lib.hid hB6
  have HL5 := Lib.hid hl5
  have HC5 := Lib.hid (And.intro hc5 hobw)
  have HW6 := Lib.hid hW6
  clear ho5 hl5 hc5 hs5 hB5 hobw hW6 hg6 hB6 ho6 hb05 hb06 hb5
  go_wp2_with fail
  refine HCI.out.mono ?_
  rintro _ _ ⟨rfl, rfl⟩
  go_upto_region 8 with (fail)
  rw [← HW6.out]
  have d6 := (HB6.out.cell 0).trans (show _ = some (.slice A5 n5 n5) from rfl)
  go_wp2
  obtain ⟨B1, hB1⟩ : ∃ B1, B1 = W6.heap.size := ⟨_, rfl⟩
  have hob1 : ob < B1 := by rw [hB1]; exact HB6.out.lt
  have HBZ := Lib.hid (show W6.heap.size ≤ B1 by rw [hB1]; exact Nat.le_refl _)
  have HOB1 := Lib.hid (And.intro hob1 (show B1 ≤ W6.heap.size by rw [hB1]; exact Nat.le_refl _))
  clear hB1 hob1 d6
  go_loopw [10, 37] (fun _ i wr => ∃ (kk : Nat) (v : Value) (us : List Value), kk ≤ T.length ∧ i = vi kk ∧ BldR wr B1 ob (.slice A5 n5 n5) v us ((openR p ls T).take kk) ∧ W6.grownBy wr (some ob)) (fun _ i _ => n5 - (intOf i).toNat)
  case atStart => exact ⟨0, .slice none 0 0, [], Nat.zero_le _, rfl, ⟨HB6.out, HOB1.out.1, HOB1.out.2, World.ownsRow_nil _ _ _ _, RowsOwn.nil _ _⟩, ⟨rfl, rfl, rfl, Nat.le_refl _, fun _ _ _ => rfl⟩⟩
  case round =>
    obtain ⟨kk, v, us, hk, rfl, hbld, hgr⟩ := hrel
    rw [HL5.out] at hk
    obtain ⟨AV, nV, cV, rfl, hnV, hcV⟩ := ownR_shape hbld.ro
    by_cases hlt : kk < n5
    · have hkT : kk < T.length := by rw [HL5.out]; exact hlt
      obtain ⟨ad, rfl, hab, hcell⟩ := (KE.out _ hgr).1.at_ hkT
      have hx := HLS.out.2.2.2.2.2.2 _ (List.getElem_mem hkT)
      obtain ⟨m, hm⟩ := Int.eq_ofNat_of_zero_le hx.1
      have htk := openR_take p ls T hkT hm
      rw [hm] at hcell hx
      have hmN : m < ls.length := by rw [HLS.out.1]; omega
      obtain ⟨ad2, A2, n2, c2, rfl, hb2, hc2, hl2, hn2, hs2, hi2⟩ := HT0.out m hmN
      have hrl := HLS.out.2.2.2.1 _ (List.getElem_mem hmN)
      rw [rowF_at hmN] at htk
      have HTK := Lib.hid htk
      have hsx : ∀ W', Below w.heap.size w W' → SL W' A2 ls[m] := fun W' h => hs2.below h
      have HI2 := Lib.hid hi2
      have HRL := Lib.hid hrl
      generalize ls[m] = x at *
      have HEL := Lib.hid (fun W' (hs : SL W' A2 x) (hc : W'.cell? ⟨b, 0, none⟩ = some (vi p)) => elements_any p b HPM.out A2 n2 c2 x hl2 HI2.out (by have := HRL.out; omega) W' hs hc)
      have HFD := Lib.hid (fun W' (G : Spg W' s b k z oo) => sfield_s s b k z oo W' G)
      have HSX := Lib.hid hsx
      have i1 : (0 : Int) ≤ (kk : Int) := by omega
      have i2 : (kk : Int) < (n5 : Int) := by omega
      have i3 : (0 : Int) ≤ (m : Int) := by omega
      have i4 : (m : Int) < (N : Int) := hx.2
      have hwr : IntKind.i64.wrap ((kk : Int) + 1) = (kk : Int) + 1 := IntWalk.i64_in _ (by have := HLS.out.2.2.2.2.1; have := HL5.out; have := HLS.out.2.2.1; omega)
      have HUS := Lib.hid (show us.length < 5864062014805 by have := hbld.rr.1; rw [List.length_take] at this; have := HLS.out.2.2.2.2.1; have := HL5.out; have := HLS.out.2.2.1; omega)
      have HBL := Lib.hid hbld
      have HC2 := Lib.hid (And.intro hb2 hc2)
      have hb11 : Below wr.heap.size wr wr.drew := below_drewN (Below.refl _ _) 1
      have kk1 : W6.grownBy wr.drew (some ob) := grownBy_trans hgr (grown_of_below hb11 _)
      have KS : Hid (∀ W', W6.grownBy W' (some ob) → W'.cell? ⟨w.heap.size, 0, none⟩ = some (.pointer (some ⟨s, 0, none⟩)) ∧ W'.cell? ⟨w.heap.size + 1, 0, none⟩ = some (.slice (some ad2) N c) ∧ W'.cell? (ad2.add m) = some (.slice A2 n2 c2)) := Lib.hid fun W' hg => by
        have h := KE.out W' hg
        exact ⟨h.2.2.1, h.2.2.2.1, (h.2.2.2.2.2.1.cell (p := ad2.add m) HC2.out.1).trans HC2.out.2⟩
      have c1 := (hbld.blk.cell 1).trans (show _ = some (.slice AV nV cV) from rfl)
      have c2' := ((Blk.drew hbld.blk).cell 1).trans (show _ = some (.slice AV nV cV) from rfl)
      clear htk hm hx hl2 hn2 hs2 hi2 hrl hmN hkT hbld hb2 hc2 hsx hab
      go_wp2_with fail
      refine wp_region_held_drew (S := fun w' => w'.cell? ⟨w.heap.size, 0, none⟩ = some (.pointer (some ⟨s, 0, none⟩)) ∧ w'.cell? ⟨w.heap.size + 1, 0, none⟩ = some (.slice (some ad2) N c) ∧ w'.cell? (ad2.add m) = some (.slice A2 n2 c2)) (by kernel_rfl) (KS.out _ kk1) (fun hHeld => ?_)
      refine wpAnyH_take_at (i := 0) rfl rfl (by kernel_rfl) (by kernel_rfl) (by kernel_rfl) (fun _ _ _ h => h) (Or.inl ⟨by rfl, by (intro w hSw; (try dsimp only at hSw); go_simp; try with_reducible rfl)⟩) (by assumption) ?_
      (try simp only [Act.put, List.setIfInBounds_toArray, List.set_cons_zero, List.set_cons_succ])
      refine wpAnyH_take_at (i := 2) rfl rfl (by kernel_rfl) (by kernel_rfl) (by kernel_rfl) (fun _ _ _ h => h) (Or.inl ⟨by rfl, by (intro w hSw; (try dsimp only at hSw); go_simp; try with_reducible rfl)⟩) (by assumption) ?_
      (try simp only [Act.put, List.setIfInBounds_toArray, List.set_cons_zero, List.set_cons_succ])
      refine wpAnyH_take_at (i := 4) rfl rfl (by kernel_rfl) (by kernel_rfl) (by kernel_rfl) (fun _ _ _ h => h) (Or.inl ⟨by rfl, by (intro w hSw; (try dsimp only at hSw); go_simp; try with_reducible rfl)⟩) (by assumption) ?_
      (try simp only [Act.put, List.setIfInBounds_toArray, List.set_cons_zero, List.set_cons_succ])
      refine wpAnyH_take_at (i := 5) rfl rfl (by kernel_rfl) (by kernel_rfl) (by kernel_rfl) (fun _ _ _ h => h) (Or.inl ⟨by rfl, by (intro w hSw; (try dsimp only at hSw); go_simp; try with_reducible rfl)⟩) (by assumption) ?_
      (try simp only [Act.put, List.setIfInBounds_toArray, List.set_cons_zero, List.set_cons_succ])
      refine wpAnyH_take_at (i := 6) rfl rfl (by kernel_rfl) (by kernel_rfl) (by kernel_rfl) (fun _ _ _ h => h) (Or.inl ⟨by rfl, by (intro w hSw; (try dsimp only at hSw); go_simp; try with_reducible rfl)⟩) (by assumption) ?_
      (try simp only [Act.put, List.setIfInBounds_toArray, List.set_cons_zero, List.set_cons_succ])
      refine wpAnyH_take_at (i := 7) rfl rfl (by kernel_rfl) (by kernel_rfl) (by kernel_rfl) (fun _ _ _ h => h) (Or.inl ⟨by rfl, by (intro w hSw; (try dsimp only at hSw); go_simp; try with_reducible rfl)⟩) (by assumption) ?_
      (try simp only [Act.put, List.setIfInBounds_toArray, List.set_cons_zero, List.set_cons_succ])
      refine wpAnyH_ready (rs := [1,3]) (by kernel_rfl) (by simp) ?_
      refine AllReadyH.cons rfl (fun K hK => ?_) (AllReadyH.cons rfl (fun K hK => ?_) AllReadyH.nil)
      · go_simp
        refine hK.out _ _ (by (first | exact KS.out _ (by assumption) | (simp only [Act.put]; exact KS.out _ (by assumption)))) (fun hHeld => ?_)
        clear hK K
        (try simp only [Act.put, List.setIfInBounds_toArray, List.set_cons_zero, List.set_cons_succ])
        refine wpAnyH_ready (rs := [3]) (by kernel_rfl) (by simp) ?_
        refine AllReadyH.cons rfl (fun K hK => ?_) AllReadyH.nil
        go_simp
        refine (HFD.out _ (KE.out _ kk1).2.1.2.1).mono ?_
        rintro _ _ ⟨rfl, rfl⟩
        refine hK.out _ _ (by (first | exact KS.out _ (by assumption) | (simp only [Act.put]; exact KS.out _ (by assumption)))) (fun hHeld => ?_)
        clear hK K
        (try simp only [Act.put, List.setIfInBounds_toArray, List.set_cons_zero, List.set_cons_succ])
        refine wpAnyH_ready (rs := [8]) (by kernel_rfl) (by simp) ?_
        refine AllReadyH.cons rfl (fun K hK => ?_) AllReadyH.nil
        go_simp
        refine (HEL.out _ (HSX.out _ (KE.out _ kk1).2.2.2.2.2.1) (KE.out _ kk1).2.1.1.c0).mono ?_
        rintro _ w8 ⟨v8, rfl, ho8, hb8⟩
        obtain ⟨A8, n8, c8, rfl, hl8, _, _, _⟩ := ho8.shapeN
        have hb8' := hb11.trans (hb8.mono hb11.size)
        have hbl8 := HBL.out.below hb8'
        have kk8 : W6.grownBy w8 (some ob) := grownBy_trans kk1 (grown_of_below hb8 _)
        have hba := (Below.refl w8.heap.size w8).alloc (Nat.le_refl _) (.cells #[.slice A8 n8 c8] 22)
        have kk8a : W6.grownBy (w8.alloc (.cells #[.slice A8 n8 c8] 22)) (some ob) := grownBy_trans kk8 (grown_of_below hba _)
        have d8 := (hbl8.blk.cell 1).trans (show _ = some (.slice AV nV cV) from rfl)
        have d8a := ((Blk.alloc hbl8.blk (.cells #[.slice A8 n8 c8] 22)).cell 1).trans (show _ = some (.slice AV nV cV) from rfl)
        have HB8 := Lib.hid (And.intro hbl8 (ho8.more (Nat.le_trans HBL.out.sz hb11.size)))
        clear ho8 hl8 hb8 hb8' hbl8 hba
        refine hK.out _ _ (by (first | exact KS.out _ (by assumption) | (simp only [Act.put]; exact KS.out _ (by assumption)))) (fun hHeld => ?_)
        clear hK K
        (try simp only [Act.put, List.setIfInBounds_toArray, List.set_cons_zero, List.set_cons_succ])
        refine wpAnyH_ready (rs := [9]) (by kernel_rfl) (by simp) ?_
        refine AllReadyH.cons rfl (fun K hK => ?_) AllReadyH.nil
        go_simp
        refine hK.out _ _ (by (first | exact KS.out _ (by assumption) | (simp only [Act.put]; exact KS.out _ (by assumption)))) (fun hHeld => ?_)
        clear hK K
        (try simp only [Act.put, List.setIfInBounds_toArray, List.set_cons_zero, List.set_cons_succ])
        refine wpAnyH_ready (rs := [10]) (by kernel_rfl) (by simp) ?_
        refine AllReadyH.cons rfl (fun K hK => ?_) AllReadyH.nil
        refine step_appR w8 A8 n8 c8 (by rfl) _ _ (by rfl) B1 _ us (by rfl) (by rfl) HB8.out.1.ro HUS.out HB8.out.1.sz ?_
        intro v9 w9 hg9
        obtain ⟨hq9, hbld9, _⟩ := HB8.out.1.push HB8.out.2 hg9
        obtain ⟨A9, n9, c9, rfl, hn9, hc9⟩ := ownR_shape hg9.own
        have kk9 : W6.grownBy w9 (some ob) := grownBy_new kk8 hg9.grown fun j hj => Nat.le_trans HBZ.out (World.ownsRow.lt HB8.out.1.ro j hj).1
        have kk10 : W6.grownBy (w9.setCell ⟨ob, 1, none⟩ (.slice A9 n9 c9)) (some ob) := grownBy_trans kk9 blk_grown
        have d9 := (hq9.cell 1).trans (show _ = some (.slice AV nV cV) from rfl)
        have z9 := hq9.frozen 1
        have HB10 := Lib.hid hbld9
        clear hbld9 hq9 hg9 hn9 hc9
        refine hK.out _ _ (by (first | exact KS.out _ (by assumption) | (simp only [Act.put]; exact KS.out _ (by assumption)))) (fun hHeld => ?_)
        clear hK K
        (try simp only [Act.put, List.setIfInBounds_toArray, List.set_cons_zero, List.set_cons_succ])
        refine wpAnyH_ready (rs := [11]) (by kernel_rfl) (by simp) ?_
        refine AllReadyH.cons rfl (fun K hK => ?_) AllReadyH.nil
        go_simp
        refine hK.out _ _ (by (first | exact KS.out _ (by assumption) | (simp only [Act.put]; exact KS.out _ (by assumption)))) (fun hHeld => ?_)
        clear hK K
        (try simp only [Act.put, List.setIfInBounds_toArray, List.set_cons_zero, List.set_cons_succ])
        refine wpAnyH_ready (rs := [12]) (by kernel_rfl) (by simp) ?_
        refine AllReadyH.cons rfl (fun K hK => ?_) AllReadyH.nil
        go_simp
        refine hK.out _ _ (by (first | exact KS.out _ (by assumption) | (simp only [Act.put]; exact KS.out _ (by assumption)))) (fun hHeld => ?_)
        clear hK K
        (try simp only [Act.put, List.setIfInBounds_toArray, List.set_cons_zero, List.set_cons_succ])
        refine wpAnyH_done (by kernel_rfl) ?_ _
        go_wp2
        go_roundw
        case rel => exact ⟨kk + 1, _, _, by rw [HL5.out]; omega, by go_num, by rw [HTK.out]; exact HB10.out, kk10⟩
        case measure => simp [intOf]; omega
      · go_simp
        refine (HFD.out _ (KE.out _ kk1).2.1.2.1).mono ?_
        rintro _ _ ⟨rfl, rfl⟩
        refine hK.out _ _ (by (first | exact KS.out _ (by assumption) | (simp only [Act.put]; exact KS.out _ (by assumption)))) (fun hHeld => ?_)
        clear hK K
        (try simp only [Act.put, List.setIfInBounds_toArray, List.set_cons_zero, List.set_cons_succ])
        refine wpAnyH_ready (rs := [1,8]) (by kernel_rfl) (by simp) ?_
        refine AllReadyH.cons rfl (fun K hK => ?_) (AllReadyH.cons rfl (fun K hK => ?_) AllReadyH.nil)
        · go_simp
          refine hK.out _ _ (by (first | exact KS.out _ (by assumption) | (simp only [Act.put]; exact KS.out _ (by assumption)))) (fun hHeld => ?_)
          clear hK K
          (try simp only [Act.put, List.setIfInBounds_toArray, List.set_cons_zero, List.set_cons_succ])
          refine wpAnyH_ready (rs := [8]) (by kernel_rfl) (by simp) ?_
          refine AllReadyH.cons rfl (fun K hK => ?_) AllReadyH.nil
          go_simp
          refine (HEL.out _ (HSX.out _ (KE.out _ kk1).2.2.2.2.2.1) (KE.out _ kk1).2.1.1.c0).mono ?_
          rintro _ w8 ⟨v8, rfl, ho8, hb8⟩
          obtain ⟨A8, n8, c8, rfl, hl8, _, _, _⟩ := ho8.shapeN
          have hb8' := hb11.trans (hb8.mono hb11.size)
          have hbl8 := HBL.out.below hb8'
          have kk8 : W6.grownBy w8 (some ob) := grownBy_trans kk1 (grown_of_below hb8 _)
          have hba := (Below.refl w8.heap.size w8).alloc (Nat.le_refl _) (.cells #[.slice A8 n8 c8] 22)
          have kk8a : W6.grownBy (w8.alloc (.cells #[.slice A8 n8 c8] 22)) (some ob) := grownBy_trans kk8 (grown_of_below hba _)
          have d8 := (hbl8.blk.cell 1).trans (show _ = some (.slice AV nV cV) from rfl)
          have d8a := ((Blk.alloc hbl8.blk (.cells #[.slice A8 n8 c8] 22)).cell 1).trans (show _ = some (.slice AV nV cV) from rfl)
          have HB8 := Lib.hid (And.intro hbl8 (ho8.more (Nat.le_trans HBL.out.sz hb11.size)))
          clear ho8 hl8 hb8 hb8' hbl8 hba
          refine hK.out _ _ (by (first | exact KS.out _ (by assumption) | (simp only [Act.put]; exact KS.out _ (by assumption)))) (fun hHeld => ?_)
          clear hK K
          (try simp only [Act.put, List.setIfInBounds_toArray, List.set_cons_zero, List.set_cons_succ])
          refine wpAnyH_ready (rs := [9]) (by kernel_rfl) (by simp) ?_
          refine AllReadyH.cons rfl (fun K hK => ?_) AllReadyH.nil
          go_simp
          refine hK.out _ _ (by (first | exact KS.out _ (by assumption) | (simp only [Act.put]; exact KS.out _ (by assumption)))) (fun hHeld => ?_)
          clear hK K
          (try simp only [Act.put, List.setIfInBounds_toArray, List.set_cons_zero, List.set_cons_succ])
          refine wpAnyH_ready (rs := [10]) (by kernel_rfl) (by simp) ?_
          refine AllReadyH.cons rfl (fun K hK => ?_) AllReadyH.nil
          refine step_appR w8 A8 n8 c8 (by rfl) _ _ (by rfl) B1 _ us (by rfl) (by rfl) HB8.out.1.ro HUS.out HB8.out.1.sz ?_
          intro v9 w9 hg9
          obtain ⟨hq9, hbld9, _⟩ := HB8.out.1.push HB8.out.2 hg9
          obtain ⟨A9, n9, c9, rfl, hn9, hc9⟩ := ownR_shape hg9.own
          have kk9 : W6.grownBy w9 (some ob) := grownBy_new kk8 hg9.grown fun j hj => Nat.le_trans HBZ.out (World.ownsRow.lt HB8.out.1.ro j hj).1
          have kk10 : W6.grownBy (w9.setCell ⟨ob, 1, none⟩ (.slice A9 n9 c9)) (some ob) := grownBy_trans kk9 blk_grown
          have d9 := (hq9.cell 1).trans (show _ = some (.slice AV nV cV) from rfl)
          have z9 := hq9.frozen 1
          have HB10 := Lib.hid hbld9
          clear hbld9 hq9 hg9 hn9 hc9
          refine hK.out _ _ (by (first | exact KS.out _ (by assumption) | (simp only [Act.put]; exact KS.out _ (by assumption)))) (fun hHeld => ?_)
          clear hK K
          (try simp only [Act.put, List.setIfInBounds_toArray, List.set_cons_zero, List.set_cons_succ])
          refine wpAnyH_ready (rs := [11]) (by kernel_rfl) (by simp) ?_
          refine AllReadyH.cons rfl (fun K hK => ?_) AllReadyH.nil
          go_simp
          refine hK.out _ _ (by (first | exact KS.out _ (by assumption) | (simp only [Act.put]; exact KS.out _ (by assumption)))) (fun hHeld => ?_)
          clear hK K
          (try simp only [Act.put, List.setIfInBounds_toArray, List.set_cons_zero, List.set_cons_succ])
          refine wpAnyH_ready (rs := [12]) (by kernel_rfl) (by simp) ?_
          refine AllReadyH.cons rfl (fun K hK => ?_) AllReadyH.nil
          go_simp
          refine hK.out _ _ (by (first | exact KS.out _ (by assumption) | (simp only [Act.put]; exact KS.out _ (by assumption)))) (fun hHeld => ?_)
          clear hK K
          (try simp only [Act.put, List.setIfInBounds_toArray, List.set_cons_zero, List.set_cons_succ])
          refine wpAnyH_done (by kernel_rfl) ?_ _
          go_wp2
          go_roundw
          case rel => exact ⟨kk + 1, _, _, by rw [HL5.out]; omega, by go_num, by rw [HTK.out]; exact HB10.out, kk10⟩
          case measure => simp [intOf]; omega
        · go_simp
          refine (HEL.out _ (HSX.out _ (KE.out _ kk1).2.2.2.2.2.1) (KE.out _ kk1).2.1.1.c0).mono ?_
          rintro _ w8 ⟨v8, rfl, ho8, hb8⟩
          obtain ⟨A8, n8, c8, rfl, hl8, _, _, _⟩ := ho8.shapeN
          have hb8' := hb11.trans (hb8.mono hb11.size)
          have hbl8 := HBL.out.below hb8'
          have kk8 : W6.grownBy w8 (some ob) := grownBy_trans kk1 (grown_of_below hb8 _)
          have hba := (Below.refl w8.heap.size w8).alloc (Nat.le_refl _) (.cells #[.slice A8 n8 c8] 22)
          have kk8a : W6.grownBy (w8.alloc (.cells #[.slice A8 n8 c8] 22)) (some ob) := grownBy_trans kk8 (grown_of_below hba _)
          have d8 := (hbl8.blk.cell 1).trans (show _ = some (.slice AV nV cV) from rfl)
          have d8a := ((Blk.alloc hbl8.blk (.cells #[.slice A8 n8 c8] 22)).cell 1).trans (show _ = some (.slice AV nV cV) from rfl)
          have HB8 := Lib.hid (And.intro hbl8 (ho8.more (Nat.le_trans HBL.out.sz hb11.size)))
          clear ho8 hl8 hb8 hb8' hbl8 hba
          refine hK.out _ _ (by (first | exact KS.out _ (by assumption) | (simp only [Act.put]; exact KS.out _ (by assumption)))) (fun hHeld => ?_)
          clear hK K
          (try simp only [Act.put, List.setIfInBounds_toArray, List.set_cons_zero, List.set_cons_succ])
          refine wpAnyH_ready (rs := [1,9]) (by kernel_rfl) (by simp) ?_
          refine AllReadyH.cons rfl (fun K hK => ?_) (AllReadyH.cons rfl (fun K hK => ?_) AllReadyH.nil)
          · go_simp
            refine hK.out _ _ (by (first | exact KS.out _ (by assumption) | (simp only [Act.put]; exact KS.out _ (by assumption)))) (fun hHeld => ?_)
            clear hK K
            (try simp only [Act.put, List.setIfInBounds_toArray, List.set_cons_zero, List.set_cons_succ])
            refine wpAnyH_ready (rs := [9]) (by kernel_rfl) (by simp) ?_
            refine AllReadyH.cons rfl (fun K hK => ?_) AllReadyH.nil
            go_simp
            refine hK.out _ _ (by (first | exact KS.out _ (by assumption) | (simp only [Act.put]; exact KS.out _ (by assumption)))) (fun hHeld => ?_)
            clear hK K
            (try simp only [Act.put, List.setIfInBounds_toArray, List.set_cons_zero, List.set_cons_succ])
            refine wpAnyH_ready (rs := [10]) (by kernel_rfl) (by simp) ?_
            refine AllReadyH.cons rfl (fun K hK => ?_) AllReadyH.nil
            refine step_appR w8 A8 n8 c8 (by rfl) _ _ (by rfl) B1 _ us (by rfl) (by rfl) HB8.out.1.ro HUS.out HB8.out.1.sz ?_
            intro v9 w9 hg9
            obtain ⟨hq9, hbld9, _⟩ := HB8.out.1.push HB8.out.2 hg9
            obtain ⟨A9, n9, c9, rfl, hn9, hc9⟩ := ownR_shape hg9.own
            have kk9 : W6.grownBy w9 (some ob) := grownBy_new kk8 hg9.grown fun j hj => Nat.le_trans HBZ.out (World.ownsRow.lt HB8.out.1.ro j hj).1
            have kk10 : W6.grownBy (w9.setCell ⟨ob, 1, none⟩ (.slice A9 n9 c9)) (some ob) := grownBy_trans kk9 blk_grown
            have d9 := (hq9.cell 1).trans (show _ = some (.slice AV nV cV) from rfl)
            have z9 := hq9.frozen 1
            have HB10 := Lib.hid hbld9
            clear hbld9 hq9 hg9 hn9 hc9
            refine hK.out _ _ (by (first | exact KS.out _ (by assumption) | (simp only [Act.put]; exact KS.out _ (by assumption)))) (fun hHeld => ?_)
            clear hK K
            (try simp only [Act.put, List.setIfInBounds_toArray, List.set_cons_zero, List.set_cons_succ])
            refine wpAnyH_ready (rs := [11]) (by kernel_rfl) (by simp) ?_
            refine AllReadyH.cons rfl (fun K hK => ?_) AllReadyH.nil
            go_simp
            refine hK.out _ _ (by (first | exact KS.out _ (by assumption) | (simp only [Act.put]; exact KS.out _ (by assumption)))) (fun hHeld => ?_)
            clear hK K
            (try simp only [Act.put, List.setIfInBounds_toArray, List.set_cons_zero, List.set_cons_succ])
            refine wpAnyH_ready (rs := [12]) (by kernel_rfl) (by simp) ?_
            refine AllReadyH.cons rfl (fun K hK => ?_) AllReadyH.nil
            go_simp
            refine hK.out _ _ (by (first | exact KS.out _ (by assumption) | (simp only [Act.put]; exact KS.out _ (by assumption)))) (fun hHeld => ?_)
            clear hK K
            (try simp only [Act.put, List.setIfInBounds_toArray, List.set_cons_zero, List.set_cons_succ])
            refine wpAnyH_done (by kernel_rfl) ?_ _
            go_wp2
            go_roundw
            case rel => exact ⟨kk + 1, _, _, by rw [HL5.out]; omega, by go_num, by rw [HTK.out]; exact HB10.out, kk10⟩
            case measure => simp [intOf]; omega
          · go_simp
            refine hK.out _ _ (by (first | exact KS.out _ (by assumption) | (simp only [Act.put]; exact KS.out _ (by assumption)))) (fun hHeld => ?_)
            clear hK K
            (try simp only [Act.put, List.setIfInBounds_toArray, List.set_cons_zero, List.set_cons_succ])
            refine wpAnyH_ready (rs := [1]) (by kernel_rfl) (by simp) ?_
            refine AllReadyH.cons rfl (fun K hK => ?_) AllReadyH.nil
            go_simp
            refine hK.out _ _ (by (first | exact KS.out _ (by assumption) | (simp only [Act.put]; exact KS.out _ (by assumption)))) (fun hHeld => ?_)
            clear hK K
            (try simp only [Act.put, List.setIfInBounds_toArray, List.set_cons_zero, List.set_cons_succ])
            refine wpAnyH_ready (rs := [10]) (by kernel_rfl) (by simp) ?_
            refine AllReadyH.cons rfl (fun K hK => ?_) AllReadyH.nil
            refine step_appR w8 A8 n8 c8 (by rfl) _ _ (by rfl) B1 _ us (by rfl) (by rfl) HB8.out.1.ro HUS.out HB8.out.1.sz ?_
            intro v9 w9 hg9
            obtain ⟨hq9, hbld9, _⟩ := HB8.out.1.push HB8.out.2 hg9
            obtain ⟨A9, n9, c9, rfl, hn9, hc9⟩ := ownR_shape hg9.own
            have kk9 : W6.grownBy w9 (some ob) := grownBy_new kk8 hg9.grown fun j hj => Nat.le_trans HBZ.out (World.ownsRow.lt HB8.out.1.ro j hj).1
            have kk10 : W6.grownBy (w9.setCell ⟨ob, 1, none⟩ (.slice A9 n9 c9)) (some ob) := grownBy_trans kk9 blk_grown
            have d9 := (hq9.cell 1).trans (show _ = some (.slice AV nV cV) from rfl)
            have z9 := hq9.frozen 1
            have HB10 := Lib.hid hbld9
            clear hbld9 hq9 hg9 hn9 hc9
            refine hK.out _ _ (by (first | exact KS.out _ (by assumption) | (simp only [Act.put]; exact KS.out _ (by assumption)))) (fun hHeld => ?_)
            clear hK K
            (try simp only [Act.put, List.setIfInBounds_toArray, List.set_cons_zero, List.set_cons_succ])
            refine wpAnyH_ready (rs := [11]) (by kernel_rfl) (by simp) ?_
            refine AllReadyH.cons rfl (fun K hK => ?_) AllReadyH.nil
            go_simp
            refine hK.out _ _ (by (first | exact KS.out _ (by assumption) | (simp only [Act.put]; exact KS.out _ (by assumption)))) (fun hHeld => ?_)
            clear hK K
            (try simp only [Act.put, List.setIfInBounds_toArray, List.set_cons_zero, List.set_cons_succ])
            refine wpAnyH_ready (rs := [12]) (by kernel_rfl) (by simp) ?_
            refine AllReadyH.cons rfl (fun K hK => ?_) AllReadyH.nil
            go_simp
            refine hK.out _ _ (by (first | exact KS.out _ (by assumption) | (simp only [Act.put]; exact KS.out _ (by assumption)))) (fun hHeld => ?_)
            clear hK K
            (try simp only [Act.put, List.setIfInBounds_toArray, List.set_cons_zero, List.set_cons_succ])
            refine wpAnyH_done (by kernel_rfl) ?_ _
            go_wp2
            go_roundw
            case rel => exact ⟨kk + 1, _, _, by rw [HL5.out]; omega, by go_num, by rw [HTK.out]; exact HB10.out, kk10⟩
            case measure => simp [intOf]; omega
    · have ek : kk = n5 := by omega
      rw [show (openR p ls T).take kk = openR p ls T by rw [ek, ← HL5.out, ← openR_len p ls T, List.take_length]] at hbld
      have hJ0 : NodesJ (fun g => rootD (digL p k) (rowF ls) g.1 g.2) wr ob (.slice A5 n5 n5) (.slice AV nV cV) [] wr := ⟨.slice none 0 0, [], hbld.blk, World.ownsRow_nil _ _ _ _, UsAt.nil _, ⟨rfl, rfl, rfl, Nat.le_refl _, fun _ _ _ => rfl⟩⟩
      have hEE : ∀ W', wr.grownBy W' (some ob) → Fld W' S b p ∧ Spg W' s b k z oo ∧ TB W' A ls ∧ W'.cell? ⟨w.heap.size, 0, none⟩ = some (.pointer (some ⟨s, 0, none⟩)) ∧ W'.cell? ⟨w.heap.size + 1, 0, none⟩ = some (.slice A N c) := fun W' hg => by
        have h := KE.out W' (grownBy_trans hgr hg)
        exact ⟨h.2.1.1, h.2.1.2.1, h.2.1.2.2, h.2.2.1, h.2.2.2.1⟩
      have hid := hidden_gen 37 (enters_of Try.func37 (by kernel_rfl) rfl) #[.pointer (some ⟨ob, 0, none⟩), .pointer (some ⟨w.heap.size, 0, none⟩), .pointer (some ⟨w.heap.size + 1, 0, none⟩)] N HLS.out.2.2.1 A5 n5 n5 T HL5.out (by have := HLS.out.2.2.2.2.1; have := HL5.out; have := HLS.out.2.2.1; omega) HLS.out.2.2.2.2.2.1 (NodesJ (fun g => rootD (digL p k) (rowF ls) g.1 g.2) wr ob (.slice A5 n5 n5) (.slice AV nV cV)) (fun pre W W' h hb => h.below hb) (fun pre W h => by
          obtain ⟨_, _, _, _, _, hg⟩ := h
          exact (KE.out W (grownBy_trans hgr hg)).1)
        (fun pre a m W hj hpl h1 ha => open2_any p S b s k z oo A N c ls HLS.out.1 HLS.out.2.2.1 (fun l hl => by have := HLS.out.2.2.2.1 l hl; omega) ob _ _ _ _ wr hbld.blk.lt hEE pre a m W hj hpl h1 ha) N 0 HLS.out.2.1 (by omega) [] wr (Nat.zero_le _) hJ0
      rw [show Gp 0 (0 + N) = .agg #[vi 0, vi (N : Int)] by simp [Gp]] at hid
      have HID := Lib.hid hid
      have HBL := Lib.hid hbld
      have HGR := Lib.hid hgr
      have d0 := (hbld.blk.cell 0).trans (show _ = some (.slice A5 n5 n5) from rfl)
      have e3 := (KE.out _ hgr).2.2.2.1
      clear hid hJ0 hEE hbld hgr
      go_wp2_with fail
      refine HID.out.mono ?_
      rintro _ w9 ⟨⟨r, rfl⟩, hj9, _⟩
      rw [List.nil_append] at hj9
      obtain ⟨nv, vs, hB9, hN9, hU9, hg9⟩ := hj9
      obtain ⟨AN, nN, cN, rfl, hnN, hcN⟩ := ownR_shape hN9
      have HCA := Lib.hid (fun W => clipR_any AV nV cV hcV W (ownR_none HBL.out.ro))
      have HCN := Lib.hid (fun W => clipR_any AN nN cN hcN W (ownR_none hN9))
      have kk9 := grownBy_trans HGR.out hg9
      have hg9d : wr.grownBy w9.drew (some ob) := grownBy_trans hg9 (grown_of_below (below_drewN (Below.refl _ _) 1) _)
      have d9 := (hB9.cell 0).trans (show _ = some (.slice A5 n5 n5) from rfl)
      have k9 := KE.out _ kk9
      have hob1 := HOB1.out.1
      have hz := HE.out.hz
      have h0 := HO0.out
      have hc5 := HC5.out.2
      have d1 := (hB9.cell 1).trans (show _ = some (.slice AV nV cV) from rfl)
      have d2 := (hB9.cell 2).trans (show _ = some (.slice AN nN cN) from rfl)
      have z1 := hB9.frozen 1
      have z2 := hB9.frozen 2
      have hO9 : Blk w9.drew ob 25 #[.slice A5 n5 n5, .slice AV nV cV, .slice AN nN cN] := hB9
      have hQ9 : Blk w9.drew (w.heap.size + 1 + 1) 25 #[.slice none 0 0, .slice none 0 0, .slice none 0 0] := k9.2.2.2.2.1.ho
      have hgs : w9.drew.grownBy ((w9.drew.setCell ⟨ob, 1, none⟩ (.slice AV nV nV)).setCell ⟨ob, 2, none⟩ (.slice AN nN nN)) (some ob) := grownBy_trans blk_grown blk_grown
      have hfin := opened_fin (q := w.heap.size + 1 + 1) (ob := ob) (w := w) (w5 := w9.drew) (Own.drewN k9.2.2.2.2.2.2 1) (by omega) (fun g hg => by have := (k9.2.2.2.2.2.2.lt g hg).1; omega) (ownR_past HBL.out.ro hg9d hob1) (rowsOwn_past HBL.out.rr hg9d hob1) hob1 hN9 hU9 HBL.out.blk.lt (by omega) hO9 hQ9 hgs (by omega) (below_drewN k9.2.2.2.2.2.1 1)
        n5 nV nN (Nat.le_refl _) (by have := HLS.out.2.2.2.2.1; have := HLS.out.2.2.1; omega) (by rw [openR_len]; have := HLS.out.2.2.2.2.1; have := HLS.out.2.2.1; omega) (by have := hidL_le' T N 0 HLS.out.2.1; rw [List.length_map]; have := HLS.out.2.2.1; omega) (fun x hx => by have := HLS.out.2.2.2.2.2.2 x hx; have := HLS.out.2.2.1; constructor <;> omega) (openR_i64 p HPM.out ls T) (openR_r8 p ls T HLS.out.2.2.2.1) (fun t ht => by obtain ⟨g, _, rfl⟩ := List.mem_map.1 ht; exact rootD_len p k _ _ _)
      have HFIN := Lib.hid hfin.tup
      have hgs' : w9.grownBy ((w9.setCell ⟨ob, 1, none⟩ (.slice AV nV nV)).setCell ⟨ob, 2, none⟩ (.slice AN nN nN)) (some ob) := grownBy_trans blk_grown blk_grown
      have hQ10 := Blk.grown k9.2.2.2.2.1.ho hgs' (by intro e; injection e with e; omega)
      obtain ⟨hset, _⟩ := blk_set3 hQ10 (.slice A5 n5 n5) (.slice AV nV nV) (.slice AN nN nN)
      have q0 := (hset.cell 0).trans (show _ = some (.slice A5 n5 n5) from rfl)
      have q1 := (hset.cell 1).trans (show _ = some (.slice AV nV nV) from rfl)
      have q2 := (hset.cell 2).trans (show _ = some (.slice AN nN nN) from rfl)
      have HQ := Lib.hid (And.intro q0 (And.intro q1 q2))
      have f0 := (k9.2.2.2.2.1.ho.cell 0).trans (show _ = some (.slice none 0 0) from rfl)
      have f1 := (k9.2.2.2.2.1.ho.cell 1).trans (show _ = some (.slice none 0 0) from rfl)
      have f2 := (k9.2.2.2.2.1.ho.cell 2).trans (show _ = some (.slice none 0 0) from rfl)
      have y0 := k9.2.2.2.2.1.ho.frozen 0
      have y1 := k9.2.2.2.2.1.ho.frozen 1
      have y2 := k9.2.2.2.2.1.ho.frozen 2
      have hqo : ¬ w.heap.size + 1 + 1 = ob := by omega
      clear hfin hg9d hB9 hN9 hU9 hg9 hO9 hQ9 hgs hgs' hQ10 hset q0 q1 q2 kk9 k9 HID d0 hob1 hz h0 hc5 e3
      go_wp2
      refine wp_region_held_drew (S := fun _ => True) (by kernel_rfl) trivial (fun hHeld => ?_)
      refine wpAnyH_take_at (i := 0) rfl rfl (by kernel_rfl) (by kernel_rfl) (by kernel_rfl) (fun _ _ _ h => h) (Or.inl ⟨by rfl, by (intro w hSw; (try dsimp only at hSw); go_simp; try with_reducible rfl)⟩) (by assumption) ?_
      (try simp only [Act.put, List.setIfInBounds_toArray, List.set_cons_zero, List.set_cons_succ])
      refine wpAnyH_take_at (i := 3) rfl rfl (by kernel_rfl) (by kernel_rfl) (by kernel_rfl) (fun _ _ _ h => h) (Or.inl ⟨by rfl, by (intro w hSw; (try dsimp only at hSw); go_simp; try with_reducible rfl)⟩) (by assumption) ?_
      (try simp only [Act.put, List.setIfInBounds_toArray, List.set_cons_zero, List.set_cons_succ])
      refine wpAnyH_ready (rs := [1,4]) (by kernel_rfl) (by simp) ?_
      refine AllReadyH.cons rfl (fun K hK => ?_) (AllReadyH.cons rfl (fun K hK => ?_) AllReadyH.nil)
      · go_simp
        refine hK.out _ _ trivial (fun hHeld => ?_)
        clear hK K
        (try simp only [Act.put, List.setIfInBounds_toArray, List.set_cons_zero, List.set_cons_succ])
        refine wpAnyH_ready (rs := [2,4]) (by kernel_rfl) (by simp) ?_
        refine AllReadyH.cons rfl (fun K hK => ?_) (AllReadyH.cons rfl (fun K hK => ?_) AllReadyH.nil)
        · go_simp
          refine (HCA.out _).mono ?_
          rintro _ _ ⟨rfl, rfl⟩
          refine hK.out _ _ trivial (fun hHeld => ?_)
          clear hK K
          (try simp only [Act.put, List.setIfInBounds_toArray, List.set_cons_zero, List.set_cons_succ])
          refine wpAnyH_ready (rs := [4]) (by kernel_rfl) (by simp) ?_
          refine AllReadyH.cons rfl (fun K hK => ?_) AllReadyH.nil
          go_simp
          refine hK.out _ _ trivial (fun hHeld => ?_)
          clear hK K
          (try simp only [Act.put, List.setIfInBounds_toArray, List.set_cons_zero, List.set_cons_succ])
          refine wpAnyH_take_at (i := 6) rfl rfl (by kernel_rfl) (by kernel_rfl) (by kernel_rfl) (fun _ _ _ h => h) (Or.inl ⟨by rfl, by (intro w hSw; (try dsimp only at hSw); go_simp; try with_reducible rfl)⟩) (by assumption) ?_
          (try simp only [Act.put, List.setIfInBounds_toArray, List.set_cons_zero, List.set_cons_succ])
          refine wpAnyH_ready (rs := [5]) (by kernel_rfl) (by simp) ?_
          refine AllReadyH.cons rfl (fun K hK => ?_) AllReadyH.nil
          go_simp
          refine (HCN.out _).mono ?_
          rintro _ _ ⟨rfl, rfl⟩
          refine hK.out _ _ trivial (fun hHeld => ?_)
          clear hK K
          (try simp only [Act.put, List.setIfInBounds_toArray, List.set_cons_zero, List.set_cons_succ])
          refine wpAnyH_ready (rs := [7]) (by kernel_rfl) (by simp) ?_
          refine AllReadyH.cons rfl (fun K hK => ?_) AllReadyH.nil
          go_simp
          refine hK.out _ _ trivial (fun hHeld => ?_)
          clear hK K
          (try simp only [Act.put, List.setIfInBounds_toArray, List.set_cons_zero, List.set_cons_succ])
          refine wpAnyH_ready (rs := [8]) (by kernel_rfl) (by simp) ?_
          refine AllReadyH.cons rfl (fun K hK => ?_) AllReadyH.nil
          go_simp
          refine hK.out _ _ trivial (fun hHeld => ?_)
          clear hK K
          (try simp only [Act.put, List.setIfInBounds_toArray, List.set_cons_zero, List.set_cons_succ])
          refine wpAnyH_ready (rs := [9]) (by kernel_rfl) (by simp) ?_
          refine AllReadyH.cons rfl (fun K hK => ?_) AllReadyH.nil
          go_simp
          refine hK.out _ _ trivial (fun hHeld => ?_)
          clear hK K
          (try simp only [Act.put, List.setIfInBounds_toArray, List.set_cons_zero, List.set_cons_succ])
          refine wpAnyH_done (by kernel_rfl) ?_ _
          go_wp2
          obtain ⟨q0, q1, q2⟩ := HQ.out
          exact bodyPost_ret (v := .tuple #[.agg #[.slice A5 n5 n5, .slice AV nV nV, .slice AN nN nN], .nilIface]) (by simp [results, Try.results13, go_sem, q0, q1, q2]) rfl HFIN.out
        · go_simp
          refine hK.out _ _ trivial (fun hHeld => ?_)
          clear hK K
          (try simp only [Act.put, List.setIfInBounds_toArray, List.set_cons_zero, List.set_cons_succ])
          refine wpAnyH_ready (rs := [2]) (by kernel_rfl) (by simp) ?_
          refine AllReadyH.cons rfl (fun K hK => ?_) AllReadyH.nil
          go_simp
          refine (HCA.out _).mono ?_
          rintro _ _ ⟨rfl, rfl⟩
          refine hK.out _ _ trivial (fun hHeld => ?_)
          clear hK K
          (try simp only [Act.put, List.setIfInBounds_toArray, List.set_cons_zero, List.set_cons_succ])
          refine wpAnyH_take_at (i := 6) rfl rfl (by kernel_rfl) (by kernel_rfl) (by kernel_rfl) (fun _ _ _ h => h) (Or.inl ⟨by rfl, by (intro w hSw; (try dsimp only at hSw); go_simp; try with_reducible rfl)⟩) (by assumption) ?_
          (try simp only [Act.put, List.setIfInBounds_toArray, List.set_cons_zero, List.set_cons_succ])
          refine wpAnyH_ready (rs := [5]) (by kernel_rfl) (by simp) ?_
          refine AllReadyH.cons rfl (fun K hK => ?_) AllReadyH.nil
          go_simp
          refine (HCN.out _).mono ?_
          rintro _ _ ⟨rfl, rfl⟩
          refine hK.out _ _ trivial (fun hHeld => ?_)
          clear hK K
          (try simp only [Act.put, List.setIfInBounds_toArray, List.set_cons_zero, List.set_cons_succ])
          refine wpAnyH_ready (rs := [7]) (by kernel_rfl) (by simp) ?_
          refine AllReadyH.cons rfl (fun K hK => ?_) AllReadyH.nil
          go_simp
          refine hK.out _ _ trivial (fun hHeld => ?_)
          clear hK K
          (try simp only [Act.put, List.setIfInBounds_toArray, List.set_cons_zero, List.set_cons_succ])
          refine wpAnyH_ready (rs := [8]) (by kernel_rfl) (by simp) ?_
          refine AllReadyH.cons rfl (fun K hK => ?_) AllReadyH.nil
          go_simp
          refine hK.out _ _ trivial (fun hHeld => ?_)
          clear hK K
          (try simp only [Act.put, List.setIfInBounds_toArray, List.set_cons_zero, List.set_cons_succ])
          refine wpAnyH_ready (rs := [9]) (by kernel_rfl) (by simp) ?_
          refine AllReadyH.cons rfl (fun K hK => ?_) AllReadyH.nil
          go_simp
          refine hK.out _ _ trivial (fun hHeld => ?_)
          clear hK K
          (try simp only [Act.put, List.setIfInBounds_toArray, List.set_cons_zero, List.set_cons_succ])
          refine wpAnyH_done (by kernel_rfl) ?_ _
          go_wp2
          obtain ⟨q0, q1, q2⟩ := HQ.out
          exact bodyPost_ret (v := .tuple #[.agg #[.slice A5 n5 n5, .slice AV nV nV, .slice AN nN nN], .nilIface]) (by simp [results, Try.results13, go_sem, q0, q1, q2]) rfl HFIN.out
      · go_simp
        refine hK.out _ _ trivial (fun hHeld => ?_)
        clear hK K
        (try simp only [Act.put, List.setIfInBounds_toArray, List.set_cons_zero, List.set_cons_succ])
        refine wpAnyH_ready (rs := [1]) (by kernel_rfl) (by simp) ?_
        refine AllReadyH.cons rfl (fun K hK => ?_) AllReadyH.nil
        go_simp
        refine hK.out _ _ trivial (fun hHeld => ?_)
        clear hK K
        (try simp only [Act.put, List.setIfInBounds_toArray, List.set_cons_zero, List.set_cons_succ])
        refine wpAnyH_ready (rs := [2]) (by kernel_rfl) (by simp) ?_
        refine AllReadyH.cons rfl (fun K hK => ?_) AllReadyH.nil
        go_simp
        refine (HCA.out _).mono ?_
        rintro _ _ ⟨rfl, rfl⟩
        refine hK.out _ _ trivial (fun hHeld => ?_)
        clear hK K
        (try simp only [Act.put, List.setIfInBounds_toArray, List.set_cons_zero, List.set_cons_succ])
        refine wpAnyH_take_at (i := 6) rfl rfl (by kernel_rfl) (by kernel_rfl) (by kernel_rfl) (fun _ _ _ h => h) (Or.inl ⟨by rfl, by (intro w hSw; (try dsimp only at hSw); go_simp; try with_reducible rfl)⟩) (by assumption) ?_
        (try simp only [Act.put, List.setIfInBounds_toArray, List.set_cons_zero, List.set_cons_succ])
        refine wpAnyH_ready (rs := [5]) (by kernel_rfl) (by simp) ?_
        refine AllReadyH.cons rfl (fun K hK => ?_) AllReadyH.nil
        go_simp
        refine (HCN.out _).mono ?_
        rintro _ _ ⟨rfl, rfl⟩
        refine hK.out _ _ trivial (fun hHeld => ?_)
        clear hK K
        (try simp only [Act.put, List.setIfInBounds_toArray, List.set_cons_zero, List.set_cons_succ])
        refine wpAnyH_ready (rs := [7]) (by kernel_rfl) (by simp) ?_
        refine AllReadyH.cons rfl (fun K hK => ?_) AllReadyH.nil
        go_simp
        refine hK.out _ _ trivial (fun hHeld => ?_)
        clear hK K
        (try simp only [Act.put, List.setIfInBounds_toArray, List.set_cons_zero, List.set_cons_succ])
        refine wpAnyH_ready (rs := [8]) (by kernel_rfl) (by simp) ?_
        refine AllReadyH.cons rfl (fun K hK => ?_) AllReadyH.nil
        go_simp
        refine hK.out _ _ trivial (fun hHeld => ?_)
        clear hK K
        (try simp only [Act.put, List.setIfInBounds_toArray, List.set_cons_zero, List.set_cons_succ])
        refine wpAnyH_ready (rs := [9]) (by kernel_rfl) (by simp) ?_
        refine AllReadyH.cons rfl (fun K hK => ?_) AllReadyH.nil
        go_simp
        refine hK.out _ _ trivial (fun hHeld => ?_)
        clear hK K
        (try simp only [Act.put, List.setIfInBounds_toArray, List.set_cons_zero, List.set_cons_succ])
        refine wpAnyH_done (by kernel_rfl) ?_ _
        go_wp2
        obtain ⟨q0, q1, q2⟩ := HQ.out
        exact bodyPost_ret (v := .tuple #[.agg #[.slice A5 n5 n5, .slice AV nV nV, .slice AN nN nN], .nilIface]) (by simp [results, Try.results13, go_sem, q0, q1, q2]) rfl HFIN.out
end Go.Proofs.Ytmhhgaofilaalaa

/- Small facts: a block that was made just now. -/
set_option linter.unusedVariables false
namespace Go.Proofs.Ytmhhgaofilaalaa
open Go.RowKit
theorem Blk.of_eq {w w' : World} {t : TypeId} {cs : Array Value} (h : w' = w.alloc (.cells cs t)) : Blk w' w.heap.size t cs := by rw [h]; exact Blk.new _ _ _
theorem below_of_eq {w w' : World} {o : Obj} (h : w' = w.alloc o) : Below w.heap.size w w' := by rw [h]; exact (Below.refl _ _).alloc (Nat.le_refl _) _
end Go.Proofs.Ytmhhgaofilaalaa

/- Walks: follow and tree.Check, of whatever Opening. -/
set_option linter.unusedVariables false
namespace Go.Proofs.Ytmhhgaofilaalaa
open Go.RowKit Zp
/-- whatever Opening comes in -/
theorem follow_any (p S b s k z : Nat) [NeZero p] (oo : Nat → Nat → Fin p) (AT : Option Addr) (nT cT : Nat) (top : List Int) {w0 : World} (hT : ArgS w0 AT nT cT top) (n : Int)
    {A0 : Option Addr} {n0 c0 : Nat} {l : List Int} {AR : Option Addr} {nR cR : Nat} {rs : List (List Int)} {AN : Option Addr} {nN cN : Nat} {ns : List (List Int)} (w : World) (F : Fld w S b p) (G : Spg w s b k z oo) (sT : SL w AT top) (hx : OpnAt w A0 n0 c0 l AR nR cR rs AN nN cN ns) :
    Calls Try.prog 19 #[.pointer (some ⟨s, 0, none⟩), .slice AT nT cT, vi n, .agg #[.slice A0 n0 c0, .slice AR nR cR, .slice AN nN cN]] w (FollowIs p k l rs ns top n w) := by
  have hTl := hT.len
  have hTr := hT.reach
  have hTc := hT.cap
  have hb0 := hx.b0
  have hbR := hx.bR
  have hbN := hx.bN
  by_cases h : (1 ≤ n ∧ n ≤ 65536) ∧ nT = 4 ∧ nR = n0
  · obtain ⟨⟨h1, h2⟩, rfl, rfl⟩ := h
    obtain ⟨N, rfl⟩ := Int.eq_ofNat_of_zero_le (a := n) (by omega)
    exact follow_yes p S b s k z oo AT cT top hTl hT.i64 N (by omega) (by omega) A0 nR c0 l hx.l0 (by omega) AR cR rs hx.lR (fun x hx' => by have := hx.rR x hx'; omega) AN nN cN ns hx.lN hx.hN (by omega) w F G sT hx.s0 hx.tR hx.tN
  · have hno : ¬ TakenP p k l rs ns top n := fun g => h ⟨g.1, by rw [← hTl]; exact g.2.1, by rw [← hx.lR, ← hx.l0]; exact g.2.2.1⟩
    refine (follow_no s AT nT cT n A0 n0 c0 AR nR cR (.slice AN nN cN) (by omega) (by omega) (by omega) ?_ w).mono fun e w' h => h.is hno
    by_cases c1 : 1 ≤ n ∧ n ≤ 65536
    · by_cases c2 : nT = 4
      · exact .inr (.inr fun c3 => h ⟨c1, c2, c3⟩)
      · exact .inr (.inl c2)
    · exact .inl c1
set_option maxHeartbeats 1000000 in
theorem tcheck_any (p S b s k z : Nat) [NeZero p] (oo : Nat → Nat → Fin p) (AT : Option Addr) (nT cT : Nat) (top : List Int) {w0 : World} (hT : ArgS w0 AT nT cT top) (n : Int)
    {A0 : Option Addr} {n0 c0 : Nat} {l : List Int} {AR : Option Addr} {nR cR : Nat} {rs : List (List Int)} {AN : Option Addr} {nN cN : Nat} {ns : List (List Int)} (w : World) (F : Fld w S b p) (G : Spg w s b k z oo) (sT : SL w AT top) (hx : OpnAt w A0 n0 c0 l AR nR cR rs AN nN cN ns) :
    Calls Try.prog 8 #[.pointer (some ⟨s, 0, none⟩), .slice AT nT cT, vi n, .agg #[.slice A0 n0 c0, .slice AR nR cR, .slice AN nN cN]] w fun e w' => SaysW (.bool (takenB p k l rs ns top n)) w e w' := by
  have hb0 : Below w.heap.size w (w.alloc (.cells #[.slice A0 n0 c0, .slice AR nR cR, .slice AN nN cN] 25)) := (Below.refl _ _).alloc (Nat.le_refl _) _
  have hB7 := Blk.new w 25 #[.slice A0 n0 c0, .slice AR nR cR, .slice AN nN cN]
  have d0 := (hB7.cell 0).trans (show _ = some (.slice A0 n0 c0) from rfl)
  have d1 := (hB7.cell 1).trans (show _ = some (.slice AR nR cR) from rfl)
  have d2 := (hB7.cell 2).trans (show _ = some (.slice AN nN cN) from rfl)
  have HFO := Lib.hid (follow_any p S b s k z oo AT nT cT top hT n _ (F.below hb0 F.le) (G.below hb0 (block_lt_of_cell G.c0)) (sT.below hb0) (hx.below hb0))
  have HB0 := Lib.hid hb0
  clear hb0 hB7 hT F G sT hx
  go_enter Try.func8, Try.ntmps8
  go_wp2_with fail
  refine HFO.out.mono ?_
  rintro _ w1 ⟨v, rfl, _, hb1⟩
  have HB1 := Lib.hid (HB0.out.trans (hb1.mono HB0.out.size))
  clear hb1 d0 d1 d2
  go_wp2
  go_ret
  exact ⟨rfl, HB1.out⟩
end Go.Proofs.Ytmhhgaofilaalaa

/- Walks: attestlaw1's lives: the field of 17; New of any number. -/
set_option linter.unusedVariables false
namespace Go.Proofs.Ytmhhgaofilaalaa
open Go.RowKit Zp

theorem prime17 : IsPrime 17 := by decide
theorem ord17 : Ord (el 17 3) 16 := ord_of_least (by omega) (by decide) (by
  intro k h1 h2
  have : ∀ k : Fin 16, 0 < k.val → pw (el 17 3) k.val ≠ 1 := by decide
  exact this ⟨k, h2⟩ h1)
theorem gen17 : genN 17 = 3 := genN_eq ⟨by omega, by omega, ord17, fun k h1 h2 h3 => by
  have h4 : ¬ pw (el 17 (k : Int)) 8 = 1 := fun h => by
    have := (h3 8).1 h
    omega
  match k, h1, h2 with
  | 1, _, _ => exact h4 (by decide)
  | 2, _, _ => exact h4 (by decide)⟩
theorem inv17 : fv (Zp.inv (el 17 3)) = 6 := by decide

/-- a field's pointer -/
def FieldPtr (p : Nat) [NeZero p] (w : World) (e : Ending) (w' : World) : Prop :=
  ∃ b : Nat, e = .returned (.pointer (some ⟨b, 0, none⟩)) ∧ Fld w' w'.heap.size b p ∧ Below w.heap.size w w'


/-- what there is of New: no field, or one of a prime -/
inductive New_ (p : Int) (w : World) (e : Ending) (w' : World) : Prop
  | no (h : ¬ (3 ≤ p ∧ p ≤ 2147483647 ∧ IsPrime p.toNat)) (he : e = NoField) (hw : w = w')
  | yes (n : Nat) (h : p = n) (h3 : 3 ≤ n) (hm : n ≤ 2147483647) (hp : IsPrime n) (hF : ∀ h0 : NeZero n, MadeField n w e w')

theorem new_all (p : Int) (w : World) : Calls Try.prog 17 #[vi p] w fun e w' => New_ p w e w' := by
  by_cases h : p < 3 ∨ 2147483647 < p
  · exact (new_no p w h).mono fun e w' ⟨h1, h2⟩ => .no (by omega) h1 h2
  · obtain ⟨n, rfl⟩ := Int.eq_ofNat_of_zero_le (a := p) (by omega)
    by_cases hp : IsPrime n
    · haveI := hp.ne
      exact (new_prime n w (by omega) (by omega) hp).mono fun e w' hm => .yes n rfl (by omega) (by omega) hp (fun h0 => hm)
    · exact (new_composite n w (by omega) (by omega) hp).mono fun e w' ⟨h1, h2⟩ => .no (by rintro ⟨_, _, h⟩; exact hp (by simpa using h)) h1 h2

/-- is there a field of this number? -/
abbrev HasField (p : Int) : Prop := 3 ≤ p ∧ p ≤ 2147483647 ∧ IsPrime p.toNat
theorem new_none (p : Int) (w : World) (h : ¬ HasField p) : Calls Try.prog 17 #[vi p] w fun e w' => e = NoField ∧ w = w' :=
  (new_all p w).mono fun e w' h' => by
    cases h' with
    | no _ h1 h2 => exact ⟨h1, h2⟩
    | yes n h1 h3 hm hp _ => exact absurd ⟨by omega, by omega, by rw [h1]; simpa using hp⟩ h
end Go.Proofs.Ytmhhgaofilaalaa

/- law3.plain: a sponge, or none. -/
set_option linter.unusedVariables false
namespace Go.Proofs.Ytmhhgaofilaalaa
open Go.RowKit Zp

set_option maxHeartbeats 2000000 in
theorem spnew_none (p S b : Nat) [NeZero p] (h23 : p < 23) (w : World) (F : Fld w S b p) :
    Calls Try.prog 18 #[.pointer (some ⟨b, 0, none⟩)] w fun e w' => e = .returned (.tuple #[.pointer none, .iface 72 (.int .i64 3)]) ∧ w = w' := by
  have hcb := F.c0
  have tq : ((p : Int) < 23) = True := by simp; omega
  go_enter Try.func18, Try.ntmps18
  go_wp2_with (go_at_call 43; refine (p_any p b _ (by exact hcb)).mono ?_; rintro _ _ ⟨rfl, rfl⟩)
  go_ret2
  exact ⟨rfl, rfl⟩
/-- what there is of plain: no sponge, or one -/
inductive Plain3 (p : Int) (w : World) (e : Ending) (w' : World) : Prop
  | no (h : ¬ (HasField p ∧ 23 ≤ p)) (he : e = .returned (.pointer none)) (hw : Below w.heap.size w w')
  | yes (n : Nat) (h : p = n) (h23 : 23 ≤ n) (hm : n ≤ 2147483647) (hp : IsPrime n) (hw : Below w.heap.size w w')
      (hF : ∀ h0 : NeZero n, ∃ (S s b k z : Nat) (oo : Nat → Nat → Fin n), e = .returned (.pointer (some ⟨s, 0, none⟩)) ∧ Fld w' S b n ∧ Spg w' s b k z oo ∧ w.heap.size ≤ s ∧ s < w'.heap.size)
set_option maxHeartbeats 2000000 in
theorem plain3_any (p : Int) (w : World) : Calls Try.prog 6 #[vi p] w fun e w' => Plain3 p w e w' := by
  by_cases h : HasField p
  · obtain ⟨n, rfl⟩ := Int.eq_ofNat_of_zero_le (a := p) (by have := h.1; omega)
    have hp : IsPrime n := by simpa using h.2.2
    haveI := hp.ne
    have hN := new_prime n w (by have := h.1; omega) (by have := h.2.1; omega) hp
    have HN := Lib.hid hN
    have HH := Lib.hid h
    clear hN h
    by_cases h23 : 23 ≤ n
    · have H2 := Lib.hid h23
      clear h23
      go_enter Try.func6, Try.ntmps6
      go_wp2_with (first | (go_at_call 17; refine (HN.out).mono ?_; rintro _ w1 ⟨b, rfl, hF, hb1, hlb⟩; have hF1 := Lib.hid hF; have HB1 := Lib.hid hb1; clear hF hb1) | (go_at_call 18; refine (spnew_any n w1.heap.size b H2.out w1 hF1.out).mono ?_; rintro _ w2 ⟨rfl, hS, hb2⟩; have HS := Lib.hid hS; have HB2 := Lib.hid hb2; clear hS hb2))
      go_ret
      refine .yes n rfl H2.out (by have := HH.out.2.1; omega) hp (HB1.out.trans (HB2.out.mono HB1.out.size)) fun h0 => ?_
      obtain ⟨k, z, oo, hS⟩ := HS.out
      exact ⟨w1.heap.size, w1.heap.size, b, k, z, oo, rfl, hF1.out.below HB2.out (Nat.le_refl _), hS, HB1.out.size, block_lt_of_cell hS.c0⟩
    · have H2 := Lib.hid (show n < 23 by omega)
      clear h23
      go_enter Try.func6, Try.ntmps6
      go_wp2_with (first | (go_at_call 17; refine (HN.out).mono ?_; rintro _ w1 ⟨b, rfl, hF, hb1, hlb⟩; have hF1 := Lib.hid hF; have HB1 := Lib.hid hb1; clear hF hb1) | (go_at_call 18; refine (spnew_none n w1.heap.size b H2.out w1 hF1.out).mono ?_; rintro _ w2 ⟨rfl, rfl⟩))
      go_ret
      exact .no (fun h => by have := H2.out; have := h.2; omega) rfl HB1.out
  · have HN := Lib.hid (new_none p w h)
    have HH := Lib.hid h
    clear h
    go_enter Try.func6, Try.ntmps6
    go_wp2_with (go_at_call 17; refine (HN.out).mono ?_; rintro _ _ ⟨rfl, rfl⟩)
    go_ret
    exact .no (fun h => HH.out h.1) rfl (Below.refl _ _)
end Go.Proofs.Ytmhhgaofilaalaa

/- law3.lives: there is a sponge of 97. -/
set_option linter.unusedVariables false
namespace Go.Proofs.Ytmhhgaofilaalaa
open Go.RowKit Zp

theorem prime97 : IsPrime 97 := by decide
theorem sl_lit (w : World) (xs : List Int) : SL (w.alloc (.cells (xs.map vi).toArray 3)) (some ⟨w.heap.size, 0, none⟩) xs := ⟨by simp, fun _ => ⟨_, rfl, by rw [World.size_alloc]; show w.heap.size < w.heap.size + 1; omega, fun j u hu => by
  rw [Addr.add_mid, Nat.zero_add, (Blk.new w _ _).cell, List.getElem?_toArray]
  exact hu⟩⟩
set_option maxRecDepth 100000 in
set_option maxHeartbeats 2000000 in
theorem lives3_any (w : World) : Calls Try.prog 5 #[] w fun e w' => e = .returned (.bool true) ∧ Below w.heap.size w w' := by
  go_enter Try.func5, Try.ntmps5
  go_wp2_with fail
  refine (plain3_any 97 w).mono ?_
  intro e w1 h
  cases h with
  | no h _ _ => exact absurd ⟨⟨by omega, by omega, prime97⟩, by omega⟩ h
  | yes n hn h23 hm hp hw hF =>
    have e97 : n = 97 := by omega
    subst e97
    obtain ⟨S, s, b, k, z, oo, rfl, F, G, hs1, hs2⟩ := hF inferInstance
    have hk : k = 5 := power_97 G.k2 G.least G.cop
    subst hk
    have HF := Lib.hid F
    have HG := Lib.hid G
    have HW := Lib.hid hw
    have hb2 : Below w1.heap.size w1 (w1.alloc (.cells #[vi 5] 3)) := (Below.refl _ _).alloc (Nat.le_refl _) _
    have hpad := pad_any 97 S b s 5 z oo (some ⟨w1.heap.size, 0, none⟩) 1 1 [5] rfl (by intro n hn; simp at hn; subst hn; constructor <;> omega) (by omega) (w1.alloc (.cells #[vi 5] 3)) (F.below hb2 F.le) (G.below hb2 hs2) (sl_lit w1 [5])
    have e5 : padL (fvs (els 97 [5])) = [5, 1, 0, 0] := by decide
    rw [e5] at hpad
    have HPAD := Lib.hid hpad
    have HB2 := Lib.hid hb2
    clear F G hw hpad hb2 e5
    go_wp2_with fail
    refine (HPAD.out).mono ?_
    rintro _ w3 ⟨A3, c3, rfl, _, _, hs3, hb3⟩
    have hb13 := HB2.out.trans (hb3.mono HB2.out.size)
    have HB13 := Lib.hid hb13
    have hG3 := HG.out.below hb13 hs2
    have hpw := power_s s b 5 z oo w3 hG3
    have HPW := Lib.hid hpw
    have hb4 : Below w3.heap.size w3 (w3.alloc (.cells #[vi 5, vi 1, vi 0, vi 0] 3)) := (Below.refl _ _).alloc (Nat.le_refl _) _
    have hin := ints_any A3 (some ⟨w3.heap.size, 0, none⟩) c3 4 [5, 1, 0, 0] [5, 1, 0, 0] (by simp) (by simp) (w3.alloc (.cells #[vi 5, vi 1, vi 0, vi 0] 3)) (hs3.below hb4) (sl_lit w3 [5, 1, 0, 0])
    rw [eqB_true rfl] at hin
    have HIN := Lib.hid hin
    have HB4 := Lib.hid hb4
    clear hb13 hG3 hpw hb4 hin hb3 hs3
    go_wp2_with (first | (go_at_call 16; refine (HPW.out).mono ?_; rintro _ _ ⟨rfl, rfl⟩) | (go_at_call 11; refine (HIN.out).mono ?_; rintro _ w5 ⟨rfl, k5, rfl⟩))
    go_ret
    exact ⟨rfl, below_drewN (HW.out.trans ((HB13.out.trans (HB4.out.mono HB13.out.size)).mono HW.out.size)) k5⟩
end Go.Proofs.Ytmhhgaofilaalaa

/- The walk of ref5.Row. -/
set_option linter.unusedVariables false
namespace Go.Proofs.Ytmhhgaofilaalaa
open Go.RowKit Zp
/-- a row is handed back -/
def RowIs (x : List Int) (w : World) (e : Ending) (w' : World) : Prop := ∃ A1 n1 c1, e = .returned (.slice A1 n1 c1) ∧ x.length = n1 ∧ n1 < 9223372036854775808 ∧ SL w' A1 x ∧ (∀ y ∈ x, I64 y) ∧ Below w.heap.size w w'
set_option maxRecDepth 100000 in
set_option maxHeartbeats 1000000 in
theorem rrow5_any (A0 : Option Addr) (n0 c0 : Nat) (l : List Int) (hl : l.length = n0) (hn0 : n0 * 8 ≤ 140737488351232) (AR : Option Addr) (nR cR : Nat) (rs : List (List Int)) (hR : rs.length = nR) (v3 : Value) (place : Int) (j : Nat) (hj : j < l.length) (hjR : j < rs.length) (hlj : l[j] = place) (hno : ∀ t (h : t < l.length), t < j → l[t] ≠ place)
    (w : World) (hs : SL w A0 l) (hT : TB w AR rs) :
    Calls Try.prog 14 #[.agg #[.slice A0 n0 c0, .slice AR nR cR, v3], vi place] w (RowIs rs[j] w) := by
  have hb0 : Below w.heap.size w (w.alloc (.cells #[.slice A0 n0 c0, .slice AR nR cR, v3] 25)) := (Below.refl _ _).alloc (Nat.le_refl _) _
  have hB := Blk.new w 25 #[.slice A0 n0 c0, .slice AR nR cR, v3]
  obtain ⟨W, hW⟩ : ∃ W, W = w.alloc (.cells #[.slice A0 n0 c0, .slice AR nR cR, v3] 25) := ⟨_, rfl⟩
  rw [← hW] at hb0 hB
  have e0 := (hB.cell 0).trans (show _ = some (.slice A0 n0 c0) from rfl)
  have e1 := (hB.cell 1).trans (show _ = some (.slice AR nR cR) from rfl)
  have HW := Lib.hid hW
  have HS := Lib.hid (hs.below hb0)
  obtain ⟨bd, A1, n1, c1, rfl, hb1, hc1, hl1, hn1, hs1, hi1⟩ := (hT.below hb0) j hjR
  have HX := Lib.hid (And.intro hl1 (And.intro hn1 (And.intro hs1 (And.intro hi1 hb0))))
  have HL := Lib.hid hl
  have HN := Lib.hid hn0
  have HNO := Lib.hid hno
  have HJ := Lib.hid (And.intro hj hlj)
  have j1 : (0 : Int) ≤ (j : Int) := by omega
  have j2 : (j : Int) < (nR : Int) := by omega
  have hj0 : j < n0 := by omega
  clear hW hB hb0 hl1 hn1 hs1 hi1 hs hT hl hn0 hno hR
  go_enter Try.func14, Try.ntmps14
  go_upto_region 1 with (fail)
  rw [← HW.out]
  go_wp2
  go_loopw [5] (fun i wr => ∃ t : Nat, t ≤ j ∧ i = vi t ∧ W = wr) (fun i _ => n0 - (intOf i).toNat)
  case atStart => exact ⟨0, Nat.zero_le _, rfl, rfl⟩
  case round =>
    obtain ⟨t, ht, rfl, rfl⟩ := hrel
    have htl : t < l.length := by have := HL.out; omega
    obtain ⟨ad, rfl, _, hcx⟩ := HS.out.at_ htl
    have i1 : (0 : Int) ≤ (t : Int) := by omega
    have i2 : (t : Int) < (n0 : Int) := by omega
    have hwr : IntKind.i64.wrap ((t : Int) + 1) = (t : Int) + 1 := IntWalk.i64_in _ (by have := HN.out; omega)
    by_cases htj : t < j
    · have hne := HNO.out t htl htj
      generalize l[t] = x at hcx hne
      have t1 : (x == place) = false := by rw [beq_eq_false_iff_ne]; exact hne
      clear hne htl
      go_wp2
      go_roundw
      case rel => exact ⟨t + 1, by omega, by go_num, trivial⟩
      case measure => simp [intOf]; omega
    · have et : t = j := by omega
      subst et
      have hx := HJ.out.2
      rw [hx] at hcx
      have t1 : (place == place) = true := by simp
      clear htl hx ht
      go_wp2
      go_ret
      exact ⟨A1, n1, c1, rfl, HX.out.1, HX.out.2.1, HX.out.2.2.1, HX.out.2.2.2.1, HX.out.2.2.2.2⟩
end Go.Proofs.Ytmhhgaofilaalaa

/- Plain: what is opened is taken. -/
set_option linter.unusedVariables false
namespace Go.Proofs.Ytmhhgaofilaalaa
open Go.RowKit Zp
section
variable {p k : Nat} [NeZero p]
/-- a digest asks for a list's elements alone -/
theorem digL_congr {l m : List Int} (h : els p l = els p m) : digL p k l = digL p k m := by
  have hl : l.length = m.length := by
    have := congrArg List.length h
    simpa [els] using this
  unfold digL digE
  have e : padE p l = padE p m := by funext j; unfold padE; rw [h]
  rw [e, hl]
theorem els_cons (x : Int) (l : List Int) : els p (x :: l) = el p x :: els p l := by simp [els]
theorem digL_els (x : Int) (l : List Int) : digL p k (x :: fvs (els p l)) = digL p k (x :: l) := digL_congr (by rw [els_cons, els_cons, els_fvs])
/-- digests are elements -/
theorem els_digL (l : List Int) : fvs (els p (digL p k l)) = digL p k l := by
  unfold digL
  simp only [fvs, els, List.map_map]
  congr 1
  funext j
  simp [el_fv]
theorem els_rootD (r : Nat → List Int) (a n : Nat) : fvs (els p (rootD (digL p k) r a n)) = rootD (digL p k) r a n := by
  by_cases h : 2 ≤ n
  · rw [rootD_two _ _ _ h, els_digL]
  · rw [rootD_one _ _ _ h, els_digL]
theorem rowAt_opened (ls : List (List Int)) {T : List Int} (hT : Asc T) {a : Nat} (hs : shownB T a 1 = true) : rowAt T (openR p ls T) a = fvs (els p (rowF ls a)) := by
  obtain ⟨h1, h2⟩ := shown_one hT a hs
  unfold rowAt openR
  rw [List.getD_eq_getElem?_getD, List.getElem?_map, h2]
  simp
theorem taken_opened (ls : List (List Int)) (l : List Int) (N : Nat) (h1 : 1 ≤ N) (hN : N ≤ 65536) (hin : ∀ x ∈ l, 0 ≤ x ∧ x < (N : Int)) :
    TakenP p k (onceL l) (openR p ls (onceL l)) ((hidL (onceL l) 0 N).map fun g => rootD (digL p k) (rowF ls) g.1 g.2) (rootD (digL p k) (rowF ls) 0 N) N := by
  have hT := asc_onceL l
  have hc := climb_root (digL p k) (fun x => fvs (els p x)) (fun i => fvs (els p (rowAt (onceL l) (openR p ls (onceL l)) i))) (rowF ls) (onceL l) els_digL (fun a n hs _ => by
    rw [rowAt_opened ls hT hs, els_fvs, digL_els]) N 0 [] h1
  rw [List.append_nil] at hc
  refine ⟨⟨by omega, by omega⟩, rootD_len p k _ _ _, openR_len p ls _, ⟨hT, fun x hx => hin x ((mem_onceL x l).1 hx)⟩, by simp, fun x hx => ?_, ?_⟩
  · obtain ⟨g, _, rfl⟩ := List.mem_map.1 hx
    exact rootD_len p k _ _ _
  · rw [Int.toNat_natCast, hc, els_rootD]
end
end Go.Proofs.Ytmhhgaofilaalaa

/- The walk of the law TreeShows. -/
set_option linter.unusedVariables false
namespace Go.Proofs.Ytmhhgaofilaalaa
open Go.RowKit Zp
theorem sameE_els {p : Nat} [NeZero p] (l : List Int) : sameE p l (fvs (els p l)) = true := eqB_true (by rw [els_fvs])
theorem openR_get (p : Nat) [NeZero p] (ls : List (List Int)) (T : List Int) {k m : Nat} (hk : k < T.length) (hm : T[k] = (m : Int)) (hr : m < ls.length) : (openR p ls T)[k]'(by rw [openR_len]; exact hk) = fvs (els p ls[m]) := by
  simp only [openR, List.getElem_map, hm, Int.toNat_natCast, rowF_at hr]
/-- where a place stands -/
theorem asc_place {T : List Int} (hT : Asc T) {x : Int} (hx : x ∈ T) : ∃ j, ∃ h : j < T.length, T[j] = x ∧ ∀ t (ht : t < T.length), t < j → T[t] ≠ x := by
  obtain ⟨j, hj, e⟩ := List.mem_iff_getElem.1 hx
  exact ⟨j, hj, e, fun t ht htj => by have := hT.at_lt htj hj; omega⟩
set_option maxRecDepth 100000 in
set_option maxHeartbeats 4000000 in
theorem tshows_walk (w : World) (p : Int) (hp : I64 p) (A : Option Addr) (N c : Nat) (ls : List (List Int)) (hR : ArgMS w A N c ls) (A0 : Option Addr) (n0 c0 : Nat) (l : List Int) (h0 : ArgS w A0 n0 c0 l) :
    Calls Try.prog 4 #[vi p, .slice A N c, .slice A0 n0 c0] w fun e w' => SaysW (.bool true) w e w' := by
  have HL := Lib.hid (lives3_any w)
  have HRR := Lib.hid hR
  have HPP := Lib.hid h0
  clear hR h0 hp
  go_enter Try.func4, Try.ntmps4
  go_wp2_with fail
  refine (HL.out).mono ?_
  rintro _ w1 ⟨rfl, hb1⟩
  have HB1 := Lib.hid hb1
  clear hb1
  go_wp2_with fail
  refine (plain3_any p w1).mono ?_
  intro e w2 h
  cases h with
  | no h he hw =>
    subst he
    go_wp2
    go_ret
    exact ⟨rfl, HB1.out.trans (hw.mono HB1.out.size)⟩
  | yes q hn h23 hm hpn hw hF =>
    subst hn
    haveI := hpn.ne
    obtain ⟨S, s, b, k, z, oo, rfl, F, G, hs1, hs2⟩ := hF inferInstance
    have HB2 := Lib.hid (HB1.out.trans (hw.mono HB1.out.size))
    have HF := Lib.hid F
    have HG := Lib.hid G
    have HM := Lib.hid hm
    clear F G hF hw hpn h23 hm
    cases hN : rightB (N : Int) with
    | false =>
      have HTR := Lib.hid (tRoot_no (some ⟨s, 0, none⟩) A N c hN (by have := HRR.out.n24; omega) w2)
      clear hN
      go_wp2_with fail
      refine HTR.out.mono ?_
      rintro _ _ ⟨rfl, rfl⟩
      have HZ := HB2
      go_wp2
      go_ret
      exact ⟨rfl, HZ.out⟩
    | true =>
      have h := of_decide_eq_true hN
      have h1 : 1 ≤ N := by omega
      have h2 : N ≤ 65536 := by omega
      have H12 := Lib.hid (And.intro h1 h2)
      have hN2 := HRR.out.m.len
      have htr := tRoot_yes q S b s k z oo A N c ls hN2 h1 h2 (fun t ht => by have := HRR.out.r8 t ht; omega) w2 HF.out HG.out (HRR.out.m.tb.below HB2.out)
      obtain ⟨rl, hrl⟩ : ∃ rl, rl = rootD (digL q k) (rowF ls) 0 N := ⟨_, rfl⟩
      rw [← hrl] at htr
      have HTR := Lib.hid htr
      have HRL := Lib.hid hrl
      clear htr hrl hN h
      go_wp2_with fail
      refine HTR.out.mono ?_
      rintro _ w3 ⟨g3, rfl, _, s3, l3, i3, _, b3⟩
      have HX3 : Hid (ArgS w3 (some ⟨g3, 0, none⟩) 4 4 rl) := Lib.hid ⟨l3, Nat.le_refl _, i3, by omega, s3⟩
      have HB3 := Lib.hid (HB2.out.trans (b3.mono HB2.out.size))
      have HB23 := Lib.hid b3
      clear s3 l3 i3 b3
      cases hin : l.any (outB N) with
      | true =>
        have HTO := Lib.hid (topen_no2 s A N c h1 h2 A0 n0 c0 l HPP.out.len (by have := HPP.out.reach; have := HPP.out.cap; omega) hin w3 (HPP.out.sl.below HB3.out))
        clear hin h1 h2 hN2
        go_wp2_with fail
        refine HTO.out.mono ?_
        rintro _ w4 ⟨rfl, hb4⟩
        obtain ⟨w5, hw5⟩ : ∃ w5, w5 = w4.alloc (.cells #[.slice none 0 0, .slice none 0 0, .slice none 0 0] 25) := ⟨_, rfl⟩
        have hb35 := hb4.trans ((below_of_eq hw5).mono hb4.size)
        have HZ := Lib.hid (HB3.out.trans (hb35.mono HB3.out.size))
        have HW5 := Lib.hid hw5
        clear hb4 hw5 hb35
        go_upto_region 11 with (fail)
        rw [← HW5.out]
        go_wp2
        go_ret
        exact ⟨rfl, HZ.out⟩
      | false =>
        have HIN : Hid (∀ x ∈ l, 0 ≤ x ∧ x < (N : Int)) := Lib.hid fun x hx => by
          have h := List.any_eq_false.1 hin x hx
          unfold outB at h
          exact Classical.byContradiction fun h' => h (decide_eq_true h')
        have HTO := Lib.hid (topen_yes q S b s k z oo A N c ls hN2 h1 h2 HRR.out.r8 A0 n0 c0 l HPP.out.len (by have := HPP.out.reach; have := HPP.out.cap; omega) hin w3 (HF.out.below HB23.out HF.out.le) (HG.out.below HB23.out hs2) (HPP.out.sl.below HB3.out) (HRR.out.m.tb.below HB3.out))
        have htk := takenB_true (taken_opened (p := q) (k := k) ls l N h1 h2 HIN.out)
        rw [← HRL.out] at htk
        have HTK := Lib.hid htk
        clear hin htk h1 h2
        go_wp2_with fail
        refine HTO.out.mono ?_
        rintro _ w4 ⟨A5, n5, c5, AR, nR, cR, AN, nN, cN, rfl, hop, hb4⟩
        obtain ⟨w5, hw5⟩ : ∃ w5, w5 = w4.alloc (.cells #[.slice A5 n5 c5, .slice AR nR cR, .slice AN nN cN] 25) := ⟨_, rfl⟩
        have hop5 := hop.below (below_of_eq hw5)
        have hb35 := hb4.trans ((below_of_eq hw5).mono hb4.size)
        have hb25 := HB23.out.trans (hb35.mono HB23.out.size)
        have HB5 := Lib.hid (HB3.out.trans (hb35.mono HB3.out.size))
        have HO5 := Lib.hid (Blk.of_eq hw5)
        have HTC := Lib.hid (tcheck_any q S b s k z oo (some ⟨g3, 0, none⟩) 4 4 rl HX3.out N w5 (HF.out.below hb25 HF.out.le) (HG.out.below hb25 hs2) (HX3.out.sl.below hb35) hop5)
        have HOP := Lib.hid hop5
        have HW5 := Lib.hid hw5
        clear hw5 hop5 hb35 hb25 hop hb4 hN2
        go_upto_region 11 with (fail)
        rw [← HW5.out]
        have f0 := (HO5.out.cell 0).trans (show _ = some (.slice A5 n5 c5) from rfl)
        have f1 := (HO5.out.cell 1).trans (show _ = some (.slice AR nR cR) from rfl)
        have f2 := (HO5.out.cell 2).trans (show _ = some (.slice AN nN cN) from rfl)
        go_wp2_with fail
        refine HTC.out.mono ?_
        rintro _ w6 ⟨rfl, hb6⟩
        clear f0 f1 f2
        rw [HTK.out]
        have HB6 := Lib.hid (HB5.out.trans (hb6.mono HB5.out.size))
        have hO6 := Blk.below HO5.out hb6 HO5.out.lt
        have d0 := (hO6.cell 0).trans (show _ = some (.slice A5 n5 c5) from rfl)
        have d1 := (hO6.cell 1).trans (show _ = some (.slice AR nR cR) from rfl)
        have d2 := (hO6.cell 2).trans (show _ = some (.slice AN nN cN) from rfl)
        have hop6 := HOP.out.below hb6
        have hRn : nR = n5 := by rw [← hop6.lR, ← hop6.l0, openR_len]
        subst hRn
        have t1 : ((nR : Int) != (nR : Int)) = false := by simp
        have HO6 := Lib.hid hO6
        have HOQ := Lib.hid hop6
        obtain ⟨T, hT⟩ : ∃ T, T = onceL l := ⟨_, rfl⟩
        have HT : Hid (Asc T ∧ (∀ x, x ∈ T ↔ x ∈ l)) := Lib.hid ⟨by rw [hT]; exact asc_onceL l, fun x => by rw [hT, mem_onceL]⟩
        rw [← hT] at HOQ
        have HT5 : Hid (T.length = nR) := Lib.hid HOQ.out.l0
        clear hb6 hO6 hop6 hT
        go_wp2
        go_loopw [13] (fun i wr => ∃ t q : Nat, t ≤ nR ∧ i = vi t ∧ wr = w6.drewN q) (fun i _ => nR - (intOf i).toNat)
        case atStart => exact ⟨0, 0, Nat.zero_le _, rfl, rfl⟩
        case round =>
          obtain ⟨t, qd, ht, rfl, rfl⟩ := hrel
          by_cases hlt : t < nR
          · have htl : t < T.length := by rw [HT5.out]; exact hlt
            have hin := HIN.out _ ((HT.out.2 _).1 (List.getElem_mem htl))
            obtain ⟨ad, rfl, _, hcx⟩ := HOQ.out.s0.at_ htl
            obtain ⟨kk, hkk⟩ := Int.eq_ofNat_of_zero_le hin.1
            have hkl : kk < ls.length := by rw [HRR.out.m.len]; omega
            have htr : t < (openR q ls T).length := by rw [openR_len]; exact htl
            obtain ⟨bd, B1, m1, e1, rfl, hbb, hcb, hlb, hmb, hsb, hib⟩ := HOQ.out.tR t htr
            obtain ⟨cd, C1, m2, e2, rfl, hbc, hcc, hlc, hmc, hsc, hic⟩ := (HRR.out.m.tb.below HB6.out) kk hkl
            have hog := openR_get q ls T htl hkk hkl
            have hie := fun M : Nat => rsame_any q HM.out C1 B1 m2 m1 e2 e1 ls[kk] ((openR q ls T)[t]) hlc hlb (by omega) (by omega) hic hib (w6.drewN (qd + M)) hsc hsb
            rw [hog, sameE_els] at hie
            have HIE := Lib.hid (fun M => (hie M).mono fun e w' h => (show e = .returned (.bool true) ∧ ∃ m, w' = w6.drewN (qd + m) from ⟨h.1, M, h.2.symm⟩))
            rw [hkk] at hcx
            have i1 : (0 : Int) ≤ (t : Int) := by omega
            have i2 : (t : Int) < (nR : Int) := by omega
            have k1 : (0 : Int) ≤ (kk : Int) := by omega
            have k2 : (kk : Int) < (N : Int) := by omega
            have u1 : decide ((kk : Int) < 0) = false := decide_eq_false (by omega)
            have u2 : decide ((N : Int) ≤ (kk : Int)) = false := decide_eq_false (by omega)
            have hwr : IntKind.i64.wrap ((t : Int) + 1) = (t : Int) + 1 := IntWalk.i64_in _ (by have := HOQ.out.b0; omega)
            clear hie hog hlb hmb hsb hib hbb hlc hmc hsc hic hbc htr hkl hkk hin htl
            go_wp2
            go_quiet ((go_at_call 9; exact HIE.out _))
            go_wp2
            go_roundw
            case rel => exact ⟨t + 1, _, by omega, by go_num, rfl⟩
            case measure => simp [intOf]; omega
          · have et : ¬ (t : Int) < (nR : Int) := by omega
            have hb67 : Below w6.heap.size w6 (w6.drewN qd) := below_drewN (Below.refl _ _) qd
            obtain ⟨w7, hw7⟩ : ∃ w7, w7 = w6.drewN qd := ⟨_, rfl⟩
            rw [← hw7] at hb67 ⊢
            have HB67 := Lib.hid hb67
            have d0 : w7.cell? ⟨w4.heap.size, 0, none⟩ = some (.slice A5 nR c5) := by rw [hw7]; exact d0
            clear hw7 hb67 d1 d2 hlt
            go_wp2
            go_loopw [16] (fun i wr => ∃ t : Nat, t ≤ n0 ∧ i = vi t ∧ Below w6.heap.size w6 wr) (fun i _ => n0 - (intOf i).toNat)
            case atStart => exact ⟨0, Nat.zero_le _, rfl, HB67.out⟩
            case round =>
              obtain ⟨t, ht, rfl, hb8⟩ := hrel
              have HB8 := Lib.hid (HB6.out.trans (hb8.mono HB6.out.size))
              by_cases hlt : t < n0
              · have htl : t < l.length := by rw [HPP.out.len]; exact hlt
                have hin := HIN.out _ (List.getElem_mem htl)
                obtain ⟨ad, rfl, _, hcx⟩ := (HPP.out.sl.below HB8.out).at_ htl
                obtain ⟨kk, hkk⟩ := Int.eq_ofNat_of_zero_le hin.1
                have hkl : kk < ls.length := by rw [HRR.out.m.len]; omega
                obtain ⟨j, hj, hjx, hno⟩ := asc_place HT.out.1 ((HT.out.2 _).2 (List.getElem_mem htl))
                rw [hkk] at hjx hno hcx
                have hjr : j < (openR q ls T).length := by rw [openR_len]; exact hj
                have hog := openR_get q ls T hj hjx hkl
                have hrow := fun W (hb : Below w6.heap.size w6 W) => rrow5_any A5 nR c5 T HT5.out HOQ.out.b0 AR nR cR (openR q ls T) HOQ.out.lR (.slice AN nN cN) (kk : Int) j hj hjr hjx hno W (HOQ.out.s0.below hb) (HOQ.out.tR.below hb)
                rw [hog] at hrow
                have HRW := Lib.hid hrow
                have hO8 := Blk.below HO6.out hb8 HO6.out.lt
                have d0 := (hO8.cell 0).trans (show _ = some (.slice A5 nR c5) from rfl)
                have d1 := (hO8.cell 1).trans (show _ = some (.slice AR nR cR) from rfl)
                have d2 := (hO8.cell 2).trans (show _ = some (.slice AN nN cN) from rfl)
                have i1 : (0 : Int) ≤ (t : Int) := by omega
                have i2 : (t : Int) < (n0 : Int) := by omega
                have k1 : (0 : Int) ≤ (kk : Int) := by omega
                have k2 : (kk : Int) < (N : Int) := by omega
                have u1 : decide ((kk : Int) < 0) = false := decide_eq_false (by omega)
                have u2 : decide ((N : Int) ≤ (kk : Int)) = false := decide_eq_false (by omega)
                have hwr : IntKind.i64.wrap ((t : Int) + 1) = (t : Int) + 1 := IntWalk.i64_in _ (by have := HPP.out.reach; have := HPP.out.cap; omega)
                have HC8 := Lib.hid hcx
                have HTL := Lib.hid (And.intro htl (And.intro hkk hkl))
                have HB68 := Lib.hid hb8
                clear hrow hog hno hjx hkk hin hO8 hb8
                go_wp2
                go_region_law (first
                  | (go_simp; go_at_call 14; refine (HRW.out _ (by first | exact below_drewN HB68.out 1 | exact HB68.out)).mono ?_; rintro _ w9 ⟨A9, n9, c9, rfl, hl9, hn9, hs9, hi9, hb9'⟩; have hb9 : Below wr.heap.size wr w9 := ⟨hb9'.os, hb9'.tape, hb9'.output, hb9'.size, hb9'.block⟩))
                all_goals
                  have HB9 := Lib.hid (HB68.out.trans (hb9.mono HB68.out.size))
                  have hb09 := HB6.out.trans (HB9.out.mono HB6.out.size)
                  obtain ⟨ad', hade, _, hcx9⟩ := (HPP.out.sl.below hb09).at_ HTL.out.1
                  injection hade with hade
                  subst hade
                  rw [HTL.out.2.1] at hcx9
                  obtain ⟨cd, C1, m2, e2, rfl, hbc, hcc, hlc, hmc, hsc, hic⟩ := (HRR.out.m.tb.below hb09) kk HTL.out.2.2
                  have hie := rsame_any q HM.out C1 A9 m2 n9 e2 c9 ls[kk] _ hlc hl9 (by omega) (by omega) hic hi9 w9 hsc hs9
                  rw [sameE_els] at hie
                  have HIE := Lib.hid hie
                  clear hie hlc hmc hsc hic hbc hl9 hn9 hs9 hi9 hb9' hb9 d0 d1 d2 hb09 hcx
                  go_wp2_with fail
                  refine HIE.out.mono ?_
                  rintro _ _ ⟨rfl, rfl⟩
                  go_wp2
                  go_roundw
                  case rel => exact ⟨t + 1, by omega, by go_num, HB9.out⟩
                  case measure => simp [intOf]; omega
              · have et2 : ¬ (t : Int) < (n0 : Int) := by omega
                go_wp2
                go_ret
                exact ⟨rfl, HB8.out⟩
end Go.Proofs.Ytmhhgaofilaalaa
