/- A bundle of texts: Wm, Wn, Fo, Fp4, Fq. -/
import Derived.Test.YteceghbjjnknbaaGreatQ07
import Derived.Test.YteceghbjjnknbaaGreatQ06
import Derived.ChangeKeysEq
set_option linter.unusedVariables false
set_option linter.unusedSimpArgs false
namespace Go.Proofs.YteceghbjjnknbaaGreat
open Go.RowKit Zp Go.MapKept Go.ChangeMaps
theorem cell4 {w : World} {g : Nat} {xs : List Int} (h : SL w (some ⟨g, 0, none⟩) xs) (k : Nat) (hk : k < xs.length) : w.cell? ⟨g, k, none⟩ = some (vi xs[k]) := by
  obtain ⟨ad, e, _, hc⟩ := h.at_ hk
  injection e with e
  subst e
  have e2 : (⟨g, 0, none⟩ : Addr).add k = ⟨g, k, none⟩ := by
    unfold Addr.add
    split
    · rename_i h0; subst h0; rfl
    · simp
  rw [e2] at hc
  exact hc
def rowAt (l : List Int) (rs : List (List Int)) (a : Nat) : List Int := rs.getD (lowB l a) []
set_option maxRecDepth 100000 in
set_option maxHeartbeats 1000000 in
theorem work_one (p S b s k z y bD bL : Nat) [NeZero p] (oo : Nat → Nat → Fin p) (A0 : Option Addr) (n0 c0 : Nat) (l : List Int) (hl : l.length = n0) (hn0 : n0 ≤ 65536) (hup : Asc l) (AR : Option Addr) (cR : Nat) (rs : List (List Int)) (hrs : rs.length = n0)
    (hR : ∀ x ∈ rs, x.length * 8 + 80 ≤ 140737488355328) (v3 : Value) (m : Nat) (hm : m = 1)
    (a : Nat) (h1 : 1 ≤ m) (ha : a + m ≤ 65536) (hsh : shownB l a m = true) (ns : List (List Int)) (An : Option Addr) (nn cn : Nat) (hnn : ns.length = nn) (hcn : nn ≤ cn) (fD6 fL6 : GF)
    (w : World) (F : Fld w S b p) (G : Spg w s b k z oo) (hSD : S ≤ bD) (hSL : S ≤ bL) (hsD : s < bD) (hsL : s < bL) (Y : Way w y bD bL fD6 fL6) (hp : SL w A0 l) (hQ : TB w AR rs) (hT : TB w An ns) :
    Calls Tryz.prog 118 #[.pointer (some ⟨y, 0, none⟩), .pointer (some ⟨s, 0, none⟩), .agg #[.slice A0 n0 c0, .slice AR n0 cR, v3], Gp a (a + m), .slice An nn cn] w
      (WorkIs y bD bL ((updF fD6 a m (digL p k (0 :: fvs (els p (rowAt l rs a)))), updF fL6 a m (0 :: fvs (els p (rowAt l rs a)))), ns) w) := by
  have hsl := block_lt_of_cell G.c0
  have hpm := F.max
  have hsh1 : shownB l a 1 = true := by rw [hm] at hsh; exact hsh
  obtain ⟨i, hi⟩ : ∃ i, i = lowB l a := ⟨_, rfl⟩
  obtain ⟨hil, _⟩ := shown_one hup a hsh1
  rw [← hi] at hil
  have hir : i < rs.length := by omega
  obtain ⟨ad, A1, n1, c1, rfl, hb1, hc1, hl1, hn1, hs1, hi1⟩ := hQ i hir
  have hrl := hR _ (List.getElem_mem hir)
  have ex : rowAt l rs a = rs[i] := by unfold rowAt; rw [← hi, List.getD_eq_getElem?_getD, List.getElem?_eq_getElem hir]; rfl
  rw [ex]
  generalize rs[i] = x at hl1 hs1 hi1 hrl
  obtain ⟨W, hW⟩ : ∃ W, W = (w.alloc (.cells #[.slice A0 n0 c0, .slice (some ad) n0 cR, v3] 51)).alloc (.cells #[vi a, vi ((a : Int) + (m : Int))] 139) := ⟨_, rfl⟩
  have hb0 : Below w.heap.size w W := by rw [hW]; exact ((Below.refl _ _).alloc (Nat.le_refl _) _).alloc (by simp) _
  have hB7 := (Blk.new w 51 #[.slice A0 n0 c0, .slice (some ad) n0 cR, v3]).alloc (.cells #[vi a, vi ((a : Int) + (m : Int))] 139)
  have hB8 := Blk.new (w.alloc (.cells #[.slice A0 n0 c0, .slice (some ad) n0 cR, v3] 51)) 139 #[vi a, vi ((a : Int) + (m : Int))]
  rw [← hW] at hB7 hB8
  rw [show (w.alloc (.cells #[.slice A0 n0 c0, .slice (some ad) n0 cR, v3] 51)).heap.size = w.heap.size + 1 by simp] at hB8
  have d0 := (hB7.cell 0).trans (show _ = some (.slice A0 n0 c0) from rfl)
  have HSH := Lib.hid (shows_any A0 n0 c0 l hl hn0 hup a m ha W (hp.below hb0))
  rw [hsh] at HSH
  have HBS := Lib.hid (fun W hs => bsearch_any A0 n0 c0 l hl (by omega) hup (a : Int) W hs)
  rw [← hi] at HBS
  have HB0 := Lib.hid hb0
  have HB7 := Lib.hid hB7
  have HB8 := Lib.hid hB8
  have HWE := Lib.hid hW
  have HEL := Lib.hid (fun W' (hs : SL W' A1 x) hc => elements_any p b hpm A1 n1 c1 x hl1 hi1 (by omega) W' hs hc)
  have HF := Lib.hid F
  have HG := Lib.hid G
  have HY := Lib.hid Y
  have HSF := Lib.hid (fun W' (G : Spg W' s b k z oo) => sfield_s s b k z oo W' G)
  have HS1 := Lib.hid hs1
  have HC1 := Lib.hid hc1
  have HTT := Lib.hid hT
  have HP0 := Lib.hid hp
  have HLN := Lib.hid hnn
  have hdl : (fvs (els p x)).length = n1 := by simp [fvs, els, hl1]
  have hdi : ∀ j ∈ fvs (els p x), I64 j := fun j hj => by
    obtain ⟨t, _, rfl⟩ := List.mem_map.1 hj
    exact i64_fv _ hpm
  obtain ⟨d, hd⟩ : ∃ d, d = fvs (els p x) := ⟨_, rfl⟩
  rw [← hd] at hdl hdi HEL ⊢
  have HDL := Lib.hid hdl
  have HDI := Lib.hid hdi
  have i0 : (0 : Int) ≤ (i : Int) := by omega
  have i1 : (i : Int) < (n0 : Int) := by omega
  have HLI := Lib.hid (show n1 * 8 + 80 ≤ 140737488355328 by omega)
  have hta := fun (W : World) (g c : Nat) => run_arrayAt (P := Tryz.prog) (w := W) 171 3 4 (some ⟨g, 0, none⟩) 4 c Tryz.underlying171 (Nat.le_refl _)
  have t1 : ((m : Int) == 1) = true := by subst hm; rfl
  have t2 : ((a : Int) + (m : Int) - (a : Int) == 1) = true := by subst hm; simp; omega
  rw [hW] at d0 HSH
  clear hW hb0 hB7 hB8 hsh hsh1 Y F G hp hQ hT hs1 hc1 hi1 hl1 hnn hd hdl hdi hl hup hi hil hir hrs hR hrl ex hm
  go_enter Tryz.func118, Tryz.ntmps118
  go_wp2_with fail
  refine HSH.out.mono ?_
  rintro _ w3 ⟨rfl, hb3⟩
  rw [← HWE.out] at hb3
  have hb03 : Below w.heap.size w w3 := HB0.out.trans (hb3.mono HB0.out.size)
  have HB03 := Lib.hid hb03
  have hB83 := Blk.below HB8.out hb3 HB8.out.lt
  have hB73 := Blk.below HB7.out hb3 HB7.out.lt
  have e0 := (hB83.cell 0).trans (show _ = some (vi a) from rfl)
  have e1 := (hB83.cell 1).trans (show _ = some (vi ((a : Int) + m)) from rfl)
  have d0 := (hB73.cell 0).trans (show _ = some (.slice A0 n0 c0) from rfl)
  have HB83 := Lib.hid hB83
  have HB73 := Lib.hid hB73
  clear hB83 hB73 hb3 hb03
  go_wp2_with fail
  refine (HBS.out w3 (HP0.out.below HB03.out)).mono ?_
  rintro _ _ ⟨⟨bb, rfl⟩, rfl⟩
  go_wp2_with fail
  clear e0 e1 d0
  have hb33 : Below w3.heap.size w3 w3.drew := below_drewN (Below.refl _ _) 1
  have KX : Hid (∀ W', Below w3.heap.size w3 W' → Fld W' S b p ∧ Spg W' s b k z oo ∧ SL W' A1 x ∧ Way W' y bD bL fD6 fL6 ∧ Below w.heap.size w W') := Lib.hid fun W' hb => by
    have hb' := HB03.out.trans (hb.mono HB03.out.size)
    exact ⟨HF.out.below hb' HF.out.le, HG.out.below hb' hsl, HS1.out.below hb', HY.out.below hb', hb'⟩
  have KS : Hid (∀ W', Below w3.heap.size w3 W' → W'.cell? ⟨w.heap.size, 1, none⟩ = some (.slice (some ad) n0 cR) ∧ W'.cell? (ad.add i) = some (.slice A1 n1 c1)) := Lib.hid fun W' hb => by
    have hq := Blk.below HB73.out hb HB73.out.lt
    have hb' := HB03.out.trans (hb.mono HB03.out.size)
    exact ⟨(hq.cell 1).trans rfl, (hb'.cell (p := ad.add i) hb1).trans HC1.out⟩
  refine wp_region_held_drew (S := fun w' => w'.cell? ⟨w.heap.size, 1, none⟩ = some (.slice (some ad) n0 cR) ∧ w'.cell? (ad.add i) = some (.slice A1 n1 c1)) (by kernel_rfl) (KS.out _ hb33) (fun hHeld => ?_)
  refine tkH 0 ?_
  refine tkH 2 ?_
  refine tkH 3 ?_
  refine tkH 4 ?_
  refine tkH 5 ?_
  refine tkH 6 ?_
  refine stH 1 (fun K hK => ?_)
  go_simp
  refine (HSF.out _ (KX.out _ hb33).2.1).mono ?_
  rintro _ _ ⟨rfl, rfl⟩
  refine hK.out _ _ (by (first | exact KS.out _ (by assumption) | (simp only [Act.put]; exact KS.out _ (by assumption)))) (fun hHeld => ?_)
  clear hK K
  (try simp only [Act.put, List.setIfInBounds_toArray, List.set_cons_zero, List.set_cons_succ])
  refine stH 7 (fun K hK => ?_)
  go_simp
  refine (HEL.out _ (KX.out _ hb33).2.2.1 (KX.out _ hb33).1.c0).mono ?_
  rintro _ w4 ⟨v4, rfl, ho4, hb4⟩
  obtain ⟨A4, n4, c4, rfl, hl4, hnc4, _, hs4⟩ := ho4.shapeN
  have hb34 := hb33.trans (hb4.mono hb33.size)
  have hb35 := hb34.alloc hb34.size (.cells #[.slice A4 n4 c4] 25)
  have hlen4 : n4 * 8 + 80 ≤ 140737488355328 := by have := HDL.out; have := HLI.out; omega
  have hj := joined_any 0 (some ⟨w4.heap.size, 0, none⟩) 1 1 [d] rfl (by omega) (by simp; omega) (w4.alloc (.cells #[.slice A4 n4 c4] 25)) (tb_lit1 hs4 hl4 (by omega) HDI.out)
  rw [show [d].flatten = d by simp] at hj
  have HJ := Lib.hid hj
  have HL4 := Lib.hid (And.intro hl4 hlen4)
  clear hj hs4 ho4 hl4 hlen4 hnc4 hb4
  refine hK.out _ _ (by (first | exact KS.out _ (by assumption) | (simp only [Act.put]; exact KS.out _ (by assumption)))) (fun hHeld => ?_)
  clear hK K
  (try simp only [Act.put, List.setIfInBounds_toArray, List.set_cons_zero, List.set_cons_succ])
  refine stH 8 (fun K hK => ?_)
  go_simp
  refine hK.out _ _ (by (first | exact KS.out _ (by assumption) | (simp only [Act.put]; exact KS.out _ (by assumption)))) (fun hHeld => ?_)
  clear hK K
  (try simp only [Act.put, List.setIfInBounds_toArray, List.set_cons_zero, List.set_cons_succ])
  refine stH 9 (fun K hK => ?_)
  go_simp
  refine HJ.out.mono ?_
  rintro _ w6 ⟨v6, rfl, ho6, hb6⟩
  obtain ⟨A5, n5, c5, rfl, hl5, _, _, hs5⟩ := ho6.shapeN
  have hb36 := hb35.trans (hb6.mono hb35.size)
  have hL5 : n5 * 8 + 64 ≤ 140737488355328 ∧ 0 < n5 := by have := HL4.out; simp at hl5; omega
  obtain ⟨L, hL⟩ : ∃ L, L = 0 :: d := ⟨_, rfl⟩
  rw [← hL] at hl5 hs5
  have hLI : ∀ j ∈ L, I64 j := by
    rw [hL]
    intro j hj
    rcases List.mem_cons.1 hj with rfl | hj
    · constructor <;> omega
    · exact HDI.out j hj
  have HL5 := Lib.hid (And.intro hl5 (And.intro hLI hL5))
  have HEQ := Lib.hid hL
  have hx6 := KX.out _ hb36
  have HX6 := Lib.hid (And.intro hx6.1 (And.intro hx6.2.1 (And.intro hs5 (And.intro hx6.2.2.2.1 (GrowM.of (c := bD) (m := bL) hx6.2.2.2.2)))))
  have HB86 := Lib.hid (Blk.below HB83.out hb36 HB83.out.lt)
  clear hL hl5 hs5 hLI hL5 hx6 ho6 hb6
  refine hK.out _ _ (by (first | exact KS.out _ (by assumption) | (simp only [Act.put]; exact KS.out _ (by assumption)))) (fun hHeld => ?_)
  clear hK K
  (try simp only [Act.put, List.setIfInBounds_toArray, List.set_cons_zero, List.set_cons_succ])
  refine stH 10 (fun K hK => ?_)
  go_simp
  refine hK.out _ _ (KS.out _ hb36) (fun hHeld => ?_)
  clear hK K
  (try simp only [Act.put, List.setIfInBounds_toArray, List.set_cons_zero, List.set_cons_succ])
  refine wpAnyH_done (by kernel_rfl) ?_ _
  clear hHeld KX KS hb33 hb34 hb35 hb36
  go_wp2_with fail
  have hb66 : Below w6.heap.size w6 w6.drew := below_drewN (Below.refl _ _) 1
  have k66 : GrowM w6 w6.drew bD bL := GrowM.of hb66
  have HHS := Lib.hid (fun W' (F : Fld W' S b p) (G : Spg W' s b k z oo) (hs : SL W' A5 L) => (hash_any p S b s k z oo A5 n5 c5 L HL5.out.1 HL5.out.2.1 HL5.out.2.2.1 W' F G hs).mono fun e w' h => h.root F.max)
  have KX : Hid (∀ W', Below w6.heap.size w6 W' → Fld W' S b p ∧ Spg W' s b k z oo ∧ SL W' A5 L ∧ Way W' y bD bL fD6 fL6) := Lib.hid fun W' hb => ⟨HX6.out.1.below hb HX6.out.1.le, HX6.out.2.1.below hb (block_lt_of_cell HX6.out.2.1.c0), HX6.out.2.2.1.below hb, HX6.out.2.2.2.1.below hb⟩
  have KS : Hid (∀ W', GrowM w6 W' bD bL → W'.cell? ⟨y, 0, none⟩ = some (.map (some bD)) ∧ W'.cell? ⟨y, 1, none⟩ = some (.map (some bL)) ∧ W'.cell? ⟨w.heap.size + 1, 0, none⟩ = some (vi a) ∧ W'.cell? ⟨w.heap.size + 1, 1, none⟩ = some (vi ((a : Int) + (m : Int)))) := Lib.hid fun W' hb => by
    have hmD := HX6.out.2.2.2.1.mapD
    have hmL := HX6.out.2.2.2.1.mapL
    have hq := hb.blk hmD hmL HB86.out
    have ho := hb.blk hmD hmL HX6.out.2.2.2.1.obj
    exact ⟨(ho.cell 0).trans rfl, (ho.cell 1).trans rfl, (hq.cell 0).trans rfl, (hq.cell 1).trans rfl⟩
  refine wp_region_held_drew (S := fun w' => w'.cell? ⟨y, 0, none⟩ = some (.map (some bD)) ∧ w'.cell? ⟨y, 1, none⟩ = some (.map (some bL)) ∧ w'.cell? ⟨w.heap.size + 1, 0, none⟩ = some (vi a) ∧ w'.cell? ⟨w.heap.size + 1, 1, none⟩ = some (vi ((a : Int) + (m : Int)))) (by kernel_rfl) (KS.out _ k66) (fun hHeld => ?_)
  refine tkH 0 ?_
  refine tkH 1 ?_
  refine tkH 2 ?_
  refine tkH 3 ?_
  refine tkH 4 ?_
  refine tkH 5 ?_
  refine tkH 6 ?_
  refine tkH 7 ?_
  refine tkH 8 ?_
  refine tkH 9 ?_
  refine tkH 10 ?_
  refine tkH 11 ?_
  refine tkH 12 ?_
  refine stH 13 (fun K hK => ?_)
  go_simp
  refine (HHS.out _ (KX.out _ hb66).1 (KX.out _ hb66).2.1 (KX.out _ hb66).2.2.1).mono ?_
  rintro _ w7 ⟨g7, rfl, hx7, s7, l7, i7, n7, hb7⟩
  have hb67 : Below w6.heap.size w6 w7 := hb66.trans (hb7.mono hb66.size)
  have k67 : GrowM w6 w7 bD bL := GrowM.of hb67
  obtain ⟨d7, hd7⟩ : ∃ d7, d7 = digL p k L := ⟨_, rfl⟩
  rw [← hd7] at s7 l7 i7
  have HD7 := Lib.hid hd7
  obtain ⟨x0, x1, x2, x3, hdx⟩ := four_of l7
  rw [hdx] at s7 HD7
  have c0 := cell4 s7 0 (by simp)
  have c1 := cell4 s7 1 (by simp)
  have c2 := cell4 s7 2 (by simp)
  have c3 := cell4 s7 3 (by simp)
  simp only [List.getElem_cons_zero, List.getElem_cons_succ] at c0 c1 c2 c3
  clear s7 l7 i7 hd7 hdx hx7 d7
  obtain ⟨v0, v1, t0, t1, u1, u2, u3, u4, HP⟩ := (KX.out _ hb67).2.2.2.putBoth h1 ha [x0, x1, x2, x3] L (.slice A5 n5 c5) ⟨A5, n5, c5, rfl, HL5.out.1, HL5.out.2.2.2, by have := HL5.out.2.2.1; omega, (KX.out _ hb67).2.2.1, HL5.out.2.1⟩
  have HPP := Lib.hid HP
  have r1 := HP.r1
  have r2 := HP.r2
  have r3 := HP.r3
  have r4 := HP.r4
  change (Instr.entryStore _ _ _ (.agg #[vi x0, vi x1, vi x2, vi x3])).run _ _ = _ at r4
  have k61 := k67.trans HP.g1
  have k62 := k67.trans HP.g2
  have k63 := k67.trans HP.g3
  have k64 := k67.trans HP.g4
  clear HP hb7
  refine hK.out _ _ (by (first | exact KS.out _ (by assumption) | (simp only [Act.put]; exact KS.out _ (by assumption)))) (fun hHeld => ?_)
  clear hK K
  (try simp only [Act.put, List.setIfInBounds_toArray, List.set_cons_zero, List.set_cons_succ])
  refine stH 14 (fun K hK => ?_)
  go_simp
  refine hK.out _ _ (by (first | exact KS.out _ (by assumption) | (simp only [Act.put]; exact KS.out _ (by assumption)))) (fun hHeld => ?_)
  clear hK K
  (try simp only [Act.put, List.setIfInBounds_toArray, List.set_cons_zero, List.set_cons_succ])
  refine stH 15 (fun K hK => ?_)
  go_simp
  refine hK.out _ _ (by (first | exact KS.out _ (by assumption) | (simp only [Act.put]; exact KS.out _ (by assumption)))) (fun hHeld => ?_)
  clear hK K
  (try simp only [Act.put, List.setIfInBounds_toArray, List.set_cons_zero, List.set_cons_succ])
  refine stH 16 (fun K hK => ?_)
  go_simp
  refine hK.out _ _ (by (first | exact KS.out _ (by assumption) | (simp only [Act.put]; exact KS.out _ (by assumption)))) (fun hHeld => ?_)
  clear hK K
  (try simp only [Act.put, List.setIfInBounds_toArray, List.set_cons_zero, List.set_cons_succ])
  refine stH 17 (fun K hK => ?_)
  go_simp
  refine hK.out _ _ (by (first | exact KS.out _ (by assumption) | (simp only [Act.put]; exact KS.out _ (by assumption)))) (fun hHeld => ?_)
  clear hK K
  (try simp only [Act.put, List.setIfInBounds_toArray, List.set_cons_zero, List.set_cons_succ])
  refine stH 18 (fun K hK => ?_)
  go_simp
  refine hK.out _ _ (by (first | exact KS.out _ (by assumption) | (simp only [Act.put]; exact KS.out _ (by assumption)))) (fun hHeld => ?_)
  clear hK K
  (try simp only [Act.put, List.setIfInBounds_toArray, List.set_cons_zero, List.set_cons_succ])
  refine stH 19 (fun K hK => ?_)
  go_simp
  refine hK.out _ _ (by (first | exact KS.out _ (by assumption) | (simp only [Act.put]; exact KS.out _ (by assumption)))) (fun hHeld => ?_)
  clear hK K
  (try simp only [Act.put, List.setIfInBounds_toArray, List.set_cons_zero, List.set_cons_succ])
  refine stH 20 (fun K hK => ?_)
  go_simp
  refine hK.out _ _ (by (first | exact KS.out _ (by assumption) | (simp only [Act.put]; exact KS.out _ (by assumption)))) (fun hHeld => ?_)
  clear hK K
  (try simp only [Act.put, List.setIfInBounds_toArray, List.set_cons_zero, List.set_cons_succ])
  refine stH 21 (fun K hK => ?_)
  go_simp
  refine hK.out _ _ (KS.out _ k64) (fun hHeld => ?_)
  clear hK K
  (try simp only [Act.put, List.setIfInBounds_toArray, List.set_cons_zero, List.set_cons_succ])
  refine wpAnyH_done (by kernel_rfl) ?_ _
  clear hHeld r1 r2 r3 r4 c0 c1 c2 c3 HHS KX KS
  have hgm : GrowM w u4 bD bL := HX6.out.2.2.2.2.trans k64
  have HFIN : Hid (Way u4 y bD bL (updF fD6 a m [x0, x1, x2, x3]) (updF fL6 a m L) ∧ GrowM w u4 bD bL ∧ TB u4 An ns) := Lib.hid ⟨HPP.out.way, hgm, HTT.out.growM hgm HY.out.mapD HY.out.mapL⟩
  clear hgm k61 k62 k63 k64 k66 k67 hb66 hb67
  go_wp2
  go_ret
  rw [← HEQ.out, ← HD7.out]
  exact ⟨_, _, _, rfl, HLN.out, hcn, HFIN.out.2.2, HFIN.out.1, HFIN.out.2.1⟩
end Go.Proofs.YteceghbjjnknbaaGreat

namespace Go.Proofs.YteceghbjjnknbaaGreat
open Go.RowKit Zp Go.MapKept Go.ChangeMaps
theorem arr_sl {w : World} {g : Nat} {x0 x1 x2 x3 : Int} (h : Blk w g 171 #[vi x0, vi x1, vi x2, vi x3]) : SL w (some ⟨g, 0, none⟩) [x0, x1, x2, x3] :=
  ⟨rfl, fun _ => ⟨_, rfl, h.lt, fun j u hu => by
    have e2 : (⟨g, 0, none⟩ : Addr).add j = ⟨g, j, none⟩ := by
      unfold Addr.add
      split
      · rename_i h0; subst h0; rfl
      · simp
    rw [e2, h.cell j]
    match j, hu with
    | 0, hu => exact hu
    | 1, hu => exact hu
    | 2, hu => exact hu
    | 3, hu => exact hu⟩⟩
theorem climb_all {P : Int → Prop} {H E : List Int → List Int} {row : Nat → List Int} {places : List Int} (hH : ∀ l, ∀ x ∈ H l, P x) (hE : ∀ l, ∀ x ∈ E l, P x) (n a : Nat) (ns : List (List Int)) : ∀ x ∈ (climbD H E row places a n ns).1, P x := by
  rw [climbD]
  split
  · split
    · exact hH _
    · exact hH _
  · exact hE _
theorem i64_els {p : Nat} [NeZero p] (hm : p ≤ 2147483647) (l : List Int) : ∀ x ∈ fvs (els p l), I64 x := fun x hx => by
  obtain ⟨t, _, rfl⟩ := List.mem_map.1 hx
  exact i64_fv _ hm
set_option maxRecDepth 100000 in
set_option maxHeartbeats 1000000 in
theorem work_any (p S b s k z y bD bL : Nat) [NeZero p] (oo : Nat → Nat → Fin p) (A0 : Option Addr) (n0 c0 : Nat) (l : List Int) (hl : l.length = n0) (hn0 : n0 ≤ 65536) (hup : Asc l) (AR : Option Addr) (cR : Nat) (rs : List (List Int)) (hrs : rs.length = n0)
    (hR : ∀ x ∈ rs, x.length * 8 + 80 ≤ 140737488355328) (v3 : Value) (hSD : S ≤ bD) (hSL : S ≤ bL) (hsD : s < bD) (hsL : s < bL) :
    ∀ (m a : Nat), 1 ≤ m → a + m ≤ 65536 → ∀ (ns : List (List Int)) (An : Option Addr) (nn cn : Nat), ns.length = nn → nn ≤ cn → (∀ x ∈ ns, x.length = 4) → (hidL l a m).length ≤ ns.length → ∀ (fD fL : GF), Four fD →
    ∀ (w : World), Fld w S b p → Spg w s b k z oo → Way w y bD bL fD fL → SL w A0 l → TB w AR rs → TB w An ns →
    Calls Tryz.prog 118 #[.pointer (some ⟨y, 0, none⟩), .pointer (some ⟨s, 0, none⟩), .agg #[.slice A0 n0 c0, .slice AR n0 cR, v3], Gp a (a + m), .slice An nn cn] w
      (WorkIs y bD bL (workW (digL p k) (fun x => fvs (els p x)) (fun i => fvs (els p (rowAt l rs i))) l a m (fD, fL) ns) w) := by
  intro m
  induction m using Nat.strongRecOn with
  | ind m ih =>
    intro a h1 ha ns An nn cn hnn hcn hn4 hhid fD fL hF4 w F G Y hp hQ hT
    by_cases hsh : shownB l a m = true
    · by_cases h2 : 2 ≤ m
      · have hlf := leftN_lt h2
        have hsl := block_lt_of_cell G.c0
        have hhid2 := hhid
        rw [hidL_two l hsh h2] at hhid2
        obtain ⟨r1, hr1⟩ : ∃ r1, r1 = workW (digL p k) (fun x => fvs (els p x)) (fun i => fvs (els p (rowAt l rs i))) l a (leftN m) (fD, fL) ns := ⟨_, rfl⟩
        obtain ⟨r2, hr2⟩ : ∃ r2, r2 = workW (digL p k) (fun x => fvs (els p x)) (fun i => fvs (els p (rowAt l rs i))) l (a + leftN m) (m - leftN m) r1.1 r1.2 := ⟨_, rfl⟩
        have hE4 : ∀ x : List Int, x.length = 4 → (fvs (els p x)).length = 4 := fun x hx => by simp [fvs, els, hx]
        have hrest1 := workW_rest (digL p k) (fun x => fvs (els p x)) (fun i => fvs (els p (rowAt l rs i))) l (fD, fL) ns (a := a) (n := leftN m) (by omega)
        rw [← hr1] at hrest1
        have hlen1 : (hidL l (a + leftN m) (m - leftN m)).length ≤ r1.2.length := by rw [hrest1, List.length_drop]; omega
        have hn41 : ∀ x ∈ r1.2, x.length = 4 := fun x hx => hn4 x (by rw [hrest1] at hx; exact List.mem_of_mem_drop hx)
        have hF41 := workW_four (H := digL p k) (E := fun x => fvs (els p x)) (row := fun i => fvs (els p (rowAt l rs i))) (places := l) (fun l => digL_len _ _) hE4 (leftN m) a (fD, fL) ns (by omega) hF4 hn4 (by omega)
        rw [← hr1] at hF41
        have hcl1 := workW_climb (digL p k) (fun x => fvs (els p x)) (fun i => fvs (els p (rowAt l rs i))) l (leftN m) a (fD, fL) ns (by omega)
        have hcl2 := workW_climb (digL p k) (fun x => fvs (els p x)) (fun i => fvs (els p (rowAt l rs i))) l (m - leftN m) (a + leftN m) r1.1 r1.2 (by omega)
        have hfr := workW_far (digL p k) (fun x => fvs (els p x)) (fun i => fvs (els p (rowAt l rs i))) l (m - leftN m) (a + leftN m) r1.1 r1.2 a (leftN m) (by omega)
        rw [← hr1] at hcl1
        rw [← hr2] at hcl2 hfr
        have hF42 := workW_four (H := digL p k) (E := fun x => fvs (els p x)) (row := fun i => fvs (els p (rowAt l rs i))) (places := l) (fun l => digL_len _ _) hE4 (m - leftN m) (a + leftN m) r1.1 r1.2 (by omega) hF41 hn41 hlen1
        rw [← hr2] at hF42
        rw [workW_two _ _ _ _ _ _ hsh h2, ← hr1, ← hr2]
        have hfx : r2.1.1 a (leftN m) = some (climbD (digL p k) (fun x => fvs (els p x)) (fun i => fvs (els p (rowAt l rs i))) l a (leftN m) ns).1 := hfr.1.trans hcl1.1
        have hfy := hcl2.1
        obtain ⟨dx, hdx⟩ : ∃ dx, dx = (climbD (digL p k) (fun x => fvs (els p x)) (fun i => fvs (els p (rowAt l rs i))) l a (leftN m) ns).1 := ⟨_, rfl⟩
        obtain ⟨dy, hdy⟩ : ∃ dy, dy = (climbD (digL p k) (fun x => fvs (els p x)) (fun i => fvs (els p (rowAt l rs i))) l (a + leftN m) (m - leftN m) r1.2).1 := ⟨_, rfl⟩
        rw [← hdx] at hfx
        rw [← hdy] at hfy
        simp only
        rw [hfx, hfy]
        simp only [Option.getD_some]
        have hdx4 := hF42 _ _ _ hfx
        have hdy4 := hF42 _ _ _ hfy
        have hIX : ∀ x ∈ dx, I64 x := by rw [hdx]; exact climb_all (i64_digL F.max) (i64_els F.max) _ _ _
        have hIY : ∀ x ∈ dy, I64 x := by rw [hdy]; exact climb_all (i64_digL F.max) (i64_els F.max) _ _ _
        obtain ⟨j, hj⟩ : ∃ j, j = leftN m := ⟨_, rfl⟩
        have I1 := Lib.hid (fun W (F : Fld W S b p) (G : Spg W s b k z oo) (Y : Way W y bD bL fD fL) hp hQ hT => by have h := ih (leftN m) (by omega) a (by omega) (by omega) ns An nn cn hnn hcn hn4 (by omega) fD fL hF4 W F G Y hp hQ hT; rw [← hr1, ← hj] at h; exact h)
        have I2 : Hid (∀ A' n' c' W, r1.2.length = n' → n' ≤ c' → Fld W S b p → Spg W s b k z oo → Way W y bD bL r1.1.1 r1.1.2 → SL W A0 l → TB W AR rs → TB W A' r1.2 →
            Calls Tryz.prog 118 #[.pointer (some ⟨y, 0, none⟩), .pointer (some ⟨s, 0, none⟩), .agg #[.slice A0 n0 c0, .slice AR n0 cR, v3], .agg #[vi ((a : Int) + (j : Int)), vi ((a : Int) + (m : Int))], .slice A' n' c'] W (WorkIs y bD bL r2 W)) := Lib.hid (fun A' n' c' W e1 e2 F G Y hp hQ hT => by
          have h := ih (m - leftN m) (by omega) (a + leftN m) (by omega) (by omega) r1.2 A' n' c' e1 e2 hn41 hlen1 r1.1.1 r1.1.2 hF41 W F G Y hp hQ hT
          rw [show a + leftN m + (m - leftN m) = a + m by omega, ← hj] at h
          rw [hr2, ← hj]
          simpa [Gp] using h)
        rw [← hj] at hfx hfy hlf
        have HDX := Lib.hid (And.intro hfx hfy)
        obtain ⟨dx0, dx1, dx2, dx3, edx⟩ := four_of hdx4
        obtain ⟨dy0, dy1, dy2, dy3, edy⟩ := four_of hdy4
        subst edx edy
        have HIX := Lib.hid hIX
        have HIY := Lib.hid hIY
        clear hdx hdy hr1 hr2 hhid hhid2 hE4 hrest1 hlen1 hn41 hF41 hcl1 hcl2 hfr hF42 hfx hfy hdx4 hdy4 hIX hIY ih hF4 hn4
        obtain ⟨W, hW⟩ : ∃ W, W = (w.alloc (.cells #[.slice A0 n0 c0, .slice AR n0 cR, v3] 51)).alloc (.cells #[vi a, vi ((a : Int) + (m : Int))] 139) := ⟨_, rfl⟩
        have hb0 : Below w.heap.size w W := by rw [hW]; exact ((Below.refl _ _).alloc (Nat.le_refl _) _).alloc (by simp) _
        have hB7 := (Blk.new w 51 #[.slice A0 n0 c0, .slice AR n0 cR, v3]).alloc (.cells #[vi a, vi ((a : Int) + (m : Int))] 139)
        have hB8 := Blk.new (w.alloc (.cells #[.slice A0 n0 c0, .slice AR n0 cR, v3] 51)) 139 #[vi a, vi ((a : Int) + (m : Int))]
        rw [← hW] at hB7 hB8
        rw [show (w.alloc (.cells #[.slice A0 n0 c0, .slice AR n0 cR, v3] 51)).heap.size = w.heap.size + 1 by simp] at hB8
        have d0 := (hB7.cell 0).trans (show _ = some (.slice A0 n0 c0) from rfl)
        have HSH := Lib.hid (shows_any A0 n0 c0 l hl hn0 hup a m ha W (hp.below hb0))
        rw [hsh] at HSH
        have hhv := fun w => halves_any a m h2 (by omega) w
        rw [← hj] at hhv
        have HHV := Lib.hid hhv
        have HB0 := Lib.hid hb0
        have HB7 := Lib.hid hB7
        have HB8 := Lib.hid hB8
        have HWE := Lib.hid hW
        have HF := Lib.hid F
        have HG := Lib.hid G
        have HY := Lib.hid Y
        have HTT := Lib.hid hT
        have HP0 := Lib.hid hp
        have HQ0 := Lib.hid hQ
        have HLN := Lib.hid hnn
        have hta := fun (W : World) (g c : Nat) => run_arrayAt (P := Tryz.prog) (w := W) 171 3 4 (some ⟨g, 0, none⟩) 4 c Tryz.underlying171 (Nat.le_refl _)
        have t1 : ((m : Int) == 1) = false := by simp; omega
        have t2 : ((a : Int) + (m : Int) - (a : Int) == 1) = false := by simp; omega
        obtain ⟨hj1, hj2, hj3⟩ := hlf
        rw [hW] at d0 HSH
        clear hW hb0 hB7 hB8 hsh hhv Y F G hp hQ hT hnn hl hup hrs hR hj
        go_enter Tryz.func118, Tryz.ntmps118
        go_wp2_with fail
        refine HSH.out.mono ?_
        rintro _ w3 ⟨rfl, hb3⟩
        rw [← HWE.out] at hb3
        have hb03 : Below w.heap.size w w3 := HB0.out.trans (hb3.mono HB0.out.size)
        have HB03 := Lib.hid hb03
        have hB83 := Blk.below HB8.out hb3 HB8.out.lt
        have hB73 := Blk.below HB7.out hb3 HB7.out.lt
        have e0 := (hB83.cell 0).trans (show _ = some (vi a) from rfl)
        have e1 := (hB83.cell 1).trans (show _ = some (vi ((a : Int) + m)) from rfl)
        have d0 := (hB73.cell 0).trans (show _ = some (.slice A0 n0 c0) from rfl)
        have HB83 := Lib.hid hB83
        have HB73 := Lib.hid hB73
        clear hB83 hB73 hb3 hb03
        go_wp2_with fail
        refine (HHV.out w3).mono ?_
        rintro _ w4 ⟨rfl, hb4⟩
        have hb04 := HB03.out.trans (hb4.mono HB03.out.size)
        have HB04 := Lib.hid hb04
        have HB84 := Lib.hid (Blk.below HB83.out hb4 HB83.out.lt)
        have HB74 := Lib.hid (Blk.below HB73.out hb4 HB73.out.lt)
        clear e0 e1 d0 hb4 hb04
        go_wp2_with fail
        obtain ⟨q, hq⟩ : ∃ q, q = w4.heap.size := ⟨_, rfl⟩
        obtain ⟨W5, hW5⟩ : ∃ W5, W5 = (w4.alloc (.cells #[vi a, vi ((a : Int) + j)] 139)).alloc (.cells #[vi ((a : Int) + j), vi ((a : Int) + m)] 139) := ⟨_, rfl⟩
        rw [← hW5, ← hq]
        have hBx := (Blk.new w4 139 #[vi a, vi ((a : Int) + j)]).alloc (.cells #[vi ((a : Int) + j), vi ((a : Int) + m)] 139)
        have hBy := Blk.new (w4.alloc (.cells #[vi a, vi ((a : Int) + j)] 139)) 139 #[vi ((a : Int) + j), vi ((a : Int) + m)]
        rw [← hW5, show (w4.alloc (.cells #[vi a, vi ((a : Int) + j)] 139)).heap.size = q + 1 by simp [hq]] at hBy
        rw [← hW5, ← hq] at hBx
        have hb45 : Below w4.heap.size w4 W5 := by rw [hW5]; exact ((Below.refl _ _).alloc (Nat.le_refl _) _).alloc (by simp) _
        have hb5 : Below w.heap.size w W5 := HB04.out.trans (hb45.mono HB04.out.size)
        have HB5 := Lib.hid hb5
        have KM : Hid (∀ W', GrowM W5 W' bD bL → Fld W' S b p ∧ Spg W' s b k z oo ∧ SL W' A0 l ∧ TB W' AR rs ∧ TB W' An ns ∧ GrowM w W' bD bL ∧ Blk W' (w.heap.size + 1) 139 #[vi a, vi ((a : Int) + m)] ∧ Blk W' w.heap.size 51 #[.slice A0 n0 c0, .slice AR n0 cR, v3] ∧ Blk W' q 139 #[vi a, vi ((a : Int) + j)] ∧ Blk W' (q + 1) 139 #[vi ((a : Int) + j), vi ((a : Int) + m)]) := Lib.hid fun W' hg => by
          have hY5 := HY.out.below HB5.out
          have hm5 := hY5.mapD
          have hn5 := hY5.mapL
          have hg0 : GrowM w W' bD bL := (GrowM.of HB5.out).trans hg
          exact ⟨HF.out.growM hg0 hSD hSL, HG.out.growM hg0 hsD hsL, HP0.out.growM hg0 HY.out.mapD HY.out.mapL, HQ0.out.growM hg0 HY.out.mapD HY.out.mapL, HTT.out.growM hg0 HY.out.mapD HY.out.mapL, hg0,
            hg.blk hm5 hn5 (Blk.below HB84.out hb45 HB84.out.lt), hg.blk hm5 hn5 (Blk.below HB74.out hb45 HB74.out.lt), hg.blk hm5 hn5 hBx, hg.blk hm5 hn5 hBy⟩
        have KS : Hid (∀ W', GrowM W5 W' bD bL → W'.cell? ⟨w.heap.size, 0, none⟩ = some (.slice A0 n0 c0) ∧ W'.cell? ⟨w.heap.size, 1, none⟩ = some (.slice AR n0 cR) ∧ W'.cell? ⟨w.heap.size, 2, none⟩ = some v3 ∧ W'.cell? ⟨q, 0, none⟩ = some (vi a) ∧ W'.cell? ⟨q, 1, none⟩ = some (vi ((a : Int) + j)) ∧ W'.cell? ⟨q + 1, 0, none⟩ = some (vi ((a : Int) + j)) ∧ W'.cell? ⟨q + 1, 1, none⟩ = some (vi ((a : Int) + m))) := Lib.hid fun W' hg => by
          obtain ⟨_, _, _, _, _, _, _, x1, x2, x3⟩ := KM.out W' hg
          exact ⟨(x1.cell 0).trans rfl, (x1.cell 1).trans rfl, (x1.cell 2).trans rfl, (x2.cell 0).trans rfl, (x2.cell 1).trans rfl, (x3.cell 0).trans rfl, (x3.cell 1).trans rfl⟩
        have k55 : GrowM W5 W5.drew bD bL := GrowM.of (below_drewN (Below.refl _ _) 1)
        have HY5 := Lib.hid ((HY.out.below hb5).below (below_drewN (Below.refl W5.heap.size W5) 1))
        clear hBx hBy hb45 hb5 hW5 hq
        refine wp_region_held_drew (S := fun W' => W'.cell? ⟨w.heap.size, 0, none⟩ = some (.slice A0 n0 c0) ∧ W'.cell? ⟨w.heap.size, 1, none⟩ = some (.slice AR n0 cR) ∧ W'.cell? ⟨w.heap.size, 2, none⟩ = some v3 ∧ W'.cell? ⟨q, 0, none⟩ = some (vi a) ∧ W'.cell? ⟨q, 1, none⟩ = some (vi ((a : Int) + j)) ∧ W'.cell? ⟨q + 1, 0, none⟩ = some (vi ((a : Int) + j)) ∧ W'.cell? ⟨q + 1, 1, none⟩ = some (vi ((a : Int) + m))) (by kernel_rfl) (KS.out _ k55) (fun hHeld => ?_)
        refine tkH 0 ?_
        refine tkH 1 ?_
        refine tkH 2 ?_
        refine tkH 3 ?_
        refine tkH 4 ?_
        refine tkH 5 ?_
        refine tkH 6 ?_
        refine tkH 7 ?_
        refine tkH 8 ?_
        refine stH 9 (fun K hK => ?_)
        go_simp
        refine (I1.out W5.drew (KM.out _ k55).1 (KM.out _ k55).2.1 HY5.out (KM.out _ k55).2.2.1 (KM.out _ k55).2.2.2.1 (KM.out _ k55).2.2.2.2.1).mono ?_
        rintro _ wa ⟨A6, n6, c6, rfl, hl6, hc6, hT6, hY6, hg6⟩
        have k56 := k55.trans hg6
        have HR6 := Lib.hid (And.intro hl6 (And.intro hc6 (And.intro hT6 hY6)))
        clear hl6 hc6 hT6 hY6 hg6
        refine hK.out _ _ (by (first | exact KS.out _ (by assumption) | (simp only [Act.put]; exact KS.out _ (by assumption)))) (fun hHeld => ?_)
        clear hK K
        (try simp only [Act.put, List.setIfInBounds_toArray, List.set_cons_zero, List.set_cons_succ])
        refine stH 10 (fun K hK => ?_)
        go_simp
        refine (I2.out A6 n6 c6 wa HR6.out.1 HR6.out.2.1 (KM.out _ k56).1 (KM.out _ k56).2.1 HR6.out.2.2.2 (KM.out _ k56).2.2.1 (KM.out _ k56).2.2.2.1 HR6.out.2.2.1).mono ?_
        rintro _ wb ⟨A7, n7, c7, rfl, hl7, hc7, hT7, hY7, hg7⟩
        have k57 := k56.trans hg7
        have HR7 := Lib.hid (And.intro hl7 (And.intro hc7 (And.intro hT7 hY7)))
        clear hl7 hc7 hT7 hY7 hg7
        refine hK.out _ _ (by (first | exact KS.out _ (by assumption) | (simp only [Act.put]; exact KS.out _ (by assumption)))) (fun hHeld => ?_)
        clear hK K
        (try simp only [Act.put, List.setIfInBounds_toArray, List.set_cons_zero, List.set_cons_succ])
        refine stH 11 (fun K hK => ?_)
        go_simp
        refine hK.out _ _ (KS.out _ k57) (fun hHeld => ?_)
        clear hK K
        (try simp only [Act.put, List.setIfInBounds_toArray, List.set_cons_zero, List.set_cons_succ])
        refine wpAnyH_done (by kernel_rfl) ?_ _
        clear hHeld KS I1 I2
        have HM7 := Lib.hid (KM.out _ k57)
        obtain ⟨⟨fD6, fL6⟩, nsz⟩ := r2
        clear KM k55 k56 k57
        go_wp2_with fail
        have KX : Hid (∀ W', Below wb.heap.size wb W' → Way W' y bD bL fD6 fL6 ∧ Blk W' q 139 #[vi a, vi ((a : Int) + j)] ∧ Blk W' (q + 1) 139 #[vi ((a : Int) + j), vi ((a : Int) + m)]) := Lib.hid fun W' hb => by
          obtain ⟨_, _, _, _, _, _, _, _, x2, x3⟩ := HM7.out
          exact ⟨HR7.out.2.2.2.below hb, Blk.below x2 hb x2.lt, Blk.below x3 hb x3.lt⟩
        have KS : Hid (∀ W', Below wb.heap.size wb W' → W'.cell? ⟨y, 0, none⟩ = some (.map (some bD)) ∧ W'.cell? ⟨q, 0, none⟩ = some (vi a) ∧ W'.cell? ⟨q, 1, none⟩ = some (vi ((a : Int) + j)) ∧ W'.cell? ⟨q + 1, 0, none⟩ = some (vi ((a : Int) + j)) ∧ W'.cell? ⟨q + 1, 1, none⟩ = some (vi ((a : Int) + m)) ∧
            (Instr.lookup 166 (.map (some bD)) (.agg #[vi (a : Int), vi ((a : Int) + (j : Int))]) false).run Tryz.prog W' = .ok (.agg #[vi dx0, vi dx1, vi dx2, vi dx3]) W' ∧
            (Instr.lookup 166 (.map (some bD)) (.agg #[vi ((a : Int) + (j : Int)), vi ((a : Int) + (m : Int))]) false).run Tryz.prog W' = .ok (.agg #[vi dy0, vi dy1, vi dy2, vi dy3]) W') := Lib.hid fun W' hb => by
          obtain ⟨hY, x2, x3⟩ := KX.out W' hb
          have l1 := hY.dig.look (a := a) (m := j) (by omega) (by omega) HDX.out.1
          have l2 := hY.dig.look (a := a + j) (m := m - j) (by omega) (by omega) HDX.out.2
          rw [show a + j + (m - j) = a + m by omega] at l2
          simp only [Int.natCast_add] at l1 l2
          exact ⟨(hY.obj.cell 0).trans rfl, (x2.cell 0).trans rfl, (x2.cell 1).trans rfl, (x3.cell 0).trans rfl, (x3.cell 1).trans rfl, l1, l2⟩
        have hbb : Below wb.heap.size wb wb.drew := below_drewN (Below.refl _ _) 1
        refine wp_region_held_drew (S := fun W' => W'.cell? ⟨y, 0, none⟩ = some (.map (some bD)) ∧ W'.cell? ⟨q, 0, none⟩ = some (vi a) ∧ W'.cell? ⟨q, 1, none⟩ = some (vi ((a : Int) + j)) ∧ W'.cell? ⟨q + 1, 0, none⟩ = some (vi ((a : Int) + j)) ∧ W'.cell? ⟨q + 1, 1, none⟩ = some (vi ((a : Int) + m)) ∧
            (Instr.lookup 166 (.map (some bD)) (.agg #[vi (a : Int), vi ((a : Int) + (j : Int))]) false).run Tryz.prog W' = .ok (.agg #[vi dx0, vi dx1, vi dx2, vi dx3]) W' ∧
            (Instr.lookup 166 (.map (some bD)) (.agg #[vi ((a : Int) + (j : Int)), vi ((a : Int) + (m : Int))]) false).run Tryz.prog W' = .ok (.agg #[vi dy0, vi dy1, vi dy2, vi dy3]) W') (by kernel_rfl) (KS.out _ hbb) (fun hHeld => ?_)
        refine tkH 0 ?_
        refine tkH 1 ?_
        refine tkH 2 ?_
        refine tkH 3 ?_
        refine tkH 4 ?_
        refine tkH 5 ?_
        refine tkH 6 ?_
        refine tkH 7 ?_
        refine tkH 8 ?_
        refine tkH 9 ?_
        refine tkH 10 ?_
        refine tkH 11 ?_
        refine wpAnyH_ready (rs := [12, 13]) (by kernel_rfl) (by simp) ?_
        refine AllReadyH.cons rfl (fun K hK => ?_) (AllReadyH.cons rfl (fun K hK => ?_) AllReadyH.nil)
        · go_simp
          have hA1 : Below wb.heap.size wb (wb.alloc (.cells #[vi 0, vi 0, vi 0, vi 0] 171)).drew := below_drewN ((Below.refl _ _).alloc (Nat.le_refl _) _) 1
          have hA2 : Below wb.heap.size wb ((wb.alloc (.cells #[vi 0, vi 0, vi 0, vi 0] 171)).alloc (.cells #[vi 0, vi 0, vi 0, vi 0] 171)).drew := below_drewN (((Below.refl _ _).alloc (Nat.le_refl _) _).alloc (by simp) _) 1
          have hA3 : Below wb.heap.size wb ((wb.alloc (.cells #[vi dx0, vi dx1, vi dx2, vi dx3] 171)).alloc (.cells #[vi 0, vi 0, vi 0, vi 0] 171)).drew := below_drewN (((Below.refl _ _).alloc (Nat.le_refl _) _).alloc (by simp) _) 1
          have hA4 : Below wb.heap.size wb ((wb.alloc (.cells #[vi dx0, vi dx1, vi dx2, vi dx3] 171)).alloc (.cells #[vi dy0, vi dy1, vi dy2, vi dy3] 171)).drew := below_drewN (((Below.refl _ _).alloc (Nat.le_refl _) _).alloc (by simp) _) 1
          refine hK.out _ _ (by (first | exact KS.out _ (by assumption) | (simp only [Act.put]; exact KS.out _ (by assumption)))) (fun hHeld => ?_)
          clear hK K
          (try simp only [Act.put, List.setIfInBounds_toArray, List.set_cons_zero, List.set_cons_succ])
          refine stH 13 (fun K hK => ?_)
          go_simp
          refine hK.out _ _ (by (first | exact KS.out _ (by assumption) | (simp only [Act.put]; exact KS.out _ (by assumption)))) (fun hHeld => ?_)
          clear hK K
          (try simp only [Act.put, List.setIfInBounds_toArray, List.set_cons_zero, List.set_cons_succ])
          refine stH 14 (fun K hK => ?_)
          go_simp
          refine hK.out _ _ (by (first | exact KS.out _ (by assumption) | (simp only [Act.put]; exact KS.out _ (by assumption)))) (fun hHeld => ?_)
          clear hK K
          (try simp only [Act.put, List.setIfInBounds_toArray, List.set_cons_zero, List.set_cons_succ])
          refine stH 15 (fun K hK => ?_)
          go_simp
          refine hK.out _ _ (KS.out _ hA4) (fun hHeld => ?_)
          clear hK K
          (try simp only [Act.put, List.setIfInBounds_toArray, List.set_cons_zero, List.set_cons_succ])
          refine wpAnyH_done (by kernel_rfl) ?_ _
          have hg1 := (Blk.new wb 171 #[vi dx0, vi dx1, vi dx2, vi dx3]).alloc (.cells #[vi dy0, vi dy1, vi dy2, vi dy3] 171)
          have hg2 := Blk.new (wb.alloc (.cells #[vi dx0, vi dx1, vi dx2, vi dx3] 171)) 171 #[vi dy0, vi dy1, vi dy2, vi dy3]
          rw [show (wb.alloc (.cells #[vi dx0, vi dx1, vi dx2, vi dx3] 171)).heap.size = wb.heap.size + 1 by simp] at hg2
          replace hg1 := hg1.drew
          replace hg2 := hg2.drew
          obtain ⟨g1, eg1⟩ : ∃ g1, g1 = wb.heap.size := ⟨_, rfl⟩
          obtain ⟨g2, eg2⟩ : ∃ g2, g2 = wb.heap.size + 1 := ⟨_, rfl⟩
          obtain ⟨w8, ew8⟩ : ∃ w8, w8 = ((wb.alloc (.cells #[vi dx0, vi dx1, vi dx2, vi dx3] 171)).alloc (.cells #[vi dy0, vi dy1, vi dy2, vi dy3] 171)).drew := ⟨_, rfl⟩
          rw [← ew8, ← eg2, ← eg1]
          rw [← ew8] at hg1 hg2 hA4
          rw [← eg1] at hg1
          rw [← eg2] at hg2
          have HA4 := Lib.hid hA4
          clear hHeld hA1 hA2 hA3 hA4 eg1 eg2 ew8 KS hbb
          go_wp2_with fail
          have hxg1 : SL w8 (some ⟨g1, 0, none⟩) [dx0, dx1, dx2, dx3] := arr_sl hg1
          have hxg2 : SL w8 (some ⟨g2, 0, none⟩) [dy0, dy1, dy2, dy3] := arr_sl hg2
          have hb89 : Below w8.heap.size w8 w8.drew := below_drewN (Below.refl _ _) 1
          have hb89a := hb89.alloc hb89.size (.cells #[.slice (some ⟨g1, 0, none⟩) 4 4, .slice (some ⟨g2, 0, none⟩) 4 4] 25)
          have hj := joined_any 1 (some ⟨w8.heap.size, 0, none⟩) 2 2 [[dx0, dx1, dx2, dx3], [dy0, dy1, dy2, dy3]] rfl (by omega) (by simp) (w8.drew.alloc (.cells #[.slice (some ⟨g1, 0, none⟩) 4 4, .slice (some ⟨g2, 0, none⟩) 4 4] 25)) (tb_lit2 (w := w8.drew) hxg1 rfl (by omega) HIX.out hxg2 rfl (by omega) HIY.out)
          have HJ := Lib.hid hj
          clear hj hxg1 hxg2 hg1 hg2
          refine wp_region_held_drew (S := fun w' => True) (by kernel_rfl) trivial (fun hHeld => ?_)
          refine tkH 0 ?_
          refine tkH 1 ?_
          refine stH 2 (fun K hK => ?_)
          go_simp
          refine hK.out _ _ trivial (fun hHeld => ?_)
          clear hK K
          (try simp only [Act.put, List.setIfInBounds_toArray, List.set_cons_zero, List.set_cons_succ])
          refine stH 3 (fun K hK => ?_)
          go_simp
          refine HJ.out.mono ?_
          rintro _ w6 ⟨v6, rfl, ho6, hb6⟩
          obtain ⟨A5, n5, c5, rfl, hl5, _, _, hs5⟩ := ho6.shapeN
          have hb86 := hb89a.trans (hb6.mono hb89a.size)
          refine hK.out _ _ trivial (fun hHeld => ?_)
          clear hK K
          (try simp only [Act.put, List.setIfInBounds_toArray, List.set_cons_zero, List.set_cons_succ])
          refine stH 4 (fun K hK => ?_)
          go_simp
          refine hK.out _ _ trivial (fun hHeld => ?_)
          clear hK K
          (try simp only [Act.put, List.setIfInBounds_toArray, List.set_cons_zero, List.set_cons_succ])
          refine wpAnyH_done (by kernel_rfl) ?_ _
          have hb76 : Below wb.heap.size wb w6 := HA4.out.trans (hb86.mono HA4.out.size)
          have hL5 : n5 * 8 + 64 ≤ 140737488355328 ∧ 0 < n5 := by simp at hl5; omega
          obtain ⟨L, hL⟩ : ∃ L, L = [1, dx0, dx1, dx2, dx3, dy0, dy1, dy2, dy3] := ⟨_, rfl⟩
          rw [show (1 :: List.flatten [[dx0, dx1, dx2, dx3], [dy0, dy1, dy2, dy3]]) = L by rw [hL]; rfl] at hl5 hs5
          have hLI : ∀ j ∈ L, I64 j := by
            rw [hL]
            intro j hj
            replace hj : j ∈ 1 :: ([dx0, dx1, dx2, dx3] ++ [dy0, dy1, dy2, dy3]) := hj
            rcases List.mem_cons.1 hj with rfl | hj
            · constructor <;> omega
            · rcases List.mem_append.1 hj with hj | hj
              · exact HIX.out j hj
              · exact HIY.out j hj
          have HL5 := Lib.hid (And.intro hl5 (And.intro hLI hL5))
          have HEQ := Lib.hid hL
          have HX6 : Hid (Fld w6 S b p ∧ Spg w6 s b k z oo ∧ SL w6 A5 L ∧ Way w6 y bD bL fD6 fL6 ∧ GrowM w w6 bD bL) := Lib.hid ⟨HM7.out.1.below hb76 HM7.out.1.le, HM7.out.2.1.below hb76 (block_lt_of_cell HM7.out.2.1.c0), hs5, HR7.out.2.2.2.below hb76, HM7.out.2.2.2.2.2.1.trans (GrowM.of hb76)⟩
          have HB86 := Lib.hid (Blk.below HM7.out.2.2.2.2.2.2.1 hb76 HM7.out.2.2.2.2.2.2.1.lt)
          have HT6 := Lib.hid (HR7.out.2.2.1.below hb76)
          clear hL hl5 hs5 hLI hL5 ho6 hb6 hb86 hb76 hb89 hb89a hHeld
          go_wp2_with fail
          have hb66 : Below w6.heap.size w6 w6.drew := below_drewN (Below.refl _ _) 1
          have k66 : GrowM w6 w6.drew bD bL := GrowM.of hb66
          have HHS := Lib.hid (fun W' (F : Fld W' S b p) (G : Spg W' s b k z oo) (hs : SL W' A5 L) => (hash_any p S b s k z oo A5 n5 c5 L HL5.out.1 HL5.out.2.1 HL5.out.2.2.1 W' F G hs).mono fun e w' h => h.root F.max)
          have KX : Hid (∀ W', Below w6.heap.size w6 W' → Fld W' S b p ∧ Spg W' s b k z oo ∧ SL W' A5 L ∧ Way W' y bD bL fD6 fL6) := Lib.hid fun W' hb => ⟨HX6.out.1.below hb HX6.out.1.le, HX6.out.2.1.below hb (block_lt_of_cell HX6.out.2.1.c0), HX6.out.2.2.1.below hb, HX6.out.2.2.2.1.below hb⟩
          have KS : Hid (∀ W', GrowM w6 W' bD bL → W'.cell? ⟨y, 0, none⟩ = some (.map (some bD)) ∧ W'.cell? ⟨y, 1, none⟩ = some (.map (some bL)) ∧ W'.cell? ⟨w.heap.size + 1, 0, none⟩ = some (vi a) ∧ W'.cell? ⟨w.heap.size + 1, 1, none⟩ = some (vi ((a : Int) + (m : Int)))) := Lib.hid fun W' hb => by
            have hmD := HX6.out.2.2.2.1.mapD
            have hmL := HX6.out.2.2.2.1.mapL
            have hq := hb.blk hmD hmL HB86.out
            have ho := hb.blk hmD hmL HX6.out.2.2.2.1.obj
            exact ⟨(ho.cell 0).trans rfl, (ho.cell 1).trans rfl, (hq.cell 0).trans rfl, (hq.cell 1).trans rfl⟩
          refine wp_region_held_drew (S := fun w' => w'.cell? ⟨y, 0, none⟩ = some (.map (some bD)) ∧ w'.cell? ⟨y, 1, none⟩ = some (.map (some bL)) ∧ w'.cell? ⟨w.heap.size + 1, 0, none⟩ = some (vi a) ∧ w'.cell? ⟨w.heap.size + 1, 1, none⟩ = some (vi ((a : Int) + (m : Int)))) (by kernel_rfl) (KS.out _ k66) (fun hHeld => ?_)
          refine tkH 0 ?_
          refine tkH 1 ?_
          refine tkH 2 ?_
          refine tkH 3 ?_
          refine tkH 4 ?_
          refine tkH 5 ?_
          refine tkH 6 ?_
          refine tkH 7 ?_
          refine tkH 8 ?_
          refine tkH 9 ?_
          refine tkH 10 ?_
          refine tkH 11 ?_
          refine tkH 12 ?_
          refine stH 13 (fun K hK => ?_)
          go_simp
          refine (HHS.out _ (KX.out _ hb66).1 (KX.out _ hb66).2.1 (KX.out _ hb66).2.2.1).mono ?_
          rintro _ w7 ⟨g7, rfl, hx7, s7, l7, i7, n7, hb7⟩
          have hb67 : Below w6.heap.size w6 w7 := hb66.trans (hb7.mono hb66.size)
          have k67 : GrowM w6 w7 bD bL := GrowM.of hb67
          obtain ⟨d7, hd7⟩ : ∃ d7, d7 = digL p k L := ⟨_, rfl⟩
          rw [← hd7] at s7 l7 i7
          have HD7 := Lib.hid hd7
          obtain ⟨x0, x1, x2, x3, hdx⟩ := four_of l7
          rw [hdx] at s7 HD7
          have c0 := cell4 s7 0 (by simp)
          have c1 := cell4 s7 1 (by simp)
          have c2 := cell4 s7 2 (by simp)
          have c3 := cell4 s7 3 (by simp)
          simp only [List.getElem_cons_zero, List.getElem_cons_succ] at c0 c1 c2 c3
          clear s7 l7 i7 hd7 hdx hx7 d7
          obtain ⟨v0, v1, t0, t1, u1, u2, u3, u4, HP⟩ := (KX.out _ hb67).2.2.2.putBoth h1 ha [x0, x1, x2, x3] L (.slice A5 n5 c5) ⟨A5, n5, c5, rfl, HL5.out.1, HL5.out.2.2.2, by have := HL5.out.2.2.1; omega, (KX.out _ hb67).2.2.1, HL5.out.2.1⟩
          have HPP := Lib.hid HP
          have r1 := HP.r1
          have r2 := HP.r2
          have r3 := HP.r3
          have r4 := HP.r4
          change (Instr.entryStore _ _ _ (.agg #[vi x0, vi x1, vi x2, vi x3])).run _ _ = _ at r4
          have k61 := k67.trans HP.g1
          have k62 := k67.trans HP.g2
          have k63 := k67.trans HP.g3
          have k64 := k67.trans HP.g4
          clear HP hb7
          refine hK.out _ _ (by (first | exact KS.out _ (by assumption) | (simp only [Act.put]; exact KS.out _ (by assumption)))) (fun hHeld => ?_)
          clear hK K
          (try simp only [Act.put, List.setIfInBounds_toArray, List.set_cons_zero, List.set_cons_succ])
          refine stH 14 (fun K hK => ?_)
          go_simp
          refine hK.out _ _ (by (first | exact KS.out _ (by assumption) | (simp only [Act.put]; exact KS.out _ (by assumption)))) (fun hHeld => ?_)
          clear hK K
          (try simp only [Act.put, List.setIfInBounds_toArray, List.set_cons_zero, List.set_cons_succ])
          refine stH 15 (fun K hK => ?_)
          go_simp
          refine hK.out _ _ (by (first | exact KS.out _ (by assumption) | (simp only [Act.put]; exact KS.out _ (by assumption)))) (fun hHeld => ?_)
          clear hK K
          (try simp only [Act.put, List.setIfInBounds_toArray, List.set_cons_zero, List.set_cons_succ])
          refine stH 16 (fun K hK => ?_)
          go_simp
          refine hK.out _ _ (by (first | exact KS.out _ (by assumption) | (simp only [Act.put]; exact KS.out _ (by assumption)))) (fun hHeld => ?_)
          clear hK K
          (try simp only [Act.put, List.setIfInBounds_toArray, List.set_cons_zero, List.set_cons_succ])
          refine stH 17 (fun K hK => ?_)
          go_simp
          refine hK.out _ _ (by (first | exact KS.out _ (by assumption) | (simp only [Act.put]; exact KS.out _ (by assumption)))) (fun hHeld => ?_)
          clear hK K
          (try simp only [Act.put, List.setIfInBounds_toArray, List.set_cons_zero, List.set_cons_succ])
          refine stH 18 (fun K hK => ?_)
          go_simp
          refine hK.out _ _ (by (first | exact KS.out _ (by assumption) | (simp only [Act.put]; exact KS.out _ (by assumption)))) (fun hHeld => ?_)
          clear hK K
          (try simp only [Act.put, List.setIfInBounds_toArray, List.set_cons_zero, List.set_cons_succ])
          refine stH 19 (fun K hK => ?_)
          go_simp
          refine hK.out _ _ (by (first | exact KS.out _ (by assumption) | (simp only [Act.put]; exact KS.out _ (by assumption)))) (fun hHeld => ?_)
          clear hK K
          (try simp only [Act.put, List.setIfInBounds_toArray, List.set_cons_zero, List.set_cons_succ])
          refine stH 20 (fun K hK => ?_)
          go_simp
          refine hK.out _ _ (by (first | exact KS.out _ (by assumption) | (simp only [Act.put]; exact KS.out _ (by assumption)))) (fun hHeld => ?_)
          clear hK K
          (try simp only [Act.put, List.setIfInBounds_toArray, List.set_cons_zero, List.set_cons_succ])
          refine stH 21 (fun K hK => ?_)
          go_simp
          refine hK.out _ _ (KS.out _ k64) (fun hHeld => ?_)
          clear hK K
          (try simp only [Act.put, List.setIfInBounds_toArray, List.set_cons_zero, List.set_cons_succ])
          refine wpAnyH_done (by kernel_rfl) ?_ _
          clear hHeld r1 r2 r3 r4 c0 c1 c2 c3 HHS KX KS
          have hgm : GrowM w u4 bD bL := HX6.out.2.2.2.2.trans k64
          have HFIN : Hid (Way u4 y bD bL (updF fD6 a m [x0, x1, x2, x3]) (updF fL6 a m L) ∧ GrowM w u4 bD bL ∧ TB u4 A7 nsz) := Lib.hid ⟨HPP.out.way, hgm, HT6.out.growM k64 HX6.out.2.2.2.1.mapD HX6.out.2.2.2.1.mapL⟩
          clear hgm k61 k62 k63 k64 k66 k67 hb66 hb67
          go_wp2
          go_ret
          rw [← HEQ.out, ← HD7.out]
          exact ⟨_, _, _, rfl, HR7.out.1, HR7.out.2.1, HFIN.out.2.2, HFIN.out.1, HFIN.out.2.1⟩
        · go_simp
          have hA1 : Below wb.heap.size wb (wb.alloc (.cells #[vi 0, vi 0, vi 0, vi 0] 171)).drew := below_drewN ((Below.refl _ _).alloc (Nat.le_refl _) _) 1
          have hA2 : Below wb.heap.size wb ((wb.alloc (.cells #[vi 0, vi 0, vi 0, vi 0] 171)).alloc (.cells #[vi 0, vi 0, vi 0, vi 0] 171)).drew := below_drewN (((Below.refl _ _).alloc (Nat.le_refl _) _).alloc (by simp) _) 1
          have hA3 : Below wb.heap.size wb ((wb.alloc (.cells #[vi 0, vi 0, vi 0, vi 0] 171)).alloc (.cells #[vi dx0, vi dx1, vi dx2, vi dx3] 171)).drew := below_drewN (((Below.refl _ _).alloc (Nat.le_refl _) _).alloc (by simp) _) 1
          have hA4 : Below wb.heap.size wb ((wb.alloc (.cells #[vi dy0, vi dy1, vi dy2, vi dy3] 171)).alloc (.cells #[vi dx0, vi dx1, vi dx2, vi dx3] 171)).drew := below_drewN (((Below.refl _ _).alloc (Nat.le_refl _) _).alloc (by simp) _) 1
          refine hK.out _ _ (by (first | exact KS.out _ (by assumption) | (simp only [Act.put]; exact KS.out _ (by assumption)))) (fun hHeld => ?_)
          clear hK K
          (try simp only [Act.put, List.setIfInBounds_toArray, List.set_cons_zero, List.set_cons_succ])
          refine stH 12 (fun K hK => ?_)
          go_simp
          refine hK.out _ _ (by (first | exact KS.out _ (by assumption) | (simp only [Act.put]; exact KS.out _ (by assumption)))) (fun hHeld => ?_)
          clear hK K
          (try simp only [Act.put, List.setIfInBounds_toArray, List.set_cons_zero, List.set_cons_succ])
          refine stH 14 (fun K hK => ?_)
          go_simp
          refine hK.out _ _ (by (first | exact KS.out _ (by assumption) | (simp only [Act.put]; exact KS.out _ (by assumption)))) (fun hHeld => ?_)
          clear hK K
          (try simp only [Act.put, List.setIfInBounds_toArray, List.set_cons_zero, List.set_cons_succ])
          refine stH 15 (fun K hK => ?_)
          go_simp
          refine hK.out _ _ (KS.out _ hA4) (fun hHeld => ?_)
          clear hK K
          (try simp only [Act.put, List.setIfInBounds_toArray, List.set_cons_zero, List.set_cons_succ])
          refine wpAnyH_done (by kernel_rfl) ?_ _
          have hg2 := (Blk.new wb 171 #[vi dy0, vi dy1, vi dy2, vi dy3]).alloc (.cells #[vi dx0, vi dx1, vi dx2, vi dx3] 171)
          have hg1 := Blk.new (wb.alloc (.cells #[vi dy0, vi dy1, vi dy2, vi dy3] 171)) 171 #[vi dx0, vi dx1, vi dx2, vi dx3]
          rw [show (wb.alloc (.cells #[vi dy0, vi dy1, vi dy2, vi dy3] 171)).heap.size = wb.heap.size + 1 by simp] at hg1
          replace hg1 := hg1.drew
          replace hg2 := hg2.drew
          obtain ⟨g2, eg2⟩ : ∃ g2, g2 = wb.heap.size := ⟨_, rfl⟩
          obtain ⟨g1, eg1⟩ : ∃ g1, g1 = wb.heap.size + 1 := ⟨_, rfl⟩
          obtain ⟨w8, ew8⟩ : ∃ w8, w8 = ((wb.alloc (.cells #[vi dy0, vi dy1, vi dy2, vi dy3] 171)).alloc (.cells #[vi dx0, vi dx1, vi dx2, vi dx3] 171)).drew := ⟨_, rfl⟩
          rw [← ew8, ← eg1, ← eg2]
          rw [← ew8] at hg1 hg2 hA4
          rw [← eg1] at hg1
          rw [← eg2] at hg2
          have HA4 := Lib.hid hA4
          clear hHeld hA1 hA2 hA3 hA4 eg1 eg2 ew8 KS hbb
          go_wp2_with fail
          have hxg1 : SL w8 (some ⟨g1, 0, none⟩) [dx0, dx1, dx2, dx3] := arr_sl hg1
          have hxg2 : SL w8 (some ⟨g2, 0, none⟩) [dy0, dy1, dy2, dy3] := arr_sl hg2
          have hb89 : Below w8.heap.size w8 w8.drew := below_drewN (Below.refl _ _) 1
          have hb89a := hb89.alloc hb89.size (.cells #[.slice (some ⟨g1, 0, none⟩) 4 4, .slice (some ⟨g2, 0, none⟩) 4 4] 25)
          have hj := joined_any 1 (some ⟨w8.heap.size, 0, none⟩) 2 2 [[dx0, dx1, dx2, dx3], [dy0, dy1, dy2, dy3]] rfl (by omega) (by simp) (w8.drew.alloc (.cells #[.slice (some ⟨g1, 0, none⟩) 4 4, .slice (some ⟨g2, 0, none⟩) 4 4] 25)) (tb_lit2 (w := w8.drew) hxg1 rfl (by omega) HIX.out hxg2 rfl (by omega) HIY.out)
          have HJ := Lib.hid hj
          clear hj hxg1 hxg2 hg1 hg2
          refine wp_region_held_drew (S := fun w' => True) (by kernel_rfl) trivial (fun hHeld => ?_)
          refine tkH 0 ?_
          refine tkH 1 ?_
          refine stH 2 (fun K hK => ?_)
          go_simp
          refine hK.out _ _ trivial (fun hHeld => ?_)
          clear hK K
          (try simp only [Act.put, List.setIfInBounds_toArray, List.set_cons_zero, List.set_cons_succ])
          refine stH 3 (fun K hK => ?_)
          go_simp
          refine HJ.out.mono ?_
          rintro _ w6 ⟨v6, rfl, ho6, hb6⟩
          obtain ⟨A5, n5, c5, rfl, hl5, _, _, hs5⟩ := ho6.shapeN
          have hb86 := hb89a.trans (hb6.mono hb89a.size)
          refine hK.out _ _ trivial (fun hHeld => ?_)
          clear hK K
          (try simp only [Act.put, List.setIfInBounds_toArray, List.set_cons_zero, List.set_cons_succ])
          refine stH 4 (fun K hK => ?_)
          go_simp
          refine hK.out _ _ trivial (fun hHeld => ?_)
          clear hK K
          (try simp only [Act.put, List.setIfInBounds_toArray, List.set_cons_zero, List.set_cons_succ])
          refine wpAnyH_done (by kernel_rfl) ?_ _
          have hb76 : Below wb.heap.size wb w6 := HA4.out.trans (hb86.mono HA4.out.size)
          have hL5 : n5 * 8 + 64 ≤ 140737488355328 ∧ 0 < n5 := by simp at hl5; omega
          obtain ⟨L, hL⟩ : ∃ L, L = [1, dx0, dx1, dx2, dx3, dy0, dy1, dy2, dy3] := ⟨_, rfl⟩
          rw [show (1 :: List.flatten [[dx0, dx1, dx2, dx3], [dy0, dy1, dy2, dy3]]) = L by rw [hL]; rfl] at hl5 hs5
          have hLI : ∀ j ∈ L, I64 j := by
            rw [hL]
            intro j hj
            replace hj : j ∈ 1 :: ([dx0, dx1, dx2, dx3] ++ [dy0, dy1, dy2, dy3]) := hj
            rcases List.mem_cons.1 hj with rfl | hj
            · constructor <;> omega
            · rcases List.mem_append.1 hj with hj | hj
              · exact HIX.out j hj
              · exact HIY.out j hj
          have HL5 := Lib.hid (And.intro hl5 (And.intro hLI hL5))
          have HEQ := Lib.hid hL
          have HX6 : Hid (Fld w6 S b p ∧ Spg w6 s b k z oo ∧ SL w6 A5 L ∧ Way w6 y bD bL fD6 fL6 ∧ GrowM w w6 bD bL) := Lib.hid ⟨HM7.out.1.below hb76 HM7.out.1.le, HM7.out.2.1.below hb76 (block_lt_of_cell HM7.out.2.1.c0), hs5, HR7.out.2.2.2.below hb76, HM7.out.2.2.2.2.2.1.trans (GrowM.of hb76)⟩
          have HB86 := Lib.hid (Blk.below HM7.out.2.2.2.2.2.2.1 hb76 HM7.out.2.2.2.2.2.2.1.lt)
          have HT6 := Lib.hid (HR7.out.2.2.1.below hb76)
          clear hL hl5 hs5 hLI hL5 ho6 hb6 hb86 hb76 hb89 hb89a hHeld
          go_wp2_with fail
          have hb66 : Below w6.heap.size w6 w6.drew := below_drewN (Below.refl _ _) 1
          have k66 : GrowM w6 w6.drew bD bL := GrowM.of hb66
          have HHS := Lib.hid (fun W' (F : Fld W' S b p) (G : Spg W' s b k z oo) (hs : SL W' A5 L) => (hash_any p S b s k z oo A5 n5 c5 L HL5.out.1 HL5.out.2.1 HL5.out.2.2.1 W' F G hs).mono fun e w' h => h.root F.max)
          have KX : Hid (∀ W', Below w6.heap.size w6 W' → Fld W' S b p ∧ Spg W' s b k z oo ∧ SL W' A5 L ∧ Way W' y bD bL fD6 fL6) := Lib.hid fun W' hb => ⟨HX6.out.1.below hb HX6.out.1.le, HX6.out.2.1.below hb (block_lt_of_cell HX6.out.2.1.c0), HX6.out.2.2.1.below hb, HX6.out.2.2.2.1.below hb⟩
          have KS : Hid (∀ W', GrowM w6 W' bD bL → W'.cell? ⟨y, 0, none⟩ = some (.map (some bD)) ∧ W'.cell? ⟨y, 1, none⟩ = some (.map (some bL)) ∧ W'.cell? ⟨w.heap.size + 1, 0, none⟩ = some (vi a) ∧ W'.cell? ⟨w.heap.size + 1, 1, none⟩ = some (vi ((a : Int) + (m : Int)))) := Lib.hid fun W' hb => by
            have hmD := HX6.out.2.2.2.1.mapD
            have hmL := HX6.out.2.2.2.1.mapL
            have hq := hb.blk hmD hmL HB86.out
            have ho := hb.blk hmD hmL HX6.out.2.2.2.1.obj
            exact ⟨(ho.cell 0).trans rfl, (ho.cell 1).trans rfl, (hq.cell 0).trans rfl, (hq.cell 1).trans rfl⟩
          refine wp_region_held_drew (S := fun w' => w'.cell? ⟨y, 0, none⟩ = some (.map (some bD)) ∧ w'.cell? ⟨y, 1, none⟩ = some (.map (some bL)) ∧ w'.cell? ⟨w.heap.size + 1, 0, none⟩ = some (vi a) ∧ w'.cell? ⟨w.heap.size + 1, 1, none⟩ = some (vi ((a : Int) + (m : Int)))) (by kernel_rfl) (KS.out _ k66) (fun hHeld => ?_)
          refine tkH 0 ?_
          refine tkH 1 ?_
          refine tkH 2 ?_
          refine tkH 3 ?_
          refine tkH 4 ?_
          refine tkH 5 ?_
          refine tkH 6 ?_
          refine tkH 7 ?_
          refine tkH 8 ?_
          refine tkH 9 ?_
          refine tkH 10 ?_
          refine tkH 11 ?_
          refine tkH 12 ?_
          refine stH 13 (fun K hK => ?_)
          go_simp
          refine (HHS.out _ (KX.out _ hb66).1 (KX.out _ hb66).2.1 (KX.out _ hb66).2.2.1).mono ?_
          rintro _ w7 ⟨g7, rfl, hx7, s7, l7, i7, n7, hb7⟩
          have hb67 : Below w6.heap.size w6 w7 := hb66.trans (hb7.mono hb66.size)
          have k67 : GrowM w6 w7 bD bL := GrowM.of hb67
          obtain ⟨d7, hd7⟩ : ∃ d7, d7 = digL p k L := ⟨_, rfl⟩
          rw [← hd7] at s7 l7 i7
          have HD7 := Lib.hid hd7
          obtain ⟨x0, x1, x2, x3, hdx⟩ := four_of l7
          rw [hdx] at s7 HD7
          have c0 := cell4 s7 0 (by simp)
          have c1 := cell4 s7 1 (by simp)
          have c2 := cell4 s7 2 (by simp)
          have c3 := cell4 s7 3 (by simp)
          simp only [List.getElem_cons_zero, List.getElem_cons_succ] at c0 c1 c2 c3
          clear s7 l7 i7 hd7 hdx hx7 d7
          obtain ⟨v0, v1, t0, t1, u1, u2, u3, u4, HP⟩ := (KX.out _ hb67).2.2.2.putBoth h1 ha [x0, x1, x2, x3] L (.slice A5 n5 c5) ⟨A5, n5, c5, rfl, HL5.out.1, HL5.out.2.2.2, by have := HL5.out.2.2.1; omega, (KX.out _ hb67).2.2.1, HL5.out.2.1⟩
          have HPP := Lib.hid HP
          have r1 := HP.r1
          have r2 := HP.r2
          have r3 := HP.r3
          have r4 := HP.r4
          change (Instr.entryStore _ _ _ (.agg #[vi x0, vi x1, vi x2, vi x3])).run _ _ = _ at r4
          have k61 := k67.trans HP.g1
          have k62 := k67.trans HP.g2
          have k63 := k67.trans HP.g3
          have k64 := k67.trans HP.g4
          clear HP hb7
          refine hK.out _ _ (by (first | exact KS.out _ (by assumption) | (simp only [Act.put]; exact KS.out _ (by assumption)))) (fun hHeld => ?_)
          clear hK K
          (try simp only [Act.put, List.setIfInBounds_toArray, List.set_cons_zero, List.set_cons_succ])
          refine stH 14 (fun K hK => ?_)
          go_simp
          refine hK.out _ _ (by (first | exact KS.out _ (by assumption) | (simp only [Act.put]; exact KS.out _ (by assumption)))) (fun hHeld => ?_)
          clear hK K
          (try simp only [Act.put, List.setIfInBounds_toArray, List.set_cons_zero, List.set_cons_succ])
          refine stH 15 (fun K hK => ?_)
          go_simp
          refine hK.out _ _ (by (first | exact KS.out _ (by assumption) | (simp only [Act.put]; exact KS.out _ (by assumption)))) (fun hHeld => ?_)
          clear hK K
          (try simp only [Act.put, List.setIfInBounds_toArray, List.set_cons_zero, List.set_cons_succ])
          refine stH 16 (fun K hK => ?_)
          go_simp
          refine hK.out _ _ (by (first | exact KS.out _ (by assumption) | (simp only [Act.put]; exact KS.out _ (by assumption)))) (fun hHeld => ?_)
          clear hK K
          (try simp only [Act.put, List.setIfInBounds_toArray, List.set_cons_zero, List.set_cons_succ])
          refine stH 17 (fun K hK => ?_)
          go_simp
          refine hK.out _ _ (by (first | exact KS.out _ (by assumption) | (simp only [Act.put]; exact KS.out _ (by assumption)))) (fun hHeld => ?_)
          clear hK K
          (try simp only [Act.put, List.setIfInBounds_toArray, List.set_cons_zero, List.set_cons_succ])
          refine stH 18 (fun K hK => ?_)
          go_simp
          refine hK.out _ _ (by (first | exact KS.out _ (by assumption) | (simp only [Act.put]; exact KS.out _ (by assumption)))) (fun hHeld => ?_)
          clear hK K
          (try simp only [Act.put, List.setIfInBounds_toArray, List.set_cons_zero, List.set_cons_succ])
          refine stH 19 (fun K hK => ?_)
          go_simp
          refine hK.out _ _ (by (first | exact KS.out _ (by assumption) | (simp only [Act.put]; exact KS.out _ (by assumption)))) (fun hHeld => ?_)
          clear hK K
          (try simp only [Act.put, List.setIfInBounds_toArray, List.set_cons_zero, List.set_cons_succ])
          refine stH 20 (fun K hK => ?_)
          go_simp
          refine hK.out _ _ (by (first | exact KS.out _ (by assumption) | (simp only [Act.put]; exact KS.out _ (by assumption)))) (fun hHeld => ?_)
          clear hK K
          (try simp only [Act.put, List.setIfInBounds_toArray, List.set_cons_zero, List.set_cons_succ])
          refine stH 21 (fun K hK => ?_)
          go_simp
          refine hK.out _ _ (KS.out _ k64) (fun hHeld => ?_)
          clear hK K
          (try simp only [Act.put, List.setIfInBounds_toArray, List.set_cons_zero, List.set_cons_succ])
          refine wpAnyH_done (by kernel_rfl) ?_ _
          clear hHeld r1 r2 r3 r4 c0 c1 c2 c3 HHS KX KS
          have hgm : GrowM w u4 bD bL := HX6.out.2.2.2.2.trans k64
          have HFIN : Hid (Way u4 y bD bL (updF fD6 a m [x0, x1, x2, x3]) (updF fL6 a m L) ∧ GrowM w u4 bD bL ∧ TB u4 A7 nsz) := Lib.hid ⟨HPP.out.way, hgm, HT6.out.growM k64 HX6.out.2.2.2.1.mapD HX6.out.2.2.2.1.mapL⟩
          clear hgm k61 k62 k63 k64 k66 k67 hb66 hb67
          go_wp2
          go_ret
          rw [← HEQ.out, ← HD7.out]
          exact ⟨_, _, _, rfl, HR7.out.1, HR7.out.2.1, HFIN.out.2.2, HFIN.out.1, HFIN.out.2.1⟩
      · have e : m = 1 := by omega
        rw [workW_one _ _ _ _ _ _ hsh h2]
        exact work_one p S b s k z y bD bL oo A0 n0 c0 l hl hn0 hup AR cR rs hrs hR v3 m e a h1 ha hsh ns An nn cn hnn hcn fD fL w F G hSD hSL hsD hsL Y hp hQ hT
    · have hs' : shownB l a m = false := by simpa using hsh
      rw [hidL_no l hs'] at hhid
      rw [workW_no _ _ _ _ _ _ hs']
      match ns, hnn, hn4, hhid, hT with
      | x :: ns', hnn, hn4, hhid, hT =>
        exact work_no p S b s k z y bD bL oo A0 n0 c0 l hl hn0 hup AR n0 cR v3 a m h1 ha hs' x ns' An nn cn hnn hcn (hn4 x (by simp)) fD fL w F G Y hp hT
end Go.Proofs.YteceghbjjnknbaaGreat

namespace Go.Proofs.YteceghbjjnknbaaGreat
open Go.RowKit Zp
def idxR (P : List Int → Bool) (ts : List (List Int)) : Int := if ts.any P then ((ts.findIdx P : Nat) : Int) else -1
theorem idxR_no {P : List Int → Bool} {ts : List (List Int)} (h : ts.any P = false) : idxR P ts = -1 := by unfold idxR; rw [h]; rfl
theorem idxR_yes {P : List Int → Bool} {ts : List (List Int)} {k : Nat} (h : ts.any P = true) (hk : ts.findIdx P = k) : idxR P ts = k := by unfold idxR; rw [h, hk]; rfl
set_option maxRecDepth 100000 in
set_option maxHeartbeats 1000000 in
theorem indexR_any (K : Nat) (hK : ∀ (args : Array Value) (w : World), (callFunc K args).run Tryz.prog w = .ok (.enter K args) w) (P : List Int → Bool) (A : Option Addr) (N c : Nat) (ts : List (List Int)) (hN : ts.length = N) (hN2 : N ≤ 9223372036854775806)
    (w : World) (hY : ∀ (A1 : Option Addr) (n1 c1 : Nat) (x : List Int), x.length = n1 → n1 ≤ 9223372036854775807 → SL w A1 x → Calls Tryz.prog K #[.slice A1 n1 c1] w fun e w' => e = .returned (.bool (P x)) ∧ w = w') (hT : TB w A ts) :
    Calls Tryz.prog 95 #[.slice A N c, .func (.func K) #[] #[]] w fun e w' => e = .returned (vi (idxR P ts)) ∧ w = w' := by
  have HN := Lib.hid hN
  have HT := Lib.hid hT
  have HY := Lib.hid hY
  clear hN hT hY
  go_enter Tryz.func95, Tryz.ntmps95
  go_wp2
  go_loop [8] (fun i => ∃ k : Nat, k ≤ N ∧ i = vi k ∧ ∀ j (h : j < ts.length), j < k → P ts[j] = false) (fun i => N - (intOf i).toNat)
  case atStart => exact ⟨0, Nat.zero_le _, rfl, fun j _ hj => absurd hj (Nat.not_lt_zero _)⟩
  case round =>
    obtain ⟨k, hk, rfl, hb⟩ := hrel
    have HB := Lib.hid hb
    clear hb
    by_cases hlt : k < N
    · have hkt : k < ts.length := by rw [HN.out]; exact hlt
      obtain ⟨ad, A1, n1, c1, rfl, hb1, hc1, hl1, hn1, hs1, _⟩ := HT.out k hkt
      have i1 : (0 : Int) ≤ k := by omega
      have i2 : (k : Int) < N := by omega
      have i3 : (k : Int) + 1 ≤ 9223372036854775807 := by omega
      have hyk := HY.out A1 n1 c1 _ hl1 (by omega) hs1
      obtain ⟨x, hx⟩ : ∃ x, x = ts[k] := ⟨_, rfl⟩
      rw [← hx] at hyk
      have HYK := Lib.hid hyk
      have HX := Lib.hid hx
      clear hl1 hs1 hx hyk
      by_cases hp : P x = true
      · have HR : Hid (idxR P ts = k) := Lib.hid (by
          have hpk : P ts[k] = true := by rw [← HX.out]; exact hp
          exact idxR_yes (List.any_eq_true.2 ⟨_, List.getElem_mem hkt, hpk⟩) (by
            rw [List.findIdx_eq hkt]
            exact ⟨hpk, fun j hj => by simpa using HB.out j (by omega) hj⟩))
        have HP := Lib.hid hp
        clear hp
        go_wp2_with fail
        refine HYK.out.mono ?_
        rintro _ _ ⟨rfl, rfl⟩
        rw [HP.out]
        go_wp2
        go_ret
        exact ⟨ret_int HR.out.symm, rfl⟩
      · have HP := Lib.hid (show P x = false by simpa using hp)
        have HBB : Hid (∀ j (h : j < ts.length), j < k + 1 → P ts[j] = false) := Lib.hid (fun j h hj => by
          by_cases e : j < k
          · exact HB.out j h e
          · obtain rfl : j = k := by omega
            rw [← HX.out]; exact HP.out)
        clear hp
        go_wp2_with fail
        refine HYK.out.mono ?_
        rintro _ _ ⟨rfl, rfl⟩
        rw [HP.out]
        go_wp2
        go_round
        case rel => exact ⟨k + 1, by omega, by go_num, HBB.out⟩
        case measure => simp [intOf]; omega
    · obtain rfl : k = N := by omega
      have HR : Hid (idxR P ts = -1) := Lib.hid (idxR_no (by
        rw [Bool.eq_false_iff]
        intro h
        obtain ⟨x, hx, hp⟩ := List.any_eq_true.1 h
        obtain ⟨j, hj, rfl⟩ := List.mem_iff_getElem.1 hx
        rw [HB.out j hj (by rw [← HN.out]; exact hj)] at hp
        cases hp))
      go_wp2
      go_ret
      exact ⟨ret_int HR.out.symm, rfl⟩
theorem containsR_any (K : Nat) (hK : ∀ (args : Array Value) (w : World), (callFunc K args).run Tryz.prog w = .ok (.enter K args) w) (P : List Int → Bool) (A : Option Addr) (N c : Nat) (ts : List (List Int)) (hN : ts.length = N) (hN2 : N ≤ 9223372036854775806)
    (w : World) (hY : ∀ (A1 : Option Addr) (n1 c1 : Nat) (x : List Int), x.length = n1 → n1 ≤ 9223372036854775807 → SL w A1 x → Calls Tryz.prog K #[.slice A1 n1 c1] w fun e w' => e = .returned (.bool (P x)) ∧ w = w') (hT : TB w A ts) :
    Calls Tryz.prog 51 #[.slice A N c, .func (.func K) #[] #[]] w fun e w' => e = .returned (.bool (ts.any P)) ∧ w = w' := by
  have HI := Lib.hid (indexR_any K hK P A N c ts hN hN2 w hY hT)
  clear hY hT hN
  cases hb : ts.any P
  · rw [idxR_no hb] at HI
    clear hb
    go_enter Tryz.func51, Tryz.ntmps51
    go_wp2_with fail
    refine HI.out.mono ?_
    rintro _ _ ⟨rfl, rfl⟩
    go_wp2
    go_ret
    exact ⟨by simp, rfl⟩
  · obtain ⟨t, ht⟩ : ∃ t, ts.findIdx P = t := ⟨_, rfl⟩
    rw [idxR_yes hb ht] at HI
    have h0 : (0 : Int) ≤ (t : Int) := by omega
    clear hb ht
    go_enter Tryz.func51, Tryz.ntmps51
    go_wp2_with fail
    refine HI.out.mono ?_
    rintro _ _ ⟨rfl, rfl⟩
    go_wp2
    go_ret
    exact ⟨by simp, rfl⟩
theorem follow2_any (A1 : Option Addr) (n1 c1 : Nat) (x : List Int) (hx : x.length = n1) (hn : n1 ≤ 9223372036854775807) (w : World) :
    Calls Tryz.prog 117 #[.slice A1 n1 c1] w fun e w' => e = .returned (.bool (decide (x.length ≠ 4))) ∧ w = w' := by
  have HX := Lib.hid hx
  by_cases h4 : n1 = 4
  · have HR := Lib.hid (show decide (x.length ≠ 4) = false by rw [hx, h4]; rfl)
    clear hx
    subst h4
    go_enter Tryz.func117, Tryz.ntmps117
    go_wp2
    go_ret
    exact ⟨ret_bool HR.out.symm, rfl⟩
  · have HR := Lib.hid (show decide (x.length ≠ 4) = true by rw [hx]; simpa using h4)
    have t1 : ((n1 : Int) != 4) = true := by rw [bne_iff_ne]; omega
    clear hx h4
    go_enter Tryz.func117, Tryz.ntmps117
    go_wp2
    go_ret
    exact ⟨ret_bool HR.out.symm, rfl⟩
end Go.Proofs.YteceghbjjnknbaaGreat

namespace Go.Proofs.YteceghbjjnknbaaGreat
open Go.RowKit Zp
theorem equal_four (x0 x1 x2 x3 y0 y1 y2 y3 : Int) (w : World) : (Op.equalIn 10000 171 (.agg #[vi x0, vi x1, vi x2, vi x3]) (.agg #[vi y0, vi y1, vi y2, vi y3])).run Tryz.prog w = .ok (decide ([x0, x1, x2, x3] = [y0, y1, y2, y3])) w := by
  obtain ⟨i0, hi, hz0, hz1, hz2⟩ := info_parts info_int
  have u3 := Tryz.underlying3
  have hc : Tryz.prog.cellsOf 3 = 1 := by kernel_rfl
  rw [show (10000 : Nat) = 9999 + 1 from rfl, run_equalIn_array w 9999 _ _ Tryz.underlying171 hi, hc, show List.range 4 = [0, 1, 2, 3] from rfl]
  simp only [Op.eqItems]
  go_simp
  by_cases h0 : x0 = y0 <;> by_cases h1 : x1 = y1 <;> by_cases h2 : x2 = y2 <;> by_cases h3 : x3 = y3 <;> simp [h0, h1, h2, h3]
end Go.Proofs.YteceghbjjnknbaaGreat

namespace Go.Proofs.YteceghbjjnknbaaGreat
open Go.RowKit Zp Go.MapKept Go.ChangeMaps
def OkP (l : List Int) (n : Int) : Prop := Asc l ∧ ∀ x ∈ l, 0 ≤ x ∧ x < n
def PreOk (l : List Int) (n : Int) (k : Nat) : Prop := (∀ j (h : j < l.length), j < k → 0 ≤ l[j] ∧ l[j] < n) ∧ (∀ j (h : j + 1 < l.length), j + 1 < k → l[j] < l[j + 1])
theorem PreOk.zero (l : List Int) (n : Int) : PreOk l n 0 := ⟨fun j _ h => absurd h (Nat.not_lt_zero _), fun j _ h => absurd h (Nat.not_lt_zero _)⟩
theorem PreOk.done {l : List Int} {n : Int} {k : Nat} (h : PreOk l n k) (hk : l.length ≤ k) : OkP l n :=
  ⟨asc_of_steps fun i hi => h.2 i hi (by omega), fun x hx => by
    obtain ⟨j, hj, rfl⟩ := List.mem_iff_getElem.1 hx
    exact h.1 j hj (by omega)⟩
theorem PreOk.first {l : List Int} {n : Int} (h : PreOk l n 0) (hk : 0 < l.length) (h1 : 0 ≤ l[0] ∧ l[0] < n) : PreOk l n 1 :=
  ⟨fun j hj hjk => by
    obtain rfl : j = 0 := by omega
    exact h1, fun j hj hjk => by omega⟩
theorem PreOk.next {l : List Int} {n : Int} {k : Nat} (h : PreOk l n (k + 1)) (hk : k + 1 < l.length) (h1 : 0 ≤ l[k + 1] ∧ l[k + 1] < n) (h2 : l[k] < l[k + 1]) : PreOk l n (k + 1 + 1) :=
  ⟨fun j hj hjk => by
    by_cases e : j < k + 1
    · exact h.1 j hj e
    · obtain rfl : j = k + 1 := by omega
      exact h1, fun j hj hjk => by
    by_cases e : j + 1 < k + 1
    · exact h.2 j hj e
    · obtain rfl : j = k := by omega
      exact h2⟩
theorem not_okP_low {l : List Int} {n : Int} {k : Nat} (hk : k < l.length) (h : l[k] < 0) : ¬ OkP l n := fun g => by have := (g.2 _ (List.getElem_mem hk)).1; omega
theorem not_okP_high {l : List Int} {n : Int} {k : Nat} (hk : k < l.length) (h : n ≤ l[k]) : ¬ OkP l n := fun g => by have := (g.2 _ (List.getElem_mem hk)).2; omega
theorem not_okP_step {l : List Int} {n : Int} {k : Nat} (hk : k + 1 < l.length) (h : l[k + 1] ≤ l[k]) : ¬ OkP l n := fun g => by have := g.1.step k hk; omega
theorem hidL_le (l : List Int) : ∀ (m a : Nat), 1 ≤ m → (hidL l a m).length ≤ m := by
  intro m
  induction m using Nat.strongRecOn with
  | ind m ih =>
    intro a hm
    by_cases hs : shownB l a m = true
    · by_cases h : 2 ≤ m
      · have hl := leftN_lt h
        rw [hidL_two l hs h]
        have := ih (leftN m) (by omega) a (by omega)
        have := ih (m - leftN m) (by omega) (a + leftN m) (by omega)
        omega
      · rw [hidL_one l hs h]; omega
    · rw [hidL_no l (by simpa using hs)]; omega
section
variable (p k : Nat) [NeZero p]
def workE (l : List Int) (rs ns : List (List Int)) (n : Nat) : (GF × GF) × List (List Int) :=
  workW (digL p k) (fun x => fvs (els p x)) (fun i => fvs (els p (rowAt l rs i))) l 0 n (fun _ _ => none, fun _ _ => none) ns
def TakenP (l : List Int) (rs ns : List (List Int)) (top : List Int) (n : Int) : Prop :=
  (1 ≤ n ∧ n ≤ 65536) ∧ top.length = 4 ∧ rs.length = l.length ∧ OkP l n ∧ ns.length = (hidL l 0 n.toNat).length ∧ (∀ x ∈ ns, x.length = 4) ∧
    (climbD (digL p k) (fun x => fvs (els p x)) (fun i => fvs (els p (rowAt l rs i))) l 0 n.toNat ns).1 = fvs (els p top)
open Classical in
noncomputable def takenB (l : List Int) (rs ns : List (List Int)) (top : List Int) (n : Int) : Bool := decide (TakenP p k l rs ns top n)
end
section
variable {p k : Nat} [NeZero p] {l : List Int} {rs ns : List (List Int)} {top : List Int} {n : Int}
open Classical in
theorem takenB_true (h : TakenP p k l rs ns top n) : takenB p k l rs ns top n = true := by unfold takenB; exact decide_eq_true h
open Classical in
theorem takenB_false (h : ¬ TakenP p k l rs ns top n) : takenB p k l rs ns top n = false := by unfold takenB; exact decide_eq_false h
open Classical in
theorem takenB_iff : takenB p k l rs ns top n = true ↔ TakenP p k l rs ns top n := by unfold takenB; exact decide_eq_true_iff
end
theorem wrap_step (x : Int) : IntKind.i64.wrap (IntKind.i64.wrap x + 1) = IntKind.i64.wrap (x + 1) := by simp only [IntKind.wrap_i64]; omega
set_option maxHeartbeats 1000000 in
theorem need_any (a m g0 : Nat) (k : Int) (w : World) (hB : Blk w g0 3 #[vi (IntKind.i64.wrap k)]) :
    Calls Tryz.prog 116 #[.agg #[vi (a : Int), vi ((a : Int) + (m : Int))], .pointer (some ⟨g0, 0, none⟩)] w fun e w' => (∃ r, e = .returned r) ∧ Blk w' g0 3 #[vi (IntKind.i64.wrap (k + 1))] ∧ w.grownBy w' (some g0) := by
  have hB1 := hB.alloc (.cells #[vi (a : Int), vi ((a : Int) + (m : Int))] 139)
  have hg := World.grownBy_alloc w (.cells #[vi (a : Int), vi ((a : Int) + (m : Int))] 139) (some g0)
  obtain ⟨v, hv⟩ : ∃ v, v = IntKind.i64.wrap k := ⟨_, rfl⟩
  obtain ⟨u, hu⟩ : ∃ u, u = IntKind.i64.wrap (v + 1) := ⟨_, rfl⟩
  rw [← wrap_step, ← hv, ← hu]
  rw [← hv] at hB1
  have hc := (hB1.cell 0).trans (show _ = some (vi v) from rfl)
  have hf := hB1.frozen 0
  have h2 := hB1.set_ 0 (vi u)
  have hg2 := grownBy_trans hg (blk_grown (w := w.alloc (.cells #[vi (a : Int), vi ((a : Int) + (m : Int))] 139)) (g := g0) (i := 0) (u := vi u))
  have HFIN : Hid (Blk ((w.alloc (.cells #[vi (a : Int), vi ((a : Int) + (m : Int))] 139)).setCell ⟨g0, 0, none⟩ (vi u)) g0 3 #[vi u] ∧ w.grownBy ((w.alloc (.cells #[vi (a : Int), vi ((a : Int) + (m : Int))] 139)).setCell ⟨g0, 0, none⟩ (vi u)) (some g0)) := Lib.hid ⟨h2, hg2⟩
  have hu' := hu.symm
  clear h2 hg2 hg hB hB1 hv hu
  go_enter Tryz.func116, Tryz.ntmps116
  go_wp2
  go_end0
  exact ⟨⟨_, rfl⟩, HFIN.out.1, HFIN.out.2⟩
end Go.Proofs.YteceghbjjnknbaaGreat
