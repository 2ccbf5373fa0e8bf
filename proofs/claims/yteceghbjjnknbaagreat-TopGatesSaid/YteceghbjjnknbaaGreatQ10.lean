/- A bundle of texts: Gw12, Gw13, Gw2, Shl, Srt, Ni, Nj, Ou. -/
import Derived.Test.YteceghbjjnknbaaGreatQ09
import Derived.Test.YteceghbjjnknbaaGreatQ06
import Derived.Test.YteceghbjjnknbaaGreatQ05
import Derived.Test.YteceghbjjnknbaaGreatQ00
import Derived.Test.YteceghbjjnknbaaGreatChecked
import Derived.Shelf.SlicesG.CompactI
import Derived.Shelf.SlicesG.Equal
import Derived.Shelf.SortM.Plain
import Derived.Shelf.SortM.SortNone
import Derived.Test.YteceghbjjnknbaaGreatQ02
set_option linter.unusedVariables false
set_option linter.unusedSimpArgs false
namespace Go.Proofs.YteceghbjjnknbaaGreat
open Go.RowKit Zp
section
variable {p : Nat} [NeZero p]
def ptE (f : Nat → Fin p) (n : Nat) (L : List GateI) (z xs : List (Fin p)) (i : Nat) : Fin p := wtL z i * gpE f n (L.getD i ⟨0, 0, 0⟩) (xs.take n) (xs.drop n)
theorem pt_alg (a u x y z : Fin p) : a + u * (x * y * z) = a + u * (x * y) * z := by grind
theorem partE_eq (f : Nat → Fin p) (n : Nat) (L : List GateI) (z xs : List (Fin p)) : partE f n L z xs = sumT L.length (ptE f n L z xs) := rfl
end
theorem SL.cutD {w : World} {bd : Addr} {xs : List Int} (h : SL w (some bd) xs) (c cut : Nat) (hk : cut ≤ xs.length) (hc : xs.length ≤ c) : SL w (if c = cut then some bd else some (bd.add cut)) (xs.drop cut) := by
  have h1 := Reads.cut (k := cut) (cap := c) h hk hc
  rw [Nat.mul_one] at h1
  unfold SL
  rw [List.length_drop, List.map_drop]
  exact h1
set_option maxRecDepth 100000 in
set_option maxHeartbeats 4000000 in
theorem part_any (p S b k v : Nat) [NeZero p] (AL : Option Addr) (nL cL : Nat) (Ls : List (List GateR)) (hLn : Ls.length = nL) (hyes : CirR (v : Int) Ls) (AV : Option Addr) (nV cV : Nat) (rows : List (List Int)) (hrn : rows.length = nV) (li : Nat) (hli : li < Ls.length) (hlr : li < rows.length) (L : List (Fin p)) (hL : rows[li] = fvs L) (n : Nat) (hn : n = nvR Ls v li) (hLl : L.length = 2 ^ n)
    (A : Option Addr) (nz cz : Nat) (zs : List Int) (hzs : zs.length = nz) (hnz : nz ≤ 64) (hzI : ∀ x ∈ zs, I64 x) (bd : Addr) (s c : Nat) (xs : List Int) (hs : xs.length = s) (hsc : s ≤ c) (hc9 : c ≤ 9223372036854775807) (hsn : s ≤ 2 * n) (hI : ∀ x ∈ xs, I64 x) (w : World) (F : Fld w S b p) (W : Wkr w k b v AL nL cL Ls AV nV cV rows) (hz : SL w A zs) (hxs : SL w (some bd) xs) :
    Calls Tryz.prog 64 #[.pointer (some ⟨k, 0, none⟩), vi li, .slice A nz cz, .slice (some bd) s c] w fun e w' => e = .returned (vi (fv (partE (co L) n (Ls[li].map gI) (els p zs) (els p xs)))) ∧ Below w.heap.size w w' := by
  have hp1 := F.two
  have hp2 := F.max
  have h6 : n ≤ 6 := by rw [hn]; exact hyes.small li
  have hVA := Lib.hid (fun W hLT => vars_lvl v AL nL cL Ls hLn hyes li (by omega) ((li : Int) - 1) rfl W hLT)
  rw [← hn] at hVA
  have h8 : nL ≤ 8 := by have := hyes.n8; omega
  have hli8 : li ≤ 8 := by omega
  have e1 := (W.blk.cell 1).trans (show _ = some (vi (v : Int)) from rfl)
  have e2 := (W.blk.cell 2).trans (show _ = some (.slice AL nL cL) from rfl)
  have iw : IntKind.i64.wrap ((li : Int) - 1) = (li : Int) - 1 := IntWalk.i64_in _ (by constructor <;> omega)
  obtain ⟨cut, hcut⟩ : ∃ cut, cut = min n s := ⟨_, rfl⟩
  have hmin : min (n : Int) (s : Int) = (cut : Int) := by rw [hcut]; omega
  have hcs : cut ≤ s := by omega
  have hcc : cut ≤ c := by omega
  have hcn : cut ≤ n := by omega
  have hrest : s - cut ≤ n := by omega
  have HH := Lib.hid (fun (num : Nat) (hnum : num < 2 ^ n) (A : Option Addr) (s' c' : Nat) (ys : List Int) hs' hsn' hI' W F Wk hxs' => half_any p S b k v AL nL cL Ls hLn hyes AV nV cV rows hrn li (by omega) hlr L hL n hn hLl num hnum A s' c' ys hs' hsn' hI' W F Wk hxs')
  obtain ⟨al, AG, nG, cG, rfl, hal, hcl, hlG, hG2, hGT⟩ := W.lt li hli
  have hnG : nG ≤ 64 := by rw [← hlG]; exact ((layN_iff _).1 (hyes.lay _ (List.getElem_mem hli))).2.2
  have i1 : (0 : Int) ≤ (li : Int) := by omega
  have i2 : (li : Int) < (nL : Int) := by omega
  have HGO : Hid (∀ j (h : j < Ls[li].length), (∃ kk a2 b2 : Nat, Ls[li][j] = ⟨(kk : Int), (a2 : Int), (b2 : Int)⟩ ∧ a2 < 2 ^ n ∧ b2 < 2 ^ n)) := Lib.hid (fun j hj => by
    obtain ⟨g1, g2, g3, g4, g5⟩ := hyes.gate li hli _ (List.getElem_mem hj)
    rw [hyes.ben li (by omega), ← hn] at g3 g5
    generalize Ls[li][j] = g at *
    obtain ⟨e1, e2, e3⟩ := g
    dsimp only at g1 g2 g3 g4 g5
    obtain ⟨m1, rfl⟩ := Int.eq_ofNat_of_zero_le (show 0 ≤ e1 by omega)
    obtain ⟨m2, rfl⟩ := Int.eq_ofNat_of_zero_le g2
    obtain ⟨m3, rfl⟩ := Int.eq_ofNat_of_zero_le g4
    exact ⟨m1, m2, m3, rfl, by omega, by omega⟩)
  obtain ⟨gs, hgs⟩ : ∃ gs, gs = Ls[li] := ⟨_, rfl⟩
  rw [← hgs] at hGT hlG HGO ⊢
  have HP := Lib.hid (partE_eq (co L) n (gs.map gI) (els p zs) (els p xs))
  obtain ⟨f, hf⟩ : ∃ f, f = ptE (co L) n (gs.map gI) (els p zs) (els p xs) := ⟨_, rfl⟩
  rw [← hf] at HP
  have HFF := Lib.hid hf
  have HF := Lib.hid F
  have HW := Lib.hid W
  have HS := Lib.hid hs
  have HI := Lib.hid hI
  have HXS := Lib.hid hxs
  have HZ := Lib.hid hz
  have HGT := Lib.hid hGT
  have HLG := Lib.hid hlG
  have HCUT := Lib.hid hcut
  have HU := Lib.hid (fun (i : Nat) (hi : i ≤ 64) W hc hs => unit_any p hp2 hp1 b i (by omega) A nz cz zs hzs hnz hzI W hc hs)
  have hcl' : w.cell? (al.add li) = some (.slice AG nG cG) := hcl
  clear F W hs hI hxs hLl hL hyes hLn hn hlr hrn hz hGT hlG hf hgs hcut hzs hzI hcl hal hli
  go_enter Tryz.func64, Tryz.ntmps64
  go_wp2_with fail
  refine (hVA.out _ HW.out.lt).mono ?_
  rintro _ w2 ⟨rfl, hb2⟩
  have HB2 := Lib.hid hb2
  have e2' := ((HW.out.below hb2).blk.cell 2).trans (show _ = some (.slice (some al) nL cL) from rfl)
  have hcl2 := (hb2.cell (block_lt_of_cell hcl')).trans hcl'
  clear hb2
  go_wp2
  go_loopw [11, 39] (fun sv i wr => ∃ t : Nat, t ≤ nG ∧ sv = vi (fv (sumT t f)) ∧ i = vi t ∧ Below w.heap.size w wr) (fun _ i _ => nG - (intOf i).toNat)
  case atStart => exact ⟨0, Nat.zero_le _, by rw [sumT, fv_zero], rfl, HB2.out⟩
  case round =>
    obtain ⟨t, ht, rfl, rfl, hb⟩ := hrel
    by_cases htn : t < nG
    · have htg : t < gs.length := by rw [HLG.out]; exact htn
      obtain ⟨ad, rfl, hE⟩ := (HGT.out.below hb) t htg
      obtain ⟨d0, d1, d2⟩ := hE.cells
      clear hE
      obtain ⟨kk, a2, b2, heq, ha2, hb2'⟩ := HGO.out t htg
      rw [heq] at d0 d1 d2
      dsimp only at d0 d1 d2
      have hft : f t = wtL (els p zs) t * gpE (co L) n ⟨kk, a2, b2⟩ ((els p xs).take n) ((els p xs).drop n) := by
        rw [HFF.out, ptE, List.getD_eq_getElem?_getD, List.getElem?_map, List.getElem?_eq_getElem htg, heq]
        rfl
      have HFT := Lib.hid hft
      have HA2 := Lib.hid ha2
      have HB2' := Lib.hid hb2'
      have i3 : (0 : Int) ≤ (t : Int) := by omega
      have i4 : (t : Int) < (nG : Int) := by omega
      clear heq hft ha2 hb2'
      obtain ⟨s1, hs1⟩ : ∃ s1, s1 = shE n a2 (els p (xs.take cut)) := ⟨_, rfl⟩
      obtain ⟨v1, hv1⟩ : ∃ v1, v1 = vaE (co L) n a2 (els p (xs.take cut)) := ⟨_, rfl⟩
      obtain ⟨s2, hs2⟩ : ∃ s2, s2 = shE n b2 (els p (xs.drop cut)) := ⟨_, rfl⟩
      obtain ⟨v2, hv2⟩ : ∃ v2, v2 = vaE (co L) n b2 (els p (xs.drop cut)) := ⟨_, rfl⟩
      obtain ⟨u1, hu1⟩ : ∃ u1, u1 = wtL (els p zs) t := ⟨_, rfl⟩
      have HV := Lib.hid (And.intro hs1 (And.intro hv1 (And.intro hs2 (And.intro hv2 hu1))))
      clear hs1 hv1 hs2 hv2 hu1
      have eX : els p (xs.take cut) = (els p xs).take n := by
        rw [els, els, List.map_take, HCUT.out]
        by_cases h : n ≤ s
        · rw [Nat.min_eq_left h]
        · rw [Nat.min_eq_right (by omega), List.take_of_length_le (by simp [HS.out]), List.take_of_length_le (by simp [HS.out]; omega)]
      have eY : els p (xs.drop cut) = (els p xs).drop n := by
        rw [els, els, List.map_drop, HCUT.out]
        by_cases h : n ≤ s
        · rw [Nat.min_eq_left h]
        · rw [Nat.min_eq_right (by omega), List.drop_of_length_le (by simp [HS.out]), List.drop_of_length_le (by simp [HS.out]; omega)]
      have HST : Hid (sumT (t + 1) f = sumT t f + u1 * (s1 * s2) * apE kk v1 v2) := Lib.hid (by
        rw [sumT_succ, HFT.out, HV.out.1, HV.out.2.1, HV.out.2.2.1, HV.out.2.2.2.1, HV.out.2.2.2.2, eX, eY]
        exact pt_alg _ _ _ _ _)
      clear eX eY
      go_upto_region 7 with (fail)
      obtain ⟨wA, hwA⟩ : ∃ wA, wA = wr.alloc (.cells #[vi kk, vi a2, vi b2] 61) := ⟨_, rfl⟩
      rw [← hwA]
      have hbA0 : Below wr.heap.size wr wA := by rw [hwA]; exact (Below.refl _ _).alloc (Nat.le_refl _) _
      have hgA : Blk wA wr.heap.size 61 #[vi kk, vi a2, vi b2] := by rw [hwA]; exact Blk.new _ _ _
      have hbA := hb.trans (hbA0.mono hb.size)
      have KX : Hid (∀ W', Below wA.heap.size wA W' → Below w.heap.size w W' ∧ (W'.cell? ⟨wr.heap.size, 0, none⟩ = some (vi kk) ∧ W'.cell? ⟨wr.heap.size, 1, none⟩ = some (vi a2) ∧ W'.cell? ⟨wr.heap.size, 2, none⟩ = some (vi b2) ∧ W'.cell? ⟨k, 0, none⟩ = some (.pointer (some ⟨b, 0, none⟩))) ∧ W'.cell? ⟨b, 0, none⟩ = some (vi p)) := Lib.hid fun W' h => by
        have hb' := hbA.trans (h.mono hbA.size)
        have hg' := hgA.below h hgA.lt
        exact ⟨hb', ⟨(hg'.cell 0).trans rfl, (hg'.cell 1).trans rfl, (hg'.cell 2).trans rfl, ((HW.out.below hb').blk.cell 0).trans rfl⟩, (HF.out.below hb' HF.out.le).c0⟩
      have hb70 : Below wA.heap.size wA wA.drew := below_drewN (Below.refl _ _) 1
      clear hbA0 hgA hbA hwA d0 d1 d2
      refine wp_region_held_drew (S := fun W' => W'.cell? ⟨wr.heap.size, 0, none⟩ = some (vi kk) ∧ W'.cell? ⟨wr.heap.size, 1, none⟩ = some (vi a2) ∧ W'.cell? ⟨wr.heap.size, 2, none⟩ = some (vi b2) ∧ W'.cell? ⟨k, 0, none⟩ = some (.pointer (some ⟨b, 0, none⟩))) (by kernel_rfl) (KX.out _ hb70).2.1 (fun hHeld => ?_)
      refine tkH 0 ?_
      refine tkH 1 ?_
      refine tkH 2 ?_
      refine tkH 3 ?_
      refine tkH 4 ?_
      refine tkH 5 ?_
      refine tkH 6 ?_
      refine stH 7 (fun K hK => ?_)
      go_simp
      refine (HH.out a2 HA2.out (some bd) cut c (xs.take cut) (by rw [List.length_take, HS.out]; omega) hcn (fun x hx => HI.out x (List.mem_of_mem_take hx)) wA.drew (HF.out.below (KX.out _ hb70).1 HF.out.le) (HW.out.below (KX.out _ hb70).1) ((HXS.out.below (KX.out _ hb70).1).take cut)).mono ?_
      rw [← HV.out.1, ← HV.out.2.1]
      rintro _ w7 ⟨rfl, hb7⟩
      have hb71 : Below wA.heap.size wA w7 := hb70.trans (hb7.mono hb70.size)
      clear hb7
      refine hK.out _ _ (KX.out _ hb71).2.1 (fun hHeld => ?_)
      clear hK K
      (try simp only [Act.put, List.setIfInBounds_toArray, List.set_cons_zero, List.set_cons_succ])
      refine tkH 8 ?_
      refine tkH 9 ?_
      refine tkH 10 ?_
      refine tkH 11 ?_
      refine tkH 12 ?_
      refine wpAnyH_done (by kernel_rfl) ?_ _
      clear hHeld
      go_upto_region 8 with (fail)
      have hb80 : Below wA.heap.size wA w7.drew := below_drewN hb71 1
      clear hb70
      refine wp_region_held_drew (S := fun W' => W'.cell? ⟨wr.heap.size, 0, none⟩ = some (vi kk) ∧ W'.cell? ⟨wr.heap.size, 1, none⟩ = some (vi a2) ∧ W'.cell? ⟨wr.heap.size, 2, none⟩ = some (vi b2) ∧ W'.cell? ⟨k, 0, none⟩ = some (.pointer (some ⟨b, 0, none⟩))) (by kernel_rfl) (KX.out _ hb80).2.1 (fun hHeld => ?_)
      refine tkH 0 ?_
      refine tkH 1 ?_
      refine tkH 2 ?_
      refine tkH 3 ?_
      refine tkH 4 ?_
      refine tkH 5 ?_
      refine tkH 6 ?_
      refine stH 7 (fun K hK => ?_)
      go_simp
      refine (HH.out b2 HB2'.out _ (s - cut) (c - cut) (xs.drop cut) (by rw [List.length_drop, HS.out]) hrest (fun x hx => HI.out x (List.mem_of_mem_drop hx)) w7.drew (HF.out.below (KX.out _ hb80).1 HF.out.le) (HW.out.below (KX.out _ hb80).1) ((HXS.out.below (KX.out _ hb80).1).cutD c cut (by rw [HS.out]; exact hcs) (by rw [HS.out]; exact hsc))).mono ?_
      rw [← HV.out.2.2.1, ← HV.out.2.2.2.1]
      rintro _ w8 ⟨rfl, hb8⟩
      have hb81 : Below wA.heap.size wA w8 := hb80.trans (hb8.mono hb80.size)
      clear hb8
      refine hK.out _ _ (KX.out _ hb81).2.1 (fun hHeld => ?_)
      clear hK K
      (try simp only [Act.put, List.setIfInBounds_toArray, List.set_cons_zero, List.set_cons_succ])
      refine tkH 8 ?_
      refine tkH 9 ?_
      refine tkH 10 ?_
      refine tkH 11 ?_
      refine tkH 12 ?_
      refine wpAnyH_done (by kernel_rfl) ?_ _
      clear hHeld hb80 hb71
      go_upto_region 9 with (fail)
      have hb90 : Below wA.heap.size wA w8.drew := below_drewN hb81 1
      clear hb81
      refine wp_region_held_drew (S := fun W' => W'.cell? ⟨wr.heap.size, 0, none⟩ = some (vi kk) ∧ W'.cell? ⟨wr.heap.size, 1, none⟩ = some (vi a2) ∧ W'.cell? ⟨wr.heap.size, 2, none⟩ = some (vi b2) ∧ W'.cell? ⟨k, 0, none⟩ = some (.pointer (some ⟨b, 0, none⟩))) (by kernel_rfl) (KX.out _ hb90).2.1 (fun hHeld => ?_)
      refine tkH 0 ?_
      refine tkH 1 ?_
      refine tkH 2 ?_
      refine tkH 3 ?_
      refine tkH 4 ?_
      refine tkH 5 ?_
      refine tkH 6 ?_
      refine tkH 7 ?_
      refine tkH 8 ?_
      refine tkH 9 ?_
      refine tkH 11 ?_
      refine tkH 12 ?_
      refine tkH 13 ?_
      refine tkH 14 ?_
      refine tkH 15 ?_
      refine tkH 16 ?_
      refine stH 10 (fun K hK => ?_)
      go_simp
      refine (HU.out t (by omega) w8.drew (KX.out _ hb90).2.2 (HZ.out.below (KX.out _ hb90).1)).mono ?_
      rw [← HV.out.2.2.2.2]
      rintro _ w9 ⟨rfl, k9, h9⟩
      have hb91 : Below wA.heap.size wA w9 := by rw [h9]; exact below_drewN hb90 _
      clear h9
      refine hK.out _ _ (KX.out _ hb91).2.1 (fun hHeld => ?_)
      clear hK K
      (try simp only [Act.put, List.setIfInBounds_toArray, List.set_cons_zero, List.set_cons_succ])
      refine stH 17 (fun K hK => ?_)
      go_simp
      refine (mul_any p hp2 b _ _ (i64_fv _ hp2) (i64_fv _ hp2) _ (KX.out _ hb91).2.2).mono ?_
      rintro _ w10 ⟨rfl, k10, h10⟩
      have hb10 : Below wA.heap.size wA w10 := by rw [h10]; exact below_drewN hb91 _
      clear h10
      refine hK.out _ _ (KX.out _ hb10).2.1 (fun hHeld => ?_)
      clear hK K
      (try simp only [Act.put, List.setIfInBounds_toArray, List.set_cons_zero, List.set_cons_succ])
      refine stH 18 (fun K hK => ?_)
      go_simp
      refine (mul_any p hp2 b _ _ (i64_fv _ hp2) (i64_fv _ hp2) _ (KX.out _ hb10).2.2).mono ?_
      rintro _ w11 ⟨rfl, k11, h11⟩
      have hb11 : Below wA.heap.size wA w11 := by rw [h11]; exact below_drewN hb10 _
      clear h11
      refine hK.out _ _ (KX.out _ hb11).2.1 (fun hHeld => ?_)
      clear hK K
      (try simp only [Act.put, List.setIfInBounds_toArray, List.set_cons_zero, List.set_cons_succ])
      refine tkH 19 ?_
      refine wpAnyH_done (by kernel_rfl) ?_ _
      clear hHeld hb90 hb91 hb10
      go_upto_region 10 with (fail)
      have hc0 : Below wA.heap.size wA w11.drew := below_drewN hb11 1
      clear hb11
      refine wp_region_held_drew (S := fun W' => W'.cell? ⟨wr.heap.size, 0, none⟩ = some (vi kk) ∧ W'.cell? ⟨wr.heap.size, 1, none⟩ = some (vi a2) ∧ W'.cell? ⟨wr.heap.size, 2, none⟩ = some (vi b2) ∧ W'.cell? ⟨k, 0, none⟩ = some (.pointer (some ⟨b, 0, none⟩))) (by kernel_rfl) (KX.out _ hc0).2.1 (fun hHeld => ?_)
      refine tkH 0 ?_
      refine tkH 1 ?_
      refine tkH 2 ?_
      refine tkH 3 ?_
      refine tkH 4 ?_
      refine tkH 5 ?_
      refine tkH 6 ?_
      refine tkH 7 ?_
      refine tkH 8 ?_
      refine tkH 9 ?_
      refine tkH 10 ?_
      refine tkH 11 ?_
      refine tkH 12 ?_
      refine tkH 13 ?_
      refine tkH 14 ?_
      refine stH 15 (fun K hK => ?_)
      go_simp
      refine (apply_any p S b k kk _ _ (i64_fv _ hp2) (i64_fv _ hp2) _ (HF.out.below (KX.out _ hc0).1 HF.out.le) (KX.out _ hc0).2.1.2.2.2).mono ?_
      rintro _ w12 ⟨rfl, k12, h12⟩
      have hc1 : Below wA.heap.size wA w12 := by rw [h12]; exact below_drewN hc0 _
      clear h12
      refine hK.out _ _ (KX.out _ hc1).2.1 (fun hHeld => ?_)
      clear hK K
      (try simp only [Act.put, List.setIfInBounds_toArray, List.set_cons_zero, List.set_cons_succ])
      refine stH 16 (fun K hK => ?_)
      go_simp
      refine (mul_any p hp2 b _ _ (i64_fv _ hp2) (i64_fv _ hp2) _ (KX.out _ hc1).2.2).mono ?_
      rintro _ w13 ⟨rfl, k13, h13⟩
      have hc2 : Below wA.heap.size wA w13 := by rw [h13]; exact below_drewN hc1 _
      clear h13
      refine hK.out _ _ (KX.out _ hc2).2.1 (fun hHeld => ?_)
      clear hK K
      (try simp only [Act.put, List.setIfInBounds_toArray, List.set_cons_zero, List.set_cons_succ])
      refine stH 17 (fun K hK => ?_)
      go_simp
      refine (add_any p hp2 b _ _ (i64_fv _ hp2) (i64_fv _ hp2) _ (KX.out _ hc2).2.2).mono ?_
      rintro _ w14 ⟨rfl, k14, h14⟩
      have hc3 : Below wA.heap.size wA w14 := by rw [h14]; exact below_drewN hc2 _
      clear h14
      refine hK.out _ _ (KX.out _ hc3).2.1 (fun hHeld => ?_)
      clear hK K
      (try simp only [Act.put, List.setIfInBounds_toArray, List.set_cons_zero, List.set_cons_succ])
      refine tkH 18 ?_
      refine wpAnyH_done (by kernel_rfl) ?_ _
      have HBF := Lib.hid (KX.out _ hc3).1
      clear hHeld hc0 hc1 hc2 hc3 KX
      go_wp2
      go_roundw
      case rel => exact ⟨t + 1, by omega, by rw [HST.out]; simp only [el_fv], by go_num, HBF.out⟩
      case measure => simp only [intOf, Int.toNat_natCast]; omega
    · obtain rfl : t = nG := by omega
      have HB := Lib.hid hb
      clear hb
      go_wp2
      go_ret
      exact ⟨by rw [HP.out, List.length_map, HLG.out]; rfl, HB.out⟩
end Go.Proofs.YteceghbjjnknbaaGreat

namespace Go.Proofs.YteceghbjjnknbaaGreat
open Go.RowKit Zp
def gateL (g : GateR) : List Int := [g.k, g.a, g.b]
def layL (l : List GateR) : List Int := (l.length : Int) :: l.flatMap gateL
def labG (p : Nat) (wide : Int) (Ls : List (List GateR)) : List Int := [(p : Int), wide, (Ls.length : Int)] ++ Ls.flatMap layL
theorem gatesL_len (l : List GateR) : (l.flatMap gateL).length = 3 * l.length := by
  induction l with
  | nil => rfl
  | cons g l ih => rw [List.flatMap_cons, List.length_append, ih, List.length_cons]; show 3 + _ = _; omega
theorem laysL_len (Ls : List (List GateR)) (h : ∀ l ∈ Ls, l.length ≤ 64) : (Ls.flatMap layL).length ≤ 193 * Ls.length := by
  induction Ls with
  | nil => simp
  | cons l Ls ih =>
    rw [List.flatMap_cons, List.length_append, List.length_cons]
    have h1 := ih fun x hx => h x (List.mem_cons_of_mem _ hx)
    have h2 := h l (List.mem_cons_self)
    have h3 : (layL l).length = 3 * l.length + 1 := by show (List.flatMap gateL l).length + 1 = _; rw [gatesL_len]
    omega
theorem flatg_take {α β : Type} (f : α → List β) (l : List α) (t : Nat) (h : t < l.length) : (l.take (t + 1)).flatMap f = (l.take t).flatMap f ++ f l[t] := by
  rw [List.take_add_one, List.getElem?_eq_getElem h, Option.toList_some, List.flatMap_append]
  simp
theorem CirR.lay64 {wide : Int} {Ls : List (List GateR)} (h : CirR wide Ls) : ∀ l ∈ Ls, l.length ≤ 64 := fun l hl => ((layN_iff _).1 (h.lay l hl)).2.2
theorem CirR.lab_len {wide : Int} {Ls : List (List GateR)} (h : CirR wide Ls) (p : Nat) : (labG p wide Ls).length ≤ 1547 := by
  have h1 := laysL_len Ls h.lay64
  have h2 := h.n8
  rw [labG, List.length_append]
  show 3 + _ ≤ _
  omega
theorem CirR.lab_i64 {v : Nat} {Ls : List (List GateR)} (h : CirR (v : Int) Ls) (p : Nat) (hp : p ≤ 2147483647) : ∀ x ∈ labG p (v : Int) Ls, I64 x := fun x hx => by
  have h6 := h.w6
  have h8 := h.n8
  rw [labG, List.mem_append] at hx
  rcases hx with hx | hx
  · simp at hx
    rcases hx with rfl | rfl | rfl <;> constructor <;> omega
  · obtain ⟨l, hl, hx⟩ := List.mem_flatMap.1 hx
    have h64 := h.lay64 l hl
    rw [layL, List.mem_cons] at hx
    rcases hx with rfl | hx
    · constructor <;> omega
    · obtain ⟨g, hg, hxg⟩ := List.mem_flatMap.1 hx
      obtain ⟨t, ht, rfl⟩ := List.mem_iff_getElem.1 hl
      obtain ⟨g1, g2, g3, g4, g5⟩ := h.gate t ht g hg
      have hb : benR (v : Int) Ls t ≤ 64 := by
        rw [h.ben t (by omega)]
        have h1 := h.small t
        have := Nat.pow_le_pow_right (n := 2) (by omega) h1
        omega
      have hx3 : x = g.k ∨ x = g.a ∨ x = g.b := by simpa [gateL] using hxg
      rcases hx3 with hx3 | hx3 | hx3 <;> rw [hx3] <;> constructor <;> omega
theorem own_above {w : World} {base n cap c : Nat} {A : Option Addr} {ad : Addr} {xs : List Int} (h : Own w base (.slice A n cap) xs) (hA : A = some ad) (hc : c < base) : c < ad.block := by
  subst hA
  rcases h.2 with ⟨e, _⟩ | ⟨g, cap', cur, e, hb, _⟩
  · cases e
  · injection e with e _ _
    injection e with e
    subst e
    exact Nat.lt_of_lt_of_le hc hb
def BegIs {p : Nat} [NeZero p] (kk s : Nat) (D : List Int) (n : Nat) (w : World) (e : Ending) (w' : World) : Prop :=
  ∃ (c : Nat) (A : Option Addr) (m : Nat), e = .returned (.tuple #[.pointer (some ⟨c, 0, none⟩), .slice A n m]) ∧ w.heap.size ≤ c ∧ Chn w' c s (iterD p kk D n) ∧ SL w' A (drawsL p kk D n) ∧ (∀ ad, A = some ad → c < ad.block) ∧ Below w.heap.size w w'
set_option maxRecDepth 100000 in
set_option maxHeartbeats 4000000 in
theorem begin_any (p S b s kk z v : Nat) [NeZero p] (oo : Nat → Nat → Fin p) (AL : Option Addr) (nL cL : Nat) (Ls : List (List GateR)) (hLn : Ls.length = nL) (hyes : CirR (v : Int) Ls) (A : Option Addr) (nA cA : Nat) (outs : List Int) (hol : outs.length = nA) (hoI : ∀ x ∈ outs, I64 x) (ho64 : nA ≤ 64) (w : World) (F : Fld w S b p) (G : Spg w s b kk z oo) (hLT : LT w AL Ls) (hos : SL w A outs) :
    Calls Tryz.prog 23 #[.pointer (some ⟨s, 0, none⟩), .agg #[vi (v : Int), .slice AL nL cL], .slice A nA cA] w (BegIs (p := p) kk s (digL p kk (2 :: (labG p (v : Int) Ls ++ outs))) (nvR Ls v Ls.length) w) := by
  have hp2 := F.max
  have h6 := hyes.w6
  have h8 := hyes.n8
  have h1 := hyes.n1
  have hb0 : Below w.heap.size w (w.alloc (.cells #[vi (v : Int), .slice AL nL cL] 24)) := (Below.refl _ _).alloc (Nat.le_refl _) _
  obtain ⟨W0, hW0⟩ : ∃ W0, W0 = w.alloc (.cells #[vi (v : Int), .slice AL nL cL] 24) := ⟨_, rfl⟩
  rw [← hW0] at hb0
  have hQ : Blk W0 w.heap.size 24 #[vi (v : Int), .slice AL nL cL] := by rw [hW0]; exact Blk.new _ _ _
  have HW0 := Lib.hid hW0
  have HB0 := Lib.hid hb0
  have HQ := Lib.hid hQ
  have HF := Lib.hid F
  have HG := Lib.hid G
  have HLT := Lib.hid hLT
  have HOS := Lib.hid hos
  have HOL := Lib.hid hol
  have HOI := Lib.hid hoI
  have HYES := Lib.hid hyes
  have HLN := Lib.hid hLn
  have HVA := Lib.hid (fun W hLT => vars_lvl v AL nL cL Ls hLn hyes Ls.length (Nat.le_refl _) ((nL : Int) - 1) (by rw [hLn]) W hLT)
  have HFD := Lib.hid (fun W hG => sfield_s s b kk z oo W hG)
  have HPP := Lib.hid (fun W hc => p_any p b W hc)
  obtain ⟨n, hn⟩ : ∃ n, n = nvR Ls v Ls.length := ⟨_, rfl⟩
  rw [← hn] at HVA ⊢
  have hn6 : n ≤ 6 := by rw [hn]; exact hyes.small _
  have q0 := (hQ.cell 0).trans (show _ = some (vi (v : Int)) from rfl)
  have q1 := (hQ.cell 1).trans (show _ = some (.slice AL nL cL) from rfl)
  have iw : IntKind.i64.wrap ((nL : Int) - 1) = (nL : Int) - 1 := IntWalk.i64_in _ (by constructor <;> omega)
  clear F G hLT hos hol hoI hyes hLn hb0 hQ hW0 hn
  go_enter Tryz.func23, Tryz.ntmps23
  go_upto_region 1 with (fail)
  rw [← HW0.out]
  refine wp_region_held_drew (S := fun W' => W'.cell? ⟨w.heap.size, 0, none⟩ = some (vi (v : Int)) ∧ W'.cell? ⟨w.heap.size, 1, none⟩ = some (.slice AL nL cL)) (by kernel_rfl) ⟨q0, q1⟩ (fun hHeld => ?_)
  refine tkH 0 ?_
  refine tkH 3 ?_
  refine tkH 4 ?_
  refine tkH 5 ?_
  refine tkH 6 ?_
  refine tkH 7 ?_
  refine stH 1 (fun K hK => ?_)
  go_simp
  refine (HFD.out W0.drew (HG.out.below (below_drewN HB0.out 1) (block_lt_of_cell HG.out.c0))).mono ?_
  rintro _ _ ⟨rfl, rfl⟩
  refine hK.out _ _ ⟨q0, q1⟩ (fun hHeld => ?_)
  clear hK K
  (try simp only [Act.put, List.setIfInBounds_toArray, List.set_cons_zero, List.set_cons_succ])
  refine stH 2 (fun K hK => ?_)
  go_simp
  refine (HPP.out W0.drew (HF.out.below (below_drewN HB0.out 1) HF.out.le).c0).mono ?_
  rintro _ _ ⟨rfl, rfl⟩
  refine hK.out _ _ ⟨q0, q1⟩ (fun hHeld => ?_)
  clear hK K
  (try simp only [Act.put, List.setIfInBounds_toArray, List.set_cons_zero, List.set_cons_succ])
  refine stH 8 (fun K hK => ?_)
  go_simp
  have S1 : (W0.drew.alloc (.cells #[vi (p : Int), vi (v : Int), vi (nL : Int)] 3)).cell? ⟨w.heap.size, 0, none⟩ = some (vi (v : Int)) ∧ (W0.drew.alloc (.cells #[vi (p : Int), vi (v : Int), vi (nL : Int)] 3)).cell? ⟨w.heap.size, 1, none⟩ = some (.slice AL nL cL) := by
    have h := (HQ.out.drew).alloc (.cells #[vi (p : Int), vi (v : Int), vi (nL : Int)] 3)
    exact ⟨(h.cell 0).trans rfl, (h.cell 1).trans rfl⟩
  refine hK.out _ _ S1 (fun hHeld => ?_)
  clear hK K
  (try simp only [Act.put, List.setIfInBounds_toArray, List.set_cons_zero, List.set_cons_succ])
  refine tkH 9 ?_
  refine wpAnyH_done (by kernel_rfl) ?_ _
  obtain ⟨w1, hw1⟩ : ∃ w1, w1 = (W0.alloc (.cells #[vi (p : Int), vi (v : Int), vi (nL : Int)] 3)).drew := ⟨_, rfl⟩
  rw [← hw1]
  have ho1 : Own w1 W0.heap.size (.slice (some ⟨W0.heap.size, 0, none⟩) 3 3) ([(p : Int), (v : Int), (Ls.length : Int)] ++ (Ls.take 0).flatMap layL) := by
    rw [hw1, HLN.out]
    exact own_lit W0 W0.heap.size [(p : Int), (v : Int), (nL : Int)] (Nat.le_refl _) (by simp [maxLen])
  have hb1 : Below W0.heap.size W0 w1 := by rw [hw1]; exact below_drewN ((Below.refl _ _).alloc (Nat.le_refl _) _) 1
  have HO1 := Lib.hid ho1
  have HB1 := Lib.hid hb1
  have hq2 := HQ.out.below hb1 HQ.out.lt
  have q2 := (hq2.cell 0).trans (show _ = some (vi (v : Int)) from rfl)
  have q3 := (hq2.cell 1).trans (show _ = some (.slice AL nL cL) from rfl)
  have HLEN : Hid (∀ t, ([(p : Int), (v : Int), (Ls.length : Int)] ++ (Ls.take t).flatMap layL).length ≤ 1547) := Lib.hid fun t => by
    have h1 := laysL_len (Ls.take t) fun l hl => HYES.out.lay64 l (List.mem_of_mem_take hl)
    have h2 : (Ls.take t).length ≤ 8 := by rw [List.length_take]; omega
    rw [List.length_append]
    show 3 + _ ≤ _
    omega
  have HHL := Lib.hid (show ([(p : Int), (v : Int), (Ls.length : Int)] ++ (Ls.take nL).flatMap layL) = labG p (v : Int) Ls by rw [labG, List.take_of_length_le (by rw [HLN.out]; exact Nat.le_refl _)])
  clear hHeld ho1 hb1 hq2 hw1 q0 q1 S1 HW0
  go_wp2
  go_loopw [8, 26] (fun u i wr => ∃ t : Nat, t ≤ nL ∧ i = vi t ∧ Own wr W0.heap.size u ([(p : Int), (v : Int), (Ls.length : Int)] ++ (Ls.take t).flatMap layL) ∧ Below W0.heap.size W0 wr) (fun _ i _ => nL - (intOf i).toNat)
  case atStart => exact ⟨0, Nat.zero_le _, rfl, HO1.out, HB1.out⟩
  case round =>
    rename World => w2
    obtain ⟨t, ht, rfl, ho, hb⟩ := hrel
    have hbw := HB0.out.trans (hb.mono HB0.out.size)
    by_cases htn : t < nL
    · have htg : t < Ls.length := by rw [HLN.out]; exact htn
      obtain ⟨al, AG, nG, cG, rfl, hal, hcl, hlG, hG2, hGT⟩ := HLT.out t htg
      have hcl2 := (hbw.cell (block_lt_of_cell hcl)).trans hcl
      have hnG : nG ≤ 64 := by rw [← hlG]; exact HYES.out.lay64 _ (List.getElem_mem htg)
      have i1 : (0 : Int) ≤ (t : Int) := by omega
      have i2 : (t : Int) < (nL : Int) := by omega
      have hft := flatg_take layL Ls t htg
      have hll : layL Ls[t] = (nG : Int) :: Ls[t].flatMap gateL := by rw [layL, hlG]
      rw [hll] at hft
      obtain ⟨gs, hgs⟩ : ∃ gs, gs = Ls[t] := ⟨_, rfl⟩
      rw [← hgs] at hft hlG hGT
      obtain ⟨pre, hpre⟩ : ∃ pre, pre = [(p : Int), (v : Int), (Ls.length : Int)] ++ (Ls.take t).flatMap layL := ⟨_, rfl⟩
      have hpl : pre.length ≤ 1547 := by rw [hpre]; exact HLEN.out t
      have hnx : [(p : Int), (v : Int), (Ls.length : Int)] ++ (Ls.take (t + 1)).flatMap layL = (pre ++ [(nG : Int)]) ++ gs.flatMap gateL := by rw [hft, hpre]; simp
      rw [← hpre] at ho
      have HNX := Lib.hid hnx
      have HGT := Lib.hid hGT
      have HLG := Lib.hid hlG
      have HPL := Lib.hid (show pre.length < 17592186044416 by omega)
      have HPL2 := Lib.hid (show ∀ j, j ≤ 64 → ((pre ++ [(nG : Int)]) ++ (gs.take j).flatMap gateL).length + 3 ≤ 17592186044416 from fun j hj => by
        rw [List.length_append, List.length_append, gatesL_len, List.length_take]; show pre.length + 1 + _ + 3 ≤ _; omega)
      clear hft hll hlG hGT hgs hnx hpre hal hcl hbw
      go_upto_region 6 with (at_builtin; refine wpList_app1 w2 (nG : Int) rfl _ _ rfl W0.heap.size _ _ rfl rfl ho HPL.out hb.size ?_; intro u3 w3 hg3; obtain ⟨A3, n3, c3, rfl, hl3, _, _, _⟩ := hg3.own.shapeN)
      have ho3 := hg3.own
      have hb3 := hg3.below hb ho (Nat.le_refl _) hb.size
      have HO3 := Lib.hid ho3
      have HB3 := Lib.hid hb3
      clear hg3 hl3 ho3 hb3 ho
      go_wp2
      go_loopw [8, 37] (fun u i wr => ∃ j : Nat, j ≤ nG ∧ i = vi j ∧ Own wr W0.heap.size u ((pre ++ [(nG : Int)]) ++ (gs.take j).flatMap gateL) ∧ Below W0.heap.size W0 wr) (fun _ i _ => nG - (intOf i).toNat)
      case atStart => exact ⟨0, Nat.zero_le _, rfl, by rw [List.take_zero, List.flatMap_nil, List.append_nil]; exact HO3.out, HB3.out⟩
      case round =>
        obtain ⟨j, hj, rfl, ho, hb⟩ := hrel
        obtain ⟨AU, nU, cU, rfl, hlU, _, _, _⟩ := ho.shapeN
        clear hlU
        have hbw := HB0.out.trans (hb.mono HB0.out.size)
        by_cases hjn : j < nG
        · have hjg : j < gs.length := by rw [HLG.out]; exact hjn
          obtain ⟨ad, rfl, hE⟩ := (HGT.out.below hbw) j hjg
          obtain ⟨d0, d1, d2⟩ := hE.cells
          clear hE
          have i3 : (0 : Int) ≤ (j : Int) := by omega
          have i4 : (j : Int) < (nG : Int) := by omega
          have hfj := flatg_take gateL gs j hjg
          have hgj : gateL gs[j] = [gs[j].k, gs[j].a, gs[j].b] := rfl
          rw [hgj] at hfj
          obtain ⟨x0, h0⟩ : ∃ x, x = gs[j].k := ⟨_, rfl⟩
          obtain ⟨x1, h1⟩ : ∃ x, x = gs[j].a := ⟨_, rfl⟩
          obtain ⟨x2, h2⟩ : ∃ x, x = gs[j].b := ⟨_, rfl⟩
          rw [← h0, ← h1, ← h2] at hfj
          rw [← h0] at d0
          rw [← h1] at d1
          rw [← h2] at d2
          have HFJ := Lib.hid hfj
          have HPJ := Lib.hid (HPL2.out j (by omega))
          obtain ⟨wA, hwA⟩ : ∃ wA, wA = wr.alloc (.cells #[vi x0, vi x1, vi x2] 61) := ⟨_, rfl⟩
          have hbA : Below W0.heap.size W0 wA := by rw [hwA]; exact hb.alloc hb.size _
          have hgA : Blk wA wr.heap.size 61 #[vi x0, vi x1, vi x2] := by rw [hwA]; exact Blk.new _ _ _
          have hoA : Own wA W0.heap.size (.slice AU nU cU) ((pre ++ [(nG : Int)]) ++ (gs.take j).flatMap gateL) := by rw [hwA]; exact ho.alloc _
          have z0 := (hgA.cell 0).trans (show _ = some (vi x0) from rfl)
          have z1 := (hgA.cell 1).trans (show _ = some (vi x1) from rfl)
          have z2 := (hgA.cell 2).trans (show _ = some (vi x2) from rfl)
          have HOA := Lib.hid hoA
          have HBA := Lib.hid hbA
          have HWA := Lib.hid hwA
          clear hfj hgj h0 h1 h2 hbA hgA hoA hwA hbw ho
          go_upto_region 9 with (fail)
          rw [← HWA.out]
          clear d0 d1 d2
          have HOB : Hid (Own (wA.alloc (.cells #[vi x0, vi x1, vi x2] 3)) W0.heap.size (.slice AU nU cU) ((pre ++ [(nG : Int)]) ++ (gs.take j).flatMap gateL)) := Lib.hid (HOA.out.alloc _)
          have HSB : Hid (SL (wA.alloc (.cells #[vi x0, vi x1, vi x2] 3)) (some ⟨wA.heap.size, 0, none⟩) [x0, x1, x2]) := Lib.hid (sl_lit' wA [x0, x1, x2])
          have HBB := Lib.hid (HBA.out.alloc HBA.out.size (.cells #[vi x0, vi x1, vi x2] 3))
          go_upto_region 10 with (at_builtin; refine wpList_appA (wA.alloc (.cells #[vi x0, vi x1, vi x2] 3)) rfl _ _ rfl W0.heap.size (.slice AU nU cU) ((pre ++ [(nG : Int)]) ++ (gs.take j).flatMap gateL) (some ⟨wA.heap.size, 0, none⟩) 3 3 [x0, x1, x2] rfl rfl rfl HOB.out HSB.out HPJ.out HBB.out.size ?_; intro u4 w4 hg4; obtain ⟨A4, n4, c4, rfl, hl4, _, _, _⟩ := hg4.own.shapeN)
          have ho4 := hg4.own
          have hb4 := hg4.below HBB.out HOB.out (Nat.le_refl _) HBB.out.size
          rw [List.append_assoc, ← HFJ.out] at ho4
          have HO4 := Lib.hid ho4
          have HB4 := Lib.hid hb4
          clear ho4 hb4 hg4 hl4
          go_wp2
          go_roundw
          case rel => exact ⟨j + 1, by omega, by go_num, HO4.out, HB4.out⟩
          case measure => simp only [intOf, Int.toNat_natCast]; omega
        · obtain rfl : j = nG := by omega
          rw [List.take_of_length_le (by rw [HLG.out]; exact Nat.le_refl _), ← HNX.out] at ho
          have HO4 := Lib.hid ho
          have HB4 := Lib.hid hb
          clear ho hb hbw
          go_wp2
          go_roundw
          case rel => exact ⟨t + 1, by omega, by go_num, HO4.out, HB4.out⟩
          case measure => simp only [intOf, Int.toNat_natCast]; omega
    · obtain rfl : t = nL := by omega
      rw [HHL.out] at ho
      obtain ⟨A5, n5, c5, rfl, hl5, _, _, _⟩ := ho.shapeN
      have HLB := Lib.hid (show (labG p (v : Int) Ls).length + nA ≤ 17592186044416 by have := HYES.out.lab_len p; omega)
      have HOX := Lib.hid (HOS.out.below hbw)
      have HO := Lib.hid ho
      have HB := Lib.hid hb
      have HTOT : Hid (∀ x ∈ labG p (v : Int) Ls ++ outs, I64 x) := Lib.hid fun x hx => by
        rcases List.mem_append.1 hx with hx | hx
        · exact HYES.out.lab_i64 p hp2 x hx
        · exact HOI.out x hx
      have HTL := Lib.hid (show (labG p (v : Int) Ls ++ outs).length * 8 ≤ 140737488351232 by rw [List.length_append, HOL.out]; have := HYES.out.lab_len p; omega)
      clear ho hb hbw hl5
      go_wp2_with (at_builtin; refine wpList_appA w2 rfl _ _ rfl W0.heap.size _ _ A nA cA outs rfl rfl HOL.out HO.out HOX.out HLB.out HB.out.size ?_; intro u6 w6 hg6; obtain ⟨A6, n6, c6, rfl, hl6, _, _, hs6⟩ := hg6.own.shapeN)
      have hb6 := hg6.below HB.out HO.out (Nat.le_refl _) HB.out.size
      have hbw6 := HB0.out.trans (hb6.mono HB0.out.size)
      refine (chnew_any p S b s kk z oo A6 n6 c6 (labG p (v : Int) Ls ++ outs) hl6 HTOT.out (by rw [← hl6]; exact HTL.out) w6 (HF.out.below hbw6 HF.out.le) (HG.out.below hbw6 (block_lt_of_cell HG.out.c0)) hs6).mono ?_
      rintro _ w7 ⟨rfl, hC7, hb7⟩
      have hb67 := hb6.trans (hb7.mono hb6.size)
      have hbw7 := hbw6.trans (hb7.mono hbw6.size)
      have hq7 := HQ.out.below hb67 HQ.out.lt
      have r2 := (hq7.cell 0).trans (show _ = some (vi (v : Int)) from rfl)
      have r3 := (hq7.cell 1).trans (show _ = some (.slice AL t cL) from rfl)
      have HC7 := Lib.hid hC7
      have HBW6 := Lib.hid hbw6
      have HBW7 := Lib.hid hbw7
      have HSC := Lib.hid (show s < w6.heap.size from Nat.lt_of_lt_of_le (block_lt_of_cell HG.out.c0) hbw6.size)
      have HSS := Lib.hid (show S ≤ w6.heap.size from Nat.le_trans HF.out.le hbw6.size)
      clear hg6 hl6 hs6 hb6 hbw6 hC7 hb7 hb67 hbw7 hq7
      go_wp2_with fail
      refine (HVA.out _ (HLT.out.below HBW7.out)).mono ?_
      rintro _ w8 ⟨rfl, hb8⟩
      have hbw8 := HBW7.out.trans (hb8.mono HBW7.out.size)
      have hC8 := HC7.out.below hb8
      have HBW8 := Lib.hid hbw8
      clear hb8 hbw8
      by_cases hn0 : n = 0
      · subst hn0
        go_wp2_with fail
        refine (chdraws_no w6.heap.size 0 (by constructor <;> decide) (.inl (by decide)) w8).mono ?_
        rintro _ _ ⟨rfl, rfl⟩
        go_wp2
        go_ret2
        exact ⟨w6.heap.size, none, 0, rfl, HBW6.out.size, hC8, SL.nil, (fun ad had => by cases had), HBW8.out⟩
      · have HD := Lib.hid (chdraws_any p S b s kk z w6.heap.size oo _ n (by omega) (by omega) w8 (HF.out.below HBW8.out HF.out.le) (HG.out.below HBW8.out (block_lt_of_cell HG.out.c0)) HSS.out HSC.out hC8)
        have HC8L := Lib.hid hC8.lt
        clear hC8
        go_wp2_with fail
        refine HD.out.mono ?_
        rintro _ w9 ⟨u9, rfl, ho9, hC9, hg9⟩
        obtain ⟨A9, n9, c9, rfl, hl9, _, _, hs9⟩ := ho9.shapeN
        have hl9n : n9 = n := by rw [← hl9]; simp [drawsL]
        subst hl9n
        have HF9 := Lib.hid (show BegIs (p := p) kk s (digL p kk (2 :: (labG p (v : Int) Ls ++ outs))) n9 w (.returned (.tuple #[.pointer (some ⟨w6.heap.size, 0, none⟩), .slice A9 n9 c9])) w9 from ⟨w6.heap.size, A9, c9, rfl, HBW6.out.size, hC9, hs9, (fun ad had => own_above ho9 had (HC8L.out)), HBW8.out.grown hg9 HBW8.out.size (fun j hj => by injection hj with hj; subst hj; exact HBW6.out.size)⟩)
        clear ho9 hC9 hg9 hs9 hl9
        go_wp2
        go_ret2
        exact HF9.out
end Go.Proofs.YteceghbjjnknbaaGreat

namespace Go.Proofs.YteceghbjjnknbaaGreat
open Go.RowKit Zp
set_option maxRecDepth 100000 in
set_option maxHeartbeats 1000000 in
theorem between_any (p S b : Nat) [NeZero p] (n : Nat) (hn1 : n ≤ 65536) (A B : Option Addr) (cA cB : Nat) (xs ys : List Int) (hml : xs.length = n) (hmy : ys.length = n) (hxs : ∀ x ∈ xs, I64 x) (hys : ∀ x ∈ ys, I64 x) (r : Int) (hr : I64 r) (w : World) (F : Fld w S b p) (hs : SL w A xs) (hsy : SL w B ys) :
    Calls Tryz.prog 66 #[.pointer (some ⟨b, 0, none⟩), .slice A n cA, .slice B n cB, vi r] w fun e w' => Made (fvs (betw (els p xs) (els p ys) (el p r))) w e w' := by
  have hp1 := F.two
  have hp2 := F.max
  have hmk := make_ints0 n (by omega)
  have hbS := F.le
  have hcb := F.c0
  have hbl : b < w.heap.size := block_lt_of_cell hcb
  have HML := Lib.hid hml
  have HMY := Lib.hid hmy
  obtain ⟨l, hl⟩ : ∃ l, l = betw (els p xs) (els p ys) (el p r) := ⟨_, rfl⟩
  rw [← hl]
  have hll : l.length = n := by rw [hl, betw_length _ _ _ (by simp [hml, hmy])]; simp [hml]
  have HLL := Lib.hid hll
  have HL := Lib.hid hl
  clear hml hmy hl hll
  go_enter Tryz.func66, Tryz.ntmps66
  go_wp2
  go_loopw [9, 16] (fun v i wr => FoldRel l n w v i wr) (fun _ i _ => n - (intOf i).toNat)
  case atStart => exact ⟨0, w.heap.size, Nat.zero_le _, rfl, rfl, own_made0 w _ n (Nat.le_refl _) (by omega), (Below.refl _ _).alloc (Nat.le_refl _) _⟩
  case round =>
    obtain ⟨k, g, hk, rfl, rfl, hown, hb⟩ := hrel
    have hcR : wr.cell? ⟨b, 0, none⟩ = some (vi p) := (hb.cell (p := ⟨b, 0, none⟩) hbl).trans hcb
    by_cases hkh : k < n
    · have hsw := hs.below hb
      have hswy := hsy.below hb
      have hkx : k < xs.length := by rw [HML.out]; omega
      have hky : k < ys.length := by rw [HMY.out]; omega
      obtain ⟨ad, rfl, _, hc1⟩ := hsw.at_ hkx
      obtain ⟨bd, rfl, _, hc2⟩ := hswy.at_ hky
      obtain ⟨ad2, he2, hab, _⟩ := hs.at_ hkx
      injection he2 with he2
      subst he2
      obtain ⟨bd2, he3, hbb, _⟩ := hsy.at_ hky
      injection he3 with he3
      subst he3
      have hgl := (hown.lt g rfl).1
      have hk1 : some (ad.add k).block ≠ some g := by rw [block_of_add]; intro e; injection e with e; omega
      have hk2 : some (bd.add k).block ≠ some g := by rw [block_of_add]; intro e; injection e with e; omega
      have ix := hxs _ (List.getElem_mem hkx)
      have iy := hys _ (List.getElem_mem hky)
      have h2 := map_take_succ fv l k (by rw [HLL.out]; exact hkh)
      have h3 : l[k]'(by rw [HLL.out]; exact hkh) = el p xs[k] + el p r * (el p ys[k] - el p xs[k]) := by
        have e : l[k]? = some (el p xs[k] + el p r * (el p ys[k] - el p xs[k])) := by
          rw [HL.out, betw, List.getElem?_zipWith, els, els, List.getElem?_map, List.getElem?_map, List.getElem?_eq_getElem hkx, List.getElem?_eq_getElem hky]
          rfl
        rw [List.getElem?_eq_getElem (by rw [HLL.out]; exact hkh)] at e
        injection e
      obtain ⟨x, hx⟩ : ∃ x, x = xs[k] := ⟨_, rfl⟩
      obtain ⟨y, hy⟩ : ∃ y, y = ys[k] := ⟨_, rfl⟩
      rw [← hx] at hc1 ix h3
      rw [← hy] at hc2 iy h3
      rw [h3] at h2
      have hlk : ((fvs l).take k).length = k := by rw [List.length_take, List.length_map, HLL.out]; omega
      have H2 := Lib.hid h2
      have HLK := Lib.hid hlk
      have i1 : (0 : Int) ≤ k := by omega
      have i2 : (k : Int) < n := by omega
      clear h2 h3 hx hy hlk
      go_wp2
      go_region_held3 (fun w' => w'.cell? (ad.add k) = some (vi x) ∧ w'.cell? (bd.add k) = some (vi y)) (first | exact ⟨hc1, hc2⟩ | go_keep | exact ⟨hg.cell hc1 hk1, hg.cell hc2 hk2⟩) ((first | (go_at_call 84; refine (sub_any p hp2 b _ _ iy ix _ (by exact hcR)).mono ?_; rintro e w' ⟨rfl, rfl⟩) | (go_at_call 75; refine (mul_any p hp2 b _ _ hr (i64_fv _ hp2) _ (by exact hcR)).mono ?_; rintro e w' ⟨rfl, k3, rfl⟩) | (go_at_call 73; refine (add_any p hp2 b _ _ ix (i64_fv _ hp2) _ (by exact hcR)).mono ?_; rintro e w' ⟨rfl, k5, rfl⟩) | (refine step_app1_fits _ _ _ (by rfl) (by rfl) _ _ (by rfl) w.heap.size g k n _ (by rfl) (by rfl) (hown.drewN _) HLK.out.symm hkh ?_; intro w1 hown1 hg)))
      go_wp2
      go_roundw
      case rel => exact ⟨k + 1, g, by omega, by go_num, rfl, by rw [← H2.out]; simp only [el_fv] at hown1; exact hown1, (below_drewN hb _).grown hg hb.size (fun j hj => by injection hj with hj; subst hj; exact hgl)⟩
      case measure => simp [intOf]; omega
    · obtain rfl : k = n := by omega
      go_wp2
      go_ret
      rw [List.take_of_length_le (by rw [List.length_map, HLL.out]; exact Nat.le_refl _)] at hown
      exact ⟨_, rfl, hown, hb⟩
end Go.Proofs.YteceghbjjnknbaaGreat

namespace Go.Proofs.YteceghbjjnknbaaGreat
open Go.Shelf
def shSort_ren : Go.Shelf.Ren := ⟨fun | 5 => 87 | 8 => 79 | 7 => 114 | 19 => 107 | 20 => 108 | 10 => 126 | 11 => 127 | 12 => 128 | 13 => 129 | 14 => 130 | 15 => 131 | 16 => 132 | 17 => 133 | 18 => 134 | 30 => 138 | 31 => 139 | 32 => 140 | 33 => 141 | 34 => 142 | 35 => 143 | 40 => 145 | n => n, fun | 23 => 25 | 25 => 3 | 3 => 3 | 32 => 136 | 22 => 25 | 0 => 0 | 44 => 158 | 46 => 160 | 4 => 4 | 36 => 181 | 35 => 180 | 41 => 56 | 5 => 5 | 9 => 9 | 53 => 189 | 57 => 193 | 63 => 195 | 64 => 151 | n => n, fun | n => n⟩
theorem shSort : Go.Proofs.SlLaysM.n5 Tryz.prog shSort_ren := {
  mixed := by kernel_rfl
  f5 := ⟨Tryz.f87.name, by decide, Tryz.func87.trans (congrArg some (by kernel_rfl))⟩
  f7 := ⟨Tryz.f114.name, by decide, Tryz.func114.trans (congrArg some (by kernel_rfl))⟩
  f8 := Tryz.func79.trans (congrArg some (by kernel_rfl))
  f10 := ⟨Tryz.f126.name, by decide, Tryz.func126.trans (congrArg some (by kernel_rfl))⟩
  f11 := ⟨Tryz.f127.name, by decide, Tryz.func127.trans (congrArg some (by kernel_rfl))⟩
  f12 := ⟨Tryz.f128.name, by decide, Tryz.func128.trans (congrArg some (by kernel_rfl))⟩
  f13 := ⟨Tryz.f129.name, by decide, Tryz.func129.trans (congrArg some (by kernel_rfl))⟩
  f14 := ⟨Tryz.f130.name, by decide, Tryz.func130.trans (congrArg some (by kernel_rfl))⟩
  f15 := ⟨Tryz.f131.name, by decide, Tryz.func131.trans (congrArg some (by kernel_rfl))⟩
  f16 := ⟨Tryz.f132.name, by decide, Tryz.func132.trans (congrArg some (by kernel_rfl))⟩
  f17 := ⟨Tryz.f133.name, by decide, Tryz.func133.trans (congrArg some (by kernel_rfl))⟩
  f18 := ⟨Tryz.f134.name, by decide, Tryz.func134.trans (congrArg some (by kernel_rfl))⟩
  f19 := Tryz.func107.trans (congrArg some (by kernel_rfl))
  f20 := Tryz.func108.trans (congrArg some (by kernel_rfl))
  f30 := ⟨Tryz.f138.name, by decide, Tryz.func138.trans (congrArg some (by kernel_rfl))⟩
  f31 := Tryz.func139.trans (congrArg some (by kernel_rfl))
  f32 := Tryz.func140.trans (congrArg some (by kernel_rfl))
  f33 := ⟨Tryz.f141.name, by decide, Tryz.func141.trans (congrArg some (by kernel_rfl))⟩
  f34 := ⟨Tryz.f142.name, by decide, Tryz.func142.trans (congrArg some (by kernel_rfl))⟩
  f35 := ⟨Tryz.f143.name, by decide, Tryz.func143.trans (congrArg some (by kernel_rfl))⟩
  f40 := ⟨Tryz.f145.name, by decide, Tryz.func145.trans (congrArg some (by kernel_rfl))⟩
  t0 := Tryz.underlying0
  a0 := Tryz.isAgg0
  z0 := Tryz.sizeOf0
  v0 := Tryz.zeroValue0
  t3 := Tryz.underlying3
  a3 := Tryz.isAgg3
  z3 := Tryz.sizeOf3
  v3 := Tryz.zeroValue3
  t4 := Tryz.underlying4
  a4 := Tryz.isAgg4
  z4 := Tryz.sizeOf4
  v4 := Tryz.zeroValue4
  t5 := Tryz.underlying5
  a5 := Tryz.isAgg5
  z5 := Tryz.sizeOf5
  v5 := Tryz.zeroValue5
  t9 := Tryz.underlying9
  a9 := Tryz.isAgg9
  z9 := Tryz.sizeOf9
  v9 := Tryz.zeroValue9
  t22 := Tryz.underlying25
  a22 := Tryz.isAgg25
  z22 := Tryz.sizeOf25
  v22 := Tryz.zeroValue25
  t23 := Tryz.underlying25
  a23 := Tryz.isAgg25
  z23 := Tryz.sizeOf25
  v23 := Tryz.zeroValue25
  t25 := Tryz.underlying3
  a25 := Tryz.isAgg3
  z25 := Tryz.sizeOf3
  v25 := Tryz.zeroValue3
  t32 := Tryz.underlying136
  a32 := Tryz.isAgg136
  z32 := Tryz.sizeOf136
  v32 := Tryz.zeroValue136
  t35 := Tryz.underlying180
  a35 := Tryz.isAgg180
  z35 := Tryz.sizeOf180
  v35 := Tryz.zeroValue180
  t36 := Tryz.underlying181
  a36 := Tryz.isAgg181
  z36 := Tryz.sizeOf181
  v36 := Tryz.zeroValue181
  t41 := Tryz.underlying56
  a41 := Tryz.isAgg56
  z41 := Tryz.sizeOf56
  v41 := Tryz.zeroValue56
  t44 := Tryz.underlying158
  a44 := Tryz.isAgg158
  z44 := Tryz.sizeOf158
  v44 := Tryz.zeroValue158
  t46 := Tryz.underlying160
  a46 := Tryz.isAgg160
  z46 := Tryz.sizeOf160
  v46 := Tryz.zeroValue160
  t53 := Tryz.underlying189
  a53 := Tryz.isAgg189
  z53 := Tryz.sizeOf189
  v53 := Tryz.zeroValue189
  t57 := Tryz.underlying193
  a57 := Tryz.isAgg193
  z57 := Tryz.sizeOf193
  v57 := Tryz.zeroValue193
  t63 := Tryz.underlying195
  a63 := Tryz.isAgg195
  z63 := Tryz.sizeOf195
  v63 := Tryz.zeroValue195
  t64 := Tryz.underlying151
  a64 := Tryz.isAgg151
  z64 := Tryz.sizeOf151
  v64 := Tryz.zeroValue151 }
def shCompact_ren : Go.Shelf.Ren := ⟨fun | 43 => 88 | n => n, fun | 22 => 25 | 23 => 3 | 3 => 3 | 4 => 4 | 0 => 0 | n => n, fun | n => n⟩
theorem shCompact : Go.Proofs.SlLaysN.n43 Tryz.prog shCompact_ren := {
  mixed := by kernel_rfl
  f43 := ⟨Tryz.f88.name, by decide, Tryz.func88.trans (congrArg some (by kernel_rfl))⟩
  t0 := Tryz.underlying0
  a0 := Tryz.isAgg0
  z0 := Tryz.sizeOf0
  v0 := Tryz.zeroValue0
  t3 := Tryz.underlying3
  a3 := Tryz.isAgg3
  z3 := Tryz.sizeOf3
  v3 := Tryz.zeroValue3
  t4 := Tryz.underlying4
  a4 := Tryz.isAgg4
  z4 := Tryz.sizeOf4
  v4 := Tryz.zeroValue4
  t22 := Tryz.underlying25
  a22 := Tryz.isAgg25
  z22 := Tryz.sizeOf25
  v22 := Tryz.zeroValue25
  t23 := Tryz.underlying3
  a23 := Tryz.isAgg3
  z23 := Tryz.sizeOf3
  v23 := Tryz.zeroValue3
  i23 := by kernel_rfl }
end Go.Proofs.YteceghbjjnknbaaGreat

namespace Zp
open Go.Lib
theorem compactUpTo_asc (d : Array Int) (hs : ∀ i j, i ≤ j → j < d.size → d[i]! ≤ d[j]!) : ∀ m, m ≤ d.size → Asc (compactUpTo d m) ∧ ∀ x, x ∈ compactUpTo d m ↔ ∃ j, j < m ∧ d[j]! = x
  | 0, _ => ⟨by simp [compactUpTo, Asc], fun x => by simp [compactUpTo]⟩
  | m + 1, hm => by
    obtain ⟨ha, hx⟩ := compactUpTo_asc d hs m (by omega)
    rw [compactUpTo_succ]
    by_cases hk : keeps d m = true
    · rw [if_pos hk]
      constructor
      · refine List.pairwise_append.2 ⟨ha, by simp, fun a h1 b h2 => ?_⟩
        rw [List.mem_singleton] at h2
        subst h2
        obtain ⟨j, hj, rfl⟩ := (hx a).1 h1
        unfold keeps at hk
        have hk' := of_decide_eq_true hk
        rcases hk' with h0 | h0
        · omega
        · have e1 := hs j (m - 1) (by omega) (by omega)
          have e2 := hs (m - 1) m (by omega) (by omega)
          omega
      · intro x
        rw [List.mem_append, hx, List.mem_singleton]
        constructor
        · rintro (⟨j, hj, e⟩ | e)
          · exact ⟨j, by omega, e⟩
          · exact ⟨m, by omega, e.symm⟩
        · rintro ⟨j, hj, e⟩
          by_cases h : j < m
          · exact .inl ⟨j, h, e⟩
          · obtain rfl : j = m := by omega
            exact .inr e.symm
    · rw [if_neg hk, List.append_nil]
      refine ⟨ha, fun x => ?_⟩
      rw [hx]
      constructor
      · rintro ⟨j, hj, e⟩; exact ⟨j, by omega, e⟩
      · rintro ⟨j, hj, e⟩
        by_cases h : j < m
        · exact ⟨j, h, e⟩
        · obtain rfl : j = m := by omega
          unfold keeps at hk
          have hk' : ¬ (j = 0 ∨ d[j]! ≠ d[j - 1]!) := fun h => hk (decide_eq_true h)
          have h0 : j ≠ 0 := fun h => hk' (.inl h)
          have h1 : d[j]! = d[j - 1]! := Classical.byContradiction fun h => hk' (.inr h)
          exact ⟨j - 1, by omega, by rw [← h1]; exact e⟩
theorem compact_sorted {l : List Int} (h : l.Pairwise (· ≤ ·)) : Asc (compact l) ∧ ∀ x, x ∈ compact l ↔ x ∈ l := by
  have hg : ∀ (i : Nat) (hi : i < l.length), l.toArray[i]! = l[i] := fun i hi => by rw [getElem!_pos _ i (by simpa using hi)]; simp
  have hs : ∀ i j, i ≤ j → j < l.toArray.size → l.toArray[i]! ≤ l.toArray[j]! := fun i j hij hj => by
    have hj' : j < l.length := by simpa using hj
    rw [hg i (by omega), hg j hj']
    rcases Nat.lt_or_ge i j with h1 | h1
    · exact List.pairwise_iff_getElem.1 h i j (by omega) hj' h1
    · obtain rfl : i = j := by omega
      exact Int.le_refl _
  obtain ⟨h1, h2⟩ := compactUpTo_asc l.toArray hs l.length (by simp)
  refine ⟨h1, fun x => (h2 x).trans ?_⟩
  constructor
  · rintro ⟨j, hj, e⟩; rw [hg j hj] at e; subst e; exact List.getElem_mem _
  · intro hx
    obtain ⟨j, hj, e⟩ := List.mem_iff_getElem.1 hx
    exact ⟨j, hj, by rw [hg j hj]; exact e⟩
theorem compact_once (l : List Int) : compact (l.mergeSort fun x y => decide (x ≤ y)) = onceL l := by
  have hp : (l.mergeSort fun x y => decide (x ≤ y)).Pairwise (· ≤ ·) := by
    have := List.pairwise_mergeSort (le := fun x y : Int => decide (x ≤ y)) (fun a b c h1 h2 => by simp at *; omega) (fun a b => by simp; omega) l
    exact this.imp (fun h => by simpa using h)
  obtain ⟨h1, h2⟩ := compact_sorted hp
  exact onceL_of h1 fun x => (h2 x).trans List.mem_mergeSort
end Zp
namespace Go.Proofs.YteceghbjjnknbaaGreat
open Go.RowKit Zp
theorem putCells_take {off : Nat} {zs : List Int} {c : Array Value} (hz : zs.length ≤ c.size) : (Go.Sort.putCells (Value.int .i64) 0 zs.toArray c).toList.take zs.length = zs.map vi := by
  apply List.ext_getElem?
  intro j
  rw [List.getElem?_take, List.getElem?_map]
  by_cases hj : j < zs.length
  · rw [if_pos hj]
    have e1 : (Go.Sort.putCells (Value.int .i64) 0 zs.toArray c)[j]? = some (.int .i64 zs.toArray[j]!) := by
      unfold Go.Sort.putCells
      rw [Array.getElem?_mapIdx, Array.getElem?_eq_getElem (by omega)]
      simp [hj]
    rw [Array.getElem?_toList, e1, List.getElem?_eq_getElem hj, getElem!_pos _ j (by simpa using hj)]
    simp
  · rw [if_neg hj, List.getElem?_eq_none (by omega)]
    rfl
theorem own_put {w : World} {base g n c : Nat} {l zs : List Int} (h : Own w base (.slice (some ⟨g, 0, none⟩) n c) l) (hz : zs.length = l.length) (q : Nat) (os : Array Obj) :
    Own (Go.Sort.grow (Go.Sort.putRow (Value.int .i64) (Go.Sort.ahead w q) g 0 zs.toArray) os) base (.slice (some ⟨g, 0, none⟩) n c) zs ∧ w.grownBy (Go.Sort.grow (Go.Sort.putRow (Value.int .i64) (Go.Sort.ahead w q) g 0 zs.toArray) os) (some g) := by
  obtain ⟨h1, h2⟩ := h
  rcases h2 with ⟨e, _⟩ | ⟨g', cap, cur, e, hb, hg, hn, hc, hs, ht⟩
  · injection e with e; cases e
  · injection e with e1 e2 e3
    injection e1 with e1
    injection e1 with e1
    subst e1 e2 e3
    have hlt : g < w.heap.size := (Array.getElem?_eq_some_iff.1 hg).1
    refine ⟨⟨by simp, .inr ⟨g, c, Go.Sort.putCells (Value.int .i64) 0 zs.toArray cur, by rw [hz], hb, ?_, by rw [hz]; exact hn, hc, ?_, ?_⟩⟩, ⟨rfl, rfl, rfl, by simp, fun i hi hne => ?_⟩⟩
    · rw [Go.Sort.heap_grow_old _ _ (by simpa using hlt)]
      simp only [Go.Sort.putRow, Go.Sort.mapBlock, Go.Sort.heap_ahead, Array.getElem?_modify, if_true, hg, Option.map_some, Go.Sort.onCells]
    · simpa [Go.Sort.putCells] using hs
    · rw [Nat.mul_one]
      exact putCells_take (off := 0) (by rw [hz]; omega)
    · rw [Go.Sort.heap_grow_old _ _ (by simpa using hi)]
      have : g ≠ i := fun e => hne (by rw [e])
      simp only [Go.Sort.putRow, Go.Sort.mapBlock, Go.Sort.heap_ahead, Array.getElem?_modify, if_neg this]
theorem own_holds {w : World} {base g n c : Nat} {l : List Int} (h : Own w base (.slice (some ⟨g, 0, none⟩) n c) l) (hn : n = l.length) : Go.Sort.Holds (Value.int .i64) w g 0 l.toArray := fun j hj => by
  have hj' : j < l.length := by simpa using hj
  rw [Nat.zero_add, getElem!_pos _ j hj]
  exact ⟨by simpa using h.at_ hn j hj', h.frozen_ hn j⟩
def Turned (base : Nat) (v u : Value) (l : List Int) (w : World) (w' : World) : Prop := Own w' base v l ∧ w.grownBy w' u.ownBlock
theorem sort_any {w : World} {base n c : Nat} {A : Option Addr} {l : List Int} (h : Own w base (.slice A n c) l) (hl : l.length = n) (hn : n ≤ 4000000000000000000) :
    Calls Tryz.prog 87 #[.slice A n c] w fun e w' => e = .returned (.tuple #[]) ∧ Turned base (.slice A n c) (.slice A n c) (l.mergeSort fun x y => decide (x ≤ y)) w w' := by
  rcases h.2 with ⟨e, h0⟩ | ⟨g, cap, cur, e, _, hg, _⟩
  · injection e with e1 e2 e3
    subst e1 e2 e3
    have hle : l = [] := List.eq_nil_of_length_eq_zero h0
    subst hle
    refine (Go.Proofs.AnyM.slices_Sort_int_none shSort none 0 w).mono ?_
    rintro e w' ⟨rfl, rfl⟩
    exact ⟨rfl, by rw [List.mergeSort_nil]; exact h, ⟨rfl, rfl, rfl, Nat.le_refl _, fun _ _ _ => rfl⟩⟩
  · injection e with e1 e2 e3
    subst e1 e3
    have hk := Go.Proofs.AnyM.slices_Sort_int shSort g 0 c l w (own_holds h hl.symm) (Array.getElem?_eq_some_iff.1 hg).1 (by omega)
    rw [hl] at hk
    refine hk.mono ?_
    rintro e w' ⟨rfl, q, os, rfl⟩
    exact ⟨rfl, own_put h (by simp) q os⟩
theorem own_cut {w : World} {base n c k : Nat} {A : Option Addr} {l : List Int} (h : Own w base (.slice A n c) l) (hl : l.length = n) (hk : k ≤ n) : Own w base (.slice A k c) (l.take k) := by
  have hlk : (l.take k).length = k := by rw [List.length_take]; omega
  rcases h.2 with ⟨e, h0⟩ | ⟨g, cap, cur, e, hb, hg, hn, hc, hs, ht⟩
  · injection e with e1 e2 e3
    subst e1 e2 e3
    refine ⟨by simp, .inl ⟨?_, by omega⟩⟩
    have : k = 0 := by omega
    rw [this]
  · injection e with e1 e2 e3
    subst e1 e2 e3
    refine ⟨by simp, .inr ⟨g, c, cur, by rw [hlk], hb, hg, by omega, hc, hs, ?_⟩⟩
    rw [List.map_take, ← ht, List.take_take, hlk]
    congr 1
    omega
theorem compact_any {w : World} {base n c : Nat} {A : Option Addr} {l : List Int} (h : Own w base (.slice A n c) l) (hl : l.length = n) (hn : n ≤ 4000000000000000000) :
    Calls Tryz.prog 88 #[.slice A n c] w fun e w' => e = .returned (.slice A (Go.Lib.compact l).length c) ∧ Turned base (.slice A (Go.Lib.compact l).length c) (.slice A n c) (Go.Lib.compact l) w w' := by
  rcases h.2 with ⟨e, h0⟩ | ⟨g, cap, cur, e, _, hg, hnc, _⟩
  · injection e with e1 e2 e3
    subst e1 e2 e3
    have hle : l = [] := List.eq_nil_of_length_eq_zero h0
    subst hle
    refine (Go.Proofs.AnyG.slices_Compact_int_empty shCompact none 0 w).mono ?_
    rintro e w' ⟨rfl, rfl⟩
    exact ⟨rfl, h, ⟨rfl, rfl, rfl, Nat.le_refl _, fun _ _ _ => rfl⟩⟩
  · injection e with e1 e2 e3
    subst e1 e3
    have hk := Go.Proofs.AnyG.slices_Compact_int shCompact g 0 c l w (own_holds h hl.symm) (by omega) (by omega)
    rw [hl] at hk
    refine hk.mono ?_
    rintro e w' ⟨rfl, q, rfl⟩
    have hcl : (Go.Lib.compact l).length ≤ l.length := by unfold Go.Lib.compact Go.Lib.compactUpTo; rw [List.length_map]; exact Nat.le_trans (List.length_filter_le _ _) (by simp)
    have hp := own_put h (zs := Go.Lib.compact l ++ List.replicate (n - (Go.Lib.compact l).length) 0) (by simp; omega) q #[]
    rw [Go.Sort.grow_empty] at hp
    have hc2 := own_cut hp.1 (k := (Go.Lib.compact l).length) (by simp; omega) (by omega)
    rw [List.take_left' rfl] at hc2
    exact ⟨rfl, hc2, hp.2⟩
end Go.Proofs.YteceghbjjnknbaaGreat

namespace Go.Proofs.YteceghbjjnknbaaGreat
open Go.RowKit Zp
theorem clipI_any (A : Option Addr) (n c : Nat) (hn : n ≤ c) (w : World) (hc : A = none → c = 0) :
    Calls Tryz.prog 22 #[.slice A n c] w fun e w' => e = .returned (.slice A n n) ∧ w = w' := by
  cases A with
  | none =>
    obtain rfl := hc rfl
    obtain rfl : n = 0 := by omega
    go_enter Tryz.func22, Tryz.ntmps22
    go_wp2
    go_ret
    exact ⟨rfl, rfl⟩
  | some ad =>
    have t1 : (n : Int) ≤ (c : Int) := by omega
    clear hc
    go_enter Tryz.func22, Tryz.ntmps22
    go_wp2
    go_ret
    exact ⟨rfl, rfl⟩
theorem clipR_any (A : Option Addr) (n c : Nat) (hn : n ≤ c) (w : World) (hc : A = none → c = 0) :
    Calls Tryz.prog 26 #[.slice A n c] w fun e w' => e = .returned (.slice A n n) ∧ w = w' := by
  cases A with
  | none =>
    obtain rfl := hc rfl
    obtain rfl : n = 0 := by omega
    go_enter Tryz.func26, Tryz.ntmps26
    go_wp2
    go_ret
    exact ⟨rfl, rfl⟩
  | some ad =>
    have t1 : (n : Int) ≤ (c : Int) := by omega
    clear hc
    go_enter Tryz.func26, Tryz.ntmps26
    go_wp2
    go_ret
    exact ⟨rfl, rfl⟩
theorem own_none {w : World} {base n c : Nat} {A : Option Addr} {l : List Int} (h : Own w base (.slice A n c) l) : A = none → c = 0 := fun e => by
  subst e
  rcases h.2 with ⟨e, _⟩ | ⟨g, cap, cur, e, _⟩
  · injection e
  · injection e with e1; cases e1
theorem ownR_none {w : World} {base n c : Nat} {A : Option Addr} {us : List Value} (h : OwnR w base (.slice A n c) us) : A = none → c = 0 := fun e => by
  subst e
  rcases h.2 with ⟨e, _⟩ | ⟨g, cap, cur, e, _⟩
  · injection e
  · injection e with e1; cases e1
def idxI (P : Int → Bool) (l : List Int) : Int := if l.any P then ((l.findIdx P : Nat) : Int) else -1
theorem idxI_no {P : Int → Bool} {l : List Int} (h : l.any P = false) : idxI P l = -1 := by unfold idxI; rw [h]; rfl
theorem idxI_yes {P : Int → Bool} {l : List Int} {k : Nat} (h : l.any P = true) (hk : l.findIdx P = k) : idxI P l = k := by unfold idxI; rw [h, hk]; rfl
set_option maxRecDepth 100000 in
set_option maxHeartbeats 1000000 in
theorem indexI_any (K : Nat) (hK : ∀ (args : Array Value) (w : World), (callFunc K args).run Tryz.prog w = .ok (.enter K args) w) (caps : Array Value) (P : Int → Bool) (A : Option Addr) (N c : Nat) (l : List Int) (hN : l.length = N) (hN2 : N ≤ 9223372036854775806)
    (w : World) (hY : ∀ x ∈ l, Calls Tryz.prog K (#[vi x] ++ caps) w fun e w' => e = .returned (.bool (P x)) ∧ w = w') (hT : SL w A l) :
    Calls Tryz.prog 113 #[.slice A N c, .func (.func K) #[] caps] w fun e w' => e = .returned (vi (idxI P l)) ∧ w = w' := by
  have HN := Lib.hid hN
  have HT := Lib.hid hT
  have HY := Lib.hid hY
  clear hN hT hY
  go_enter Tryz.func113, Tryz.ntmps113
  go_wp2
  go_loop [8] (fun i => ∃ k : Nat, k ≤ N ∧ i = vi k ∧ ∀ j (h : j < l.length), j < k → P l[j] = false) (fun i => N - (intOf i).toNat)
  case atStart => exact ⟨0, Nat.zero_le _, rfl, fun j _ hj => absurd hj (Nat.not_lt_zero _)⟩
  case round =>
    obtain ⟨k, hk, rfl, hb⟩ := hrel
    have HB := Lib.hid hb
    clear hb
    by_cases hlt : k < N
    · have hkt : k < l.length := by rw [HN.out]; exact hlt
      obtain ⟨ad, rfl, hb1, hc1⟩ := HT.out.at_ hkt
      have i1 : (0 : Int) ≤ k := by omega
      have i2 : (k : Int) < N := by omega
      have i3 : (k : Int) + 1 ≤ 9223372036854775807 := by omega
      have hyk := HY.out _ (List.getElem_mem hkt)
      obtain ⟨x, hx⟩ : ∃ x, x = l[k] := ⟨_, rfl⟩
      rw [← hx] at hyk hc1
      have HYK := Lib.hid hyk
      have HX := Lib.hid hx
      clear hx hyk
      by_cases hp : P x = true
      · have HR : Hid (idxI P l = k) := Lib.hid (by
          have hpk : P l[k] = true := by rw [← HX.out]; exact hp
          exact idxI_yes (List.any_eq_true.2 ⟨_, List.getElem_mem hkt, hpk⟩) (by
            rw [List.findIdx_eq hkt]
            exact ⟨hpk, fun j hj => by simpa using HB.out j (by omega) hj⟩))
        have HP := Lib.hid hp
        clear hp
        go_wp2_with fail
        refine HYK.out.mono ?_
        rintro _ _ ⟨rfl, rfl⟩
        rw [HP.out]
        go_wp2
        go_ret
        exact ⟨ret_int HR.out.symm, rfl⟩
      · have HP := Lib.hid (show P x = false by simpa using hp)
        have HBB : Hid (∀ j (h : j < l.length), j < k + 1 → P l[j] = false) := Lib.hid (fun j h hj => by
          by_cases e : j < k
          · exact HB.out j h e
          · obtain rfl : j = k := by omega
            rw [← HX.out]; exact HP.out)
        clear hp
        go_wp2_with fail
        refine HYK.out.mono ?_
        rintro _ _ ⟨rfl, rfl⟩
        rw [HP.out]
        go_wp2
        go_round
        case rel => exact ⟨k + 1, by omega, by go_num, HBB.out⟩
        case measure => simp [intOf]; omega
    · obtain rfl : k = N := by omega
      have HR : Hid (idxI P l = -1) := Lib.hid (idxI_no (by
        rw [Bool.eq_false_iff]
        intro h
        obtain ⟨x, hx, hp⟩ := List.any_eq_true.1 h
        obtain ⟨j, hj, rfl⟩ := List.mem_iff_getElem.1 hx
        rw [HB.out j hj (by rw [← HN.out]; exact hj)] at hp
        cases hp))
      go_wp2
      go_ret
      exact ⟨ret_int HR.out.symm, rfl⟩
theorem containsI_any (K : Nat) (hK : ∀ (args : Array Value) (w : World), (callFunc K args).run Tryz.prog w = .ok (.enter K args) w) (caps : Array Value) (P : Int → Bool) (A : Option Addr) (N c : Nat) (l : List Int) (hN : l.length = N) (hN2 : N ≤ 9223372036854775806)
    (w : World) (hY : ∀ x ∈ l, Calls Tryz.prog K (#[vi x] ++ caps) w fun e w' => e = .returned (.bool (P x)) ∧ w = w') (hT : SL w A l) :
    Calls Tryz.prog 85 #[.slice A N c, .func (.func K) #[] caps] w fun e w' => e = .returned (.bool (l.any P)) ∧ w = w' := by
  have HI := Lib.hid (indexI_any K hK caps P A N c l hN hN2 w hY hT)
  clear hY hT hN
  cases hb : l.any P
  · rw [idxI_no hb] at HI
    clear hb
    go_enter Tryz.func85, Tryz.ntmps85
    go_wp2_with fail
    refine HI.out.mono ?_
    rintro _ _ ⟨rfl, rfl⟩
    go_wp2
    go_ret
    exact ⟨by simp, rfl⟩
  · obtain ⟨t, ht⟩ : ∃ t, l.findIdx P = t := ⟨_, rfl⟩
    rw [idxI_yes hb ht] at HI
    have h0 : (0 : Int) ≤ (t : Int) := by omega
    clear hb ht
    go_enter Tryz.func85, Tryz.ntmps85
    go_wp2_with fail
    refine HI.out.mono ?_
    rintro _ _ ⟨rfl, rfl⟩
    go_wp2
    go_ret
    exact ⟨by simp, rfl⟩
def outB (N : Nat) (x : Int) : Bool := decide (¬ (0 ≤ x ∧ x < N))
theorem open1_any (x : Int) (b : Nat) (A : Option Addr) (N c : Nat) (w : World) (hc : w.cell? ⟨b, 0, none⟩ = some (.slice A N c)) :
    Calls Tryz.prog 86 #[vi x, .pointer (some ⟨b, 0, none⟩)] w fun e w' => e = .returned (.bool (outB N x)) ∧ w = w' := by
  by_cases h1 : x < 0
  · have HR := Lib.hid (show outB N x = true from decide_eq_true (by omega))
    have t1 : decide (x < 0) = true := decide_eq_true h1
    go_enter Tryz.func86, Tryz.ntmps86
    go_wp2
    go_ret
    exact ⟨ret_bool HR.out.symm, rfl⟩
  · have t1 : decide (x < 0) = false := decide_eq_false h1
    by_cases h2 : (N : Int) ≤ x
    · have HR := Lib.hid (show outB N x = true from decide_eq_true (by omega))
      have t2 : decide ((N : Int) ≤ x) = true := decide_eq_true h2
      go_enter Tryz.func86, Tryz.ntmps86
      go_wp2
      go_ret
      exact ⟨ret_bool HR.out.symm, rfl⟩
    · have HR := Lib.hid (show outB N x = false from decide_eq_false (by omega))
      have t2 : decide ((N : Int) ≤ x) = false := decide_eq_false h2
      go_enter Tryz.func86, Tryz.ntmps86
      go_wp2
      go_ret
      exact ⟨ret_bool HR.out.symm, rfl⟩
end Go.Proofs.YteceghbjjnknbaaGreat

namespace Go.Proofs.YteceghbjjnknbaaGreat
open Go.RowKit Zp
def KeepG (w w' : World) : Prop := w.heap.size ≤ w'.heap.size ∧ ∀ g cs, Blk w g 139 cs → Blk w' g 139 cs
theorem KeepG.trans {a b c : World} (h : KeepG a b) (k : KeepG b c) : KeepG a c := ⟨Nat.le_trans h.1 k.1, fun g cs hb => k.2 g cs (h.2 g cs hb)⟩
theorem KeepG.of {w w' : World} (h : Below w.heap.size w w') : KeepG w w' := ⟨h.size, fun g cs hb => Blk.below hb h hb.lt⟩
theorem KeepG.one {w w' : World} {x : Nat} {t : TypeId} {cx : Array Value} (hx : Blk w x t cx) (ht : t ≠ 139) (h : w.grownBy w' (some x)) : KeepG w w' := ⟨h.size, fun g cs hb => Blk.grown hb h (by intro e; injection e with e; exact Blk.ne_ hb hx (Ne.symm ht) e)⟩
theorem KeepG.grew {w w' : World} {base : Nat} {v v' : Value} {us vs : List Value} (h : GrewR w w' base v v' us) (ho : OwnR w base v vs) : KeepG w w' := ⟨h.grown.size, fun g cs hb => Blk.grown hb h.grown (by
  rcases hv : v.ownBlock with _ | x
  · intro e; cases e
  · obtain ⟨cx, hx⟩ := ownR_blk ho hv
    intro e; injection e with e
    exact Blk.ne_ hb hx (by decide) e)⟩
set_option maxRecDepth 100000 in
set_option maxHeartbeats 1000000 in
theorem hidden_gen (K : Nat) (hK : ∀ (args : Array Value) (w : World), (callFunc K args).run Tryz.prog w = .ok (.enter K args) w) (caps : Array Value) (N : Nat) (hNN : N ≤ 65536) (A0 : Option Addr) (n c : Nat) (l : List Int) (hml : l.length = n) (hn : n ≤ 65536) (hup : Asc l)
    (J : List (Nat × Nat) → World → Prop) (hJ : ∀ pre W W', J pre W → Below W.heap.size W W' → J pre W') (hJs : ∀ pre W, J pre W → SL W A0 l)
    (hY : ∀ (pre : List (Nat × Nat)) (a m : Nat) (W : World), J pre W → pre.length ≤ a → 1 ≤ m → a + m ≤ N → Calls Tryz.prog K (#[.agg #[vi (a : Int), vi ((a : Int) + (m : Int))]] ++ caps) W fun e W' => (∃ r, e = .returned r) ∧ J (pre ++ [(a, m)]) W' ∧ KeepG W W') :
    ∀ (m a : Nat), 1 ≤ m → a + m ≤ N → ∀ (pre : List (Nat × Nat)) (w : World), pre.length ≤ a → J pre w →
    Calls Tryz.prog 90 #[Gp a (a + m), .slice A0 n c, .func (.func K) #[] caps] w fun e w' => (∃ r, e = .returned r) ∧ J (pre ++ hidL l a m) w' ∧ KeepG w w' := by
  intro m
  induction m using Nat.strongRecOn with
  | ind m ih =>
    intro a h1 ha pre w hpl hj
    have hs := hJs _ _ hj
    have hb1 : Below w.heap.size w (w.alloc (.cells #[vi a, vi ((a : Int) + m)] 139)) := (Below.refl _ _).alloc (Nat.le_refl _) _
    have hB := Blk.new w 139 #[vi a, vi ((a : Int) + m)]
    have HSH := Lib.hid (shows_any A0 n c l hml hn hup a m (by omega) _ (hs.below hb1))
    have HB1 := Lib.hid hb1
    by_cases hsh : shownB l a m = true
    · have HS0 := Lib.hid hsh
      by_cases h2 : 2 ≤ m
      · have hlf := leftN_lt h2
        have HHL := Lib.hid (show hidL l a m = hidL l a (leftN m) ++ hidL l (a + leftN m) (m - leftN m) by rw [hidL, if_pos hsh, dif_pos h2])
        have HH := Lib.hid (fun w => halves_any a m h2 (by omega) w)
        obtain ⟨j, hj'⟩ : ∃ j, j = leftN m := ⟨_, rfl⟩
        rw [← hj'] at hlf HH HHL
        obtain ⟨hj1, hj2, hj3⟩ := hlf
        have I1 := Lib.hid (fun W (x : J pre W) => ih j hj1 a hj3 (by omega) pre W hpl x)
        have I2 : Hid (∀ W, J (pre ++ hidL l a j) W → Calls Tryz.prog 90 #[.agg #[vi ((a : Int) + j), vi ((a : Int) + m)], .slice A0 n c, .func (.func K) #[] caps] W fun e w' => (∃ r, e = .returned r) ∧ J ((pre ++ hidL l a j) ++ hidL l (a + j) (m - j)) w' ∧ KeepG W w') := Lib.hid (fun W x => by
          have h := ih (m - j) (by omega) (a + j) (by omega) (by omega) (pre ++ hidL l a j) W (by rw [List.length_append]; have := hidL_le' l j a hj3; omega) x
          rw [show a + j + (m - j) = a + m by omega] at h
          simpa [Gp] using h)
        have t1 : decide (1 < (m : Int)) = true := by simp; omega
        have t2 : decide ((1 : Int) < (a : Int) + (m : Int) - (a : Int)) = true := by simp; omega
        have HJ := Lib.hid hj
        have HJB := Lib.hid hJ
        have HBB := Lib.hid hB
        have HSS := Lib.hid hs
        clear hsh hB hb1 ih hJ hJs hY hup hml hj hj' hs
        go_enter Tryz.func90, Tryz.ntmps90
        go_wp2_with fail
        refine HSH.out.mono ?_
        rintro e w2 ⟨rfl, hb2⟩
        rw [HS0.out]
        have hB2 := Blk.below HBB.out hb2 HBB.out.lt
        have e0 := (hB2.cell 0).trans (show _ = some (vi a) from rfl)
        have e1 := (hB2.cell 1).trans (show _ = some (vi ((a : Int) + m)) from rfl)
        have hb02 := HB1.out.trans (hb2.mono HB1.out.size)
        have HB02 := Lib.hid hb02
        clear hB2 hb2 hb02
        go_wp2_with fail
        refine (HH.out w2).mono ?_
        rintro _ w3 ⟨rfl, hb3⟩
        have hb03 := HB02.out.trans (hb3.mono HB02.out.size)
        have HB03 := Lib.hid hb03
        clear e0 e1 hb3 hb03
        go_wp2_with fail
        obtain ⟨q, hq⟩ : ∃ q, q = w3.heap.size := ⟨_, rfl⟩
        obtain ⟨W4, hW4⟩ : ∃ W4, W4 = (w3.alloc (.cells #[vi a, vi ((a : Int) + j)] 139)).alloc (.cells #[vi ((a : Int) + j), vi ((a : Int) + m)] 139) := ⟨_, rfl⟩
        rw [← hW4]
        have hB7 := (Blk.new w3 139 #[vi a, vi ((a : Int) + j)]).alloc (.cells #[vi ((a : Int) + j), vi ((a : Int) + m)] 139)
        have hB8 := Blk.new (w3.alloc (.cells #[vi a, vi ((a : Int) + j)] 139)) 139 #[vi ((a : Int) + j), vi ((a : Int) + m)]
        rw [← hW4, show (w3.alloc (.cells #[vi a, vi ((a : Int) + j)] 139)).heap.size = q + 1 by simp [hq]] at hB8
        rw [← hW4, ← hq] at hB7
        have hb4 : Below w.heap.size w W4 := by rw [hW4]; exact (HB03.out.alloc HB03.out.size _).alloc (by have := HB03.out.size; simp; omega) _
        have hqs := HB03.out.size
        rw [← hq] at hqs ⊢
        clear hW4 hq
        refine (I1.out W4 (HJB.out _ _ _ HJ.out hb4)).mono ?_
        rintro _ w5 ⟨⟨r5, rfl⟩, hj5, hg5⟩
        have hB8' := hg5.2 _ _ hB8
        have e0 := (hB8'.cell 0).trans (show _ = some (vi ((a : Int) + j)) from rfl)
        have e1 := (hB8'.cell 1).trans (show _ = some (vi ((a : Int) + m)) from rfl)
        have HJ5 := Lib.hid hj5
        have HG5 := Lib.hid ((KeepG.of hb4).trans hg5)
        have HX := Lib.hid (I2.out w5 hj5)
        clear hB7 hB8 hB8' hj5 hg5 hb4 I1 I2 HJ
        go_wp2_with fail
        refine HX.out.mono ?_
        rintro _ w6 ⟨⟨r6, rfl⟩, hj6, hg6⟩
        have HFIN : Hid (J (pre ++ hidL l a m) w6 ∧ KeepG w w6) := Lib.hid ⟨by rw [HHL.out, ← List.append_assoc]; exact hj6, HG5.out.trans hg6⟩
        clear hj6 hg6 HX e0 e1
        go_wp2
        go_end0
        exact ⟨⟨_, rfl⟩, HFIN.out.1, HFIN.out.2⟩
      · have e : m = 1 := by omega
        subst e
        have HHL := Lib.hid (show hidL l a 1 = [] by rw [hidL, if_pos hsh, dif_neg h2])
        have HJ := Lib.hid hj
        have HJB := Lib.hid hJ
        have HBB := Lib.hid hB
        clear hsh hB hb1 ih hJ hJs hY hup hml hj
        go_enter Tryz.func90, Tryz.ntmps90
        go_wp2_with fail
        refine HSH.out.mono ?_
        rintro e w2 ⟨rfl, hb2⟩
        rw [HS0.out]
        have hB2 := Blk.below HBB.out hb2 HBB.out.lt
        have e0 := (hB2.cell 0).trans (show _ = some (vi a) from rfl)
        have e1 := (hB2.cell 1).trans (show _ = some (vi ((a : Int) + 1)) from rfl)
        have hb02 := HB1.out.trans (hb2.mono HB1.out.size)
        have HFIN : Hid (J (pre ++ hidL l a 1) w2 ∧ KeepG w w2) := Lib.hid ⟨by rw [HHL.out, List.append_nil]; exact HJB.out _ _ _ HJ.out hb02, KeepG.of hb02⟩
        clear hB2 hb2 hb02
        go_wp2
        go_end0
        exact ⟨⟨_, rfl⟩, HFIN.out.1, HFIN.out.2⟩
    · have HS0 := Lib.hid (show shownB l a m = false by simpa using hsh)
      have HHL := Lib.hid (show hidL l a m = [(a, m)] by rw [hidL, if_neg hsh])
      have HYY := Lib.hid (fun W h => hY pre a m W h hpl h1 ha)
      have HJ := Lib.hid hj
      have HJB := Lib.hid hJ
      have HBB := Lib.hid hB
      clear hsh hB hb1 ih hJ hJs hY hup hml hj
      go_enter Tryz.func90, Tryz.ntmps90
      go_wp2_with fail
      refine HSH.out.mono ?_
      rintro e w2 ⟨rfl, hb2⟩
      rw [HS0.out]
      have hB2 := Blk.below HBB.out hb2 HBB.out.lt
      have e0 := (hB2.cell 0).trans (show _ = some (vi a) from rfl)
      have e1 := (hB2.cell 1).trans (show _ = some (vi ((a : Int) + m)) from rfl)
      have hb02 := HB1.out.trans (hb2.mono HB1.out.size)
      have HB02 := Lib.hid hb02
      clear hB2 hb2 hb02
      go_wp2_with fail
      refine (HYY.out w2 (HJB.out _ _ _ HJ.out HB02.out)).mono ?_
      rintro _ w3 ⟨⟨r3, rfl⟩, hj3, hg3⟩
      have HFIN : Hid (J (pre ++ hidL l a m) w3 ∧ KeepG w w3) := Lib.hid ⟨by rw [HHL.out]; exact hj3, (KeepG.of HB02.out).trans hg3⟩
      clear hj3 hg3 e0 e1
      go_wp2
      exact bodyPost_ret (results_none rfl _ _ _) rfl ⟨⟨_, rfl⟩, HFIN.out.1, HFIN.out.2⟩
theorem step_appR {ops : Array Oper} {o : Oper} {a : Act} {K : Act → World → Prop} {Q : Exit → Act → World → Prop} {E : Prop} (w : World) (A : Option Addr) (n c : Nat) (hgd : o.guard = none) (s x : Operand)
    (ho : o.op = .call { callee := .builtin .append, args := #[s, x], argTypes := #[36, 36] })
    (base : Nat) (v : Value) (us : List Value) (hs : a.eval s = v) (hx : a.eval x = .slice (some ⟨w.heap.size, 0, none⟩) 1 1) (hown : OwnR w base v us) (hlen : us.length < 5864062014805) (hbase : base ≤ w.heap.size)
    (h : ∀ v' w', GrewR w w' base v v' (us ++ [.slice A n c]) → K (a.put o.dst v') w') :
    if Region.wanted o (yielded ops a.tmps) = true then Oper.wp Tryz.prog o a (w.alloc (.cells #[.slice A n c] 25)) K Q else E := by
  have hw : Region.wanted o (yielded ops a.tmps) = true := by simp [Region.wanted, hgd]
  rw [if_pos hw]
  obtain ⟨v', w', hrun, hg⟩ := run_appR w base v us A n c hown hlen hbase o.type
  unfold Oper.wp execOp
  simp only [ho, resolve, invoke, builtin, Sem.run_bind, Sem.run_pure, Result.andThen_ok, List.map_toArray, List.map_cons, List.map_nil, hs, hx, hrun]
  exact h v' w' hg
theorem grownBy_new {w0 w w' : World} {ob : Nat} {row : Option Nat} (h : w0.grownBy w (some ob)) (hg : w.grownBy w' row) (hr : ∀ k, row = some k → w0.heap.size ≤ k) : w0.grownBy w' (some ob) :=
  ⟨hg.os.trans h.os, hg.tape.trans h.tape, hg.output.trans h.output, Nat.le_trans h.size hg.size, fun i hi hne => (hg.block i (Nat.lt_of_lt_of_le hi h.size) (fun e => by have := hr i e.symm; omega)).trans (h.block i hi hne)⟩
def NodesJ (H : Nat × Nat → List Int) (W4 : World) (ob : Nat) (ov rv : Value) (pre : List (Nat × Nat)) (W : World) : Prop :=
  ∃ nv vs, Blk W ob 51 #[ov, rv, nv] ∧ OwnR W W4.heap.size nv vs ∧ UsAt W vs (pre.map H) ∧ W4.grownBy W (some ob)
theorem NodesJ.below {H : Nat × Nat → List Int} {W4 : World} {ob : Nat} {ov rv : Value} {pre : List (Nat × Nat)} {W W' : World} (h : NodesJ H W4 ob ov rv pre W) (hb : Below W.heap.size W W') : NodesJ H W4 ob ov rv pre W' := by
  obtain ⟨nv, vs, h1, h2, h3, h4⟩ := h
  exact ⟨nv, vs, Blk.below h1 hb h1.lt, OwnR.below h2 hb, h3.below hb, grownBy_trans h4 (grown_of_below hb _)⟩
theorem NodesJ.push {H : Nat × Nat → List Int} {W4 W3 W5 : World} {ob g c : Nat} {ov rv nv v' : Value} {vs : List Value} {t : TypeId} {cs : Array Value} {pre : List (Nat × Nat)} {x : Nat × Nat} (hob : ob < W4.heap.size)
    (h1 : Blk W3 ob 51 #[ov, rv, nv]) (h2 : OwnR W3 W4.heap.size nv vs) (h3 : UsAt W3 vs (pre.map H)) (h4 : W4.grownBy W3 (some ob))
    (hg : Blk W3 g t cs) (ht1 : t ≠ 25) (ht2 : t = 3 ∨ t = 66) (hs : SL W3 (some ⟨g, 0, none⟩) (H x)) (hl : (H x).length = 4) (hi : ∀ y ∈ H x, I64 y)
    (hG : GrewR W3 W5 W4.heap.size nv v' (vs ++ [.slice (some ⟨g, 0, none⟩) 4 c])) :
    Blk W5 ob 51 #[ov, rv, nv] ∧ NodesJ H W4 ob ov rv (pre ++ [x]) (W5.setCell ⟨ob, 2, none⟩ v') ∧ KeepG W3 (W5.setCell ⟨ob, 2, none⟩ v') := by
  have hne : some ob ≠ nv.ownBlock := fun e => by
    have := (World.ownsRow.lt h2 ob e.symm).1
    omega
  have hb := Blk.grown h1 hG.grown hne
  have hs' : W5.grownBy (W5.setCell ⟨ob, 2, none⟩ v') (some ob) := blk_grown
  have hu := UsAt.grew hG h2 (h3.app (UsAt.one (c := c) hg ht1 ht2 hs hl hi))
  rw [show pre.map H ++ [H x] = (pre ++ [x]).map H by simp] at hu
  exact ⟨hb, ⟨v', _, hb.set_ 2 v', ownR_past hG.own hs' hob, hu.far hb (.inr rfl) hs', grownBy_trans (grownBy_new h4 hG.grown fun k hk => (World.ownsRow.lt h2 k hk).1) hs'⟩, (KeepG.grew hG h2).trans (KeepG.one hb (by decide) hs')⟩
end Go.Proofs.YteceghbjjnknbaaGreat

namespace Go.Proofs.YteceghbjjnknbaaGreat
open Go.RowKit Zp
def KeepUp (B : Nat) (w' w'' : World) : Prop := w'.heap.size ≤ w''.heap.size ∧ ∀ x, B ≤ x → x < w'.heap.size → w''.heap[x]? = w'.heap[x]?
theorem rowsOwn_keep {w' w'' : World} {B base : Nat} {us : List Value} {ls : List (List Int)} (h : RowsOwn w' base us ls) (hB : B ≤ base) (hk : KeepUp B w' w'') : RowsOwn w'' base us ls :=
  ⟨h.1, fun k h1 h2 => Own.keep (h.2 k h1 h2) (fun g hg => hk.2 g (Nat.le_trans hB ((h.2 k h1 h2).lt g hg).1) ((h.2 k h1 h2).lt g hg).2)⟩
theorem sl_of {w : World} {base n c : Nat} {A : Option Addr} {xs : List Int} (h : Own w base (.slice A n c) xs) : SL w A xs := by
  obtain ⟨A', n', c', e, _, _, _, hs⟩ := Own.shapeN h
  injection e with e1 e2 e3
  subst e1 e2 e3
  exact hs
end Go.Proofs.YteceghbjjnknbaaGreat
