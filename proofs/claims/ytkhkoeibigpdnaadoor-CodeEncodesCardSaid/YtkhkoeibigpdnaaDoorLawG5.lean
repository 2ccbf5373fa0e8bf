/- The walk of the law DomainMakes. -/
import Derived.Test.YtkhkoeibigpdnaaDoorLawG3
import Derived.Test.YtkhkoeibigpdnaaDoorQp
import Derived.Test.YtkhkoeibigpdnaaDoorSp
import Derived.Test.YtkhkoeibigpdnaaDoorFd
set_option linter.unusedVariables false
namespace Go.Proofs.YtkhkoeibigpdnaaDoor
open Go.RowKit Zp

theorem below_draws {w w' : World} {B : Nat} (h : ∃ k, w' = w.drewN k) : Below B w w' := by
  obtain ⟨k, rfl⟩ := h
  exact below_drewN (Below.refl _ _) k
theorem tmod_two (i : Int) (n : Nat) (hn0 : 0 < n) : ∃ (T : Int) (K : Nat), K = (i % (n : Int)).toNat ∧ i.tmod n = T ∧ -(n : Int) < T ∧ T < n ∧ K < n ∧ (T = K ∨ (T < 0 ∧ T + n = K)) := by
  have ht := tmod_emod i n hn0
  have h1 := Int.emod_nonneg i (b := (n : Int)) (by omega)
  have h2 := Int.emod_lt_of_pos i (b := (n : Int)) (by omega)
  refine ⟨i.tmod n, (i % (n : Int)).toNat, rfl, rfl, ?_, ?_, by omega, ?_⟩
  · rw [ht]; split <;> (try split) <;> omega
  · rw [ht]; split <;> (try split) <;> omega
  · rw [ht]
    split
    · left; omega
    · split
      · left; omega
      · right; omega

set_option maxRecDepth 100000 in
set_option maxHeartbeats 4000000 in
theorem dmakes_walk (w : World) (p : Int) (hp : I64 p) (size : Int) (hs : I64 size) (t : Int) (ht : I64 t) (i : Int) (hi : I64 i) (hT : Typed w) :
    Calls Tryd.prog 4 #[vi p, vi size, vi t, vi i] w fun e w' => SaysW (.bool true) w e w' := by
  by_cases hD : HasDom2 p size t
  · obtain ⟨⟨h3, hm, hpr⟩, n, rfl, hsz, h0⟩ := hD
    obtain ⟨q, rfl⟩ := Int.eq_ofNat_of_zero_le (a := p) (by omega)
    rw [Int.toNat_natCast] at hpr hsz
    haveI := hpr.ne
    have hqm : q ≤ 2147483647 := by omega
    have hq3 : 3 ≤ q := by omega
    have HM := Lib.hid (made2_yes q n hq3 hqm hpr t ht hsz h0 w hT)
    have hn := hsz.le
    have hn1 := hsz.pos
    obtain ⟨s, hsE⟩ : ∃ s, s = el q t := ⟨_, rfl⟩
    obtain ⟨r, hrE⟩ : ∃ r, r = rootI q (n : Int) := ⟨_, rfl⟩
    obtain ⟨T, K, hK, et, b1, b2, hKn, hTK⟩ := tmod_two i n hn1
    have hdp := fun S D b W hD => dpoints_any q S D b n s W hD
    have hrp := fun W => rpoints_any q hqm n hn s r W
    have hpt := fun S D b W hD => point_any q S D b n s i hi W hD
    have hVl : (fvs (powL s r n)).length = n := by rw [List.length_map, powL_length]
    have hVg : ∀ h : K < (fvs (powL s r n)).length, (fvs (powL s r n))[K] = fv (s * pw r K) := fun h => by
      rw [List.getElem_map, powL_get]
    rw [← hrE, ← hK] at hpt
    rw [← hrE] at hdp
    have hH1 : n = 1 → ∀ S D b W, Dom W S D b q n s → Calls Tryd.prog 27 #[.pointer (some ⟨D, 0, none⟩)] W fun e w' => e = NoDom 2 ∧ W = w' := fun e S D b W hD => by
      subst e
      exact half_one q S D b s W hD
    have hH2 : ∀ h, n = 2 * h → 0 < h → ∀ S D b W, Dom W S D b q n s → Calls Tryd.prog 27 #[.pointer (some ⟨D, 0, none⟩)] W fun e w' => MadeDom q b h (fv (s * s)) W e w' := fun h e h0 S D b W hD => half_any q S D b n h e h0 s W hD
    have hR2 : ∀ h, n = 2 * h → ∀ W, Calls Tryd.prog 29 #[RDom q n (fv s) (fv r)] W fun e w' => GivesV (RDom q h (fv (s * s)) (fv (r * r))) W e w' := fun h e W => rhalf_any q hqm n h e hn s r W
    have hrt : ∀ h, n = 2 * h → 0 < h → rootI q ((h : Nat) : Int) = r * r := fun h e h0 => by
      have h5 := hsz.2
      rw [e] at h5
      rw [rootI_half h0 h5 (by omega), hrE, e]
    have hev : ∀ (h : n ≠ 1), ∃ h, n = 2 * h ∧ 0 < h := fun h => by
      obtain ⟨⟨k, hk, e⟩, _⟩ := hsz
      cases k with
      | zero => simp at e; omega
      | succ k => exact ⟨2 ^ k, by rw [e, Nat.pow_succ]; omega, Nat.pow_pos (by omega)⟩
    have he := fun W hg => error_any 2 2 W hg
    rw [errV_ne (by decide), show ((2 : Int) == 2) = true from rfl] at he
    generalize fvs (powL s r n) = V at hdp hrp hVl hVg
    generalize fv (s * pw r K) = Z at hpt hVg
    have hMT : MadeTwo q n t = fun w e w' => ∃ b D : Nat, e = .returned (.tuple #[.pointer (some ⟨D, 0, none⟩), RDom q n (fv s) (fv r), .bool true]) ∧ Dom w' w'.heap.size D b q n s ∧ Below w.heap.size w w' := by rw [hsE, hrE]; rfl
    rw [hMT] at HM
    have HDP := Lib.hid hdp
    have HRP := Lib.hid hrp
    have HPT := Lib.hid hpt
    have HVL := Lib.hid hVl
    have HVG := Lib.hid hVg
    have HH1 := Lib.hid hH1
    have HH2 := Lib.hid hH2
    have HR2 := Lib.hid hR2
    have HRT := Lib.hid hrt
    have HEV := Lib.hid hev
    have HE := Lib.hid he
    clear h0 hpr hsz hdp hrp hpt hVl hVg hsE hrE hK hMT he hH1 hH2 hR2 hrt hev
    have t0 : ¬ (n : Int) = 0 := by omega
    go_enter Tryd.func4, Tryd.ntmps4
    go_wp2_with fail
    refine (HM.out).mono ?_
    rintro e w1 ⟨b, D, rfl, hD, hb1⟩
    have hba : Below w1.heap.size w1 (w1.alloc (.cells #[vi q, vi n, vi (fv s), vi (fv r)] 31)) := (Below.refl _ _).alloc (Nat.le_refl _) _
    have hrd := RD.new w1 31 q n (fv s) (fv r)
    have hltB : w1.heap.size < (w1.alloc (.cells #[vi q, vi n, vi (fv s), vi (fv r)] 31)).heap.size := by simp
    have hD2 := hD.below hba hD.fld.le
    have bw2 := hb1.trans (hba.mono hb1.size)
    have hSB : w1.heap.size ≤ w1.heap.size := Nat.le_refl _
    obtain ⟨B, hB⟩ : ∃ B, B = w1.heap.size := ⟨_, rfl⟩
    go_wp2_with fail
    rw [← hB] at hrd hltB hD2 ⊢
    have HBB := Lib.hid hB
    clear hD hba hSB hB hb1
    generalize w1.alloc (.cells #[vi q, vi n, vi (fv s), vi (fv r)] 31) = w2 at hrd hltB hD2 bw2 ⊢
    refine (HDP.out _ D b _ hD2).mono ?_
    rintro e w3 ⟨v1, rfl, hown1, hb3⟩
    have hD3 := hD2.below hb3 hD2.fld.le
    have hrd3 := hrd.below hb3 hltB
    have hlt3 := Nat.lt_of_lt_of_le hltB hb3.size
    have bw3 := bw2.trans (hb3.mono bw2.size)
    have hs23 := hb3.size
    have hs02 := bw2.size
    clear hb3 hD2 hrd bw2
    have d0 := hrd3.c0
    have d1 := hrd3.c1
    have d2 := hrd3.c2
    have d3 := hrd3.c3
    go_wp2_with fail
    refine (HRP.out _).mono ?_
    rintro e w4 ⟨v2, rfl, hown2, hb4⟩
    have hD4 := hD3.below hb4 hD3.fld.le
    have hrd4 := hrd3.below hb4 hlt3
    have hlt4 := Nat.lt_of_lt_of_le hlt3 hb4.size
    have bw4 := bw3.trans (hb4.mono bw3.size)
    have hs34 := hb4.size
    have hown14 := hown1.below hb4
    have hv1lt := fun g hg => (hown1.lt g hg).2
    clear hb4 hD3 hrd3 bw3 d0 d1 d2 d3 hown1
    obtain ⟨A1, n1, c1, rfl, hl1, hc1, _, sl1⟩ := hown14.shapeN
    rw [HVL.out] at hl1
    subst hl1
    obtain ⟨A2, n2, c2, rfl, hl2, hc2, _, sl2⟩ := hown2.shapeN
    rw [HVL.out] at hl2
    subst hl2
    obtain ⟨ad2, rfl, had2, hat2⟩ := sl2.at_ (k := K) (by rw [HVL.out]; exact hKn)
    rw [HVG.out] at hat2
    go_wp2_with fail
    refine (ints_sameH A1 (some ad2) n c1 n c2 V V HVL.out HVL.out rfl (by omega) _ sl1 sl2).mono ?_
    rintro e w5 ⟨rfl, hk5⟩
    have hb5 : Below w4.heap.size w4 w5 := below_draws hk5
    have hD5 := hD4.below hb5 hD4.fld.le
    have hrd5 := hrd4.below hb5 hlt4
    have hlt5 := Nat.lt_of_lt_of_le hlt4 hb5.size
    have bw5 := bw4.trans (hb5.mono bw4.size)
    have hs45 := hb5.size
    have hown15 := hown14.below (hb5)
    have hown25 := hown2.below hb5
    have sl25 := sl2.below hb5
    clear hb5 hk5 hD4 hrd4 bw4 hown14 hown2 sl1 sl2 hat2
    go_wp2_with fail
    refine (size_any D n _ hD5.c1).mono ?_
    rintro e w' ⟨rfl, rfl⟩
    go_wp2_with fail
    refine (dfield_any D b _ hD5.c0).mono ?_
    rintro e w' ⟨rfl, rfl⟩
    go_wp2_with fail
    refine (p_any q b _ hD5.fld.c0).mono ?_
    rintro e w' ⟨rfl, rfl⟩
    rcases hTK with hTK | ⟨hT0, hTK⟩
    · subst hTK
      go_wp2_with fail
      refine (HPT.out _ D b _ hD5).mono ?_
      rintro e w6 ⟨rfl, hk6⟩
      have hb6 : Below w5.heap.size w5 w6 := below_draws hk6
      have hD6 := hD5.below hb6 hD5.fld.le
      have hrd6 := hrd5.below hb6 hlt5
      have hlt6 := Nat.lt_of_lt_of_le hlt5 hb6.size
      have bw6 := bw5.trans (hb6.mono bw5.size)
      have hs56 := hb6.size
      have hown16 := hown15.below hb6
      have hown26 := hown25.below hb6
      have sl26 := sl25.below hb6
      clear hb6 hk6 hD5 hrd5 bw5 hown15 hown25 sl25
      obtain ⟨ad3, hE3, had3, hat2⟩ := sl26.at_ (k := K) (by rw [HVL.out]; exact hKn)
      injection hE3 with hE3
      subst hE3
      rw [HVG.out] at hat2
      go_wp2_with fail
      refine (spoil_any w2.heap.size _ n V HVL.out (by omega) _ (by omega) hown16).mono ?_
      rintro e w7 ⟨⟨r7, rfl⟩, hg7⟩
      have hb7 : Below w2.heap.size w6 w7 := (Below.refl _ w6).grown hg7 (by omega) (fun k hk => (hown16.lt k hk).1)
      have hD7 := hD6.below hb7 (by omega)
      have hrd7 := hrd6.below hb7 (by omega)
      have hlt7 := Nat.lt_of_lt_of_le hlt6 hb7.size
      have bw7 := bw6.grown hg7 bw6.size (fun k hk => by have h1 := (hown16.lt k hk).1; omega)
      have hs67 := hb7.size
      have hown27 := hown26.kept' hown16 hg7 hv1lt
      clear hb7 hD6 hrd6 bw6 hown16 hown26 hg7 hat2 sl26
      go_wp2_with fail
      refine (HDP.out _ D b _ hD7).mono ?_
      rintro e w8 ⟨v3, rfl, hown38, hb8⟩
      have hD8 := hD7.below hb8 hD7.fld.le
      have hrd8 := hrd7.below hb8 hlt7
      have hlt8 := Nat.lt_of_lt_of_le hlt7 hb8.size
      have bw8 := bw7.trans (hb8.mono bw7.size)
      have hs78 := hb8.size
      have hown28 := hown27.below hb8
      clear hb8 hD7 hrd7 bw7 hown27
      obtain ⟨A3, n3, c3, rfl, hl3, hc3, _, sl3⟩ := hown38.shapeN
      rw [HVL.out] at hl3
      subst hl3
      have sl28 := hown28.shapeN
      obtain ⟨A2', n2', c2', hE2, hl2', _, _, sl28⟩ := sl28
      rw [HVL.out] at hl2'
      subst hl2'
      injection hE2 with hE2 _ hE2c
      subst hE2
      subst hE2c
      go_wp2_with fail
      refine (ints_sameH A3 _ n c3 n _ V V HVL.out HVL.out rfl (by omega) _ sl3 sl28).mono ?_
      rintro e w9 ⟨rfl, hk9⟩
      have hb9 : Below w8.heap.size w8 w9 := below_draws hk9
      have hD9 := hD8.below hb9 hD8.fld.le
      have hrd9 := hrd8.below hb9 hlt8
      have hlt9 := Nat.lt_of_lt_of_le hlt8 hb9.size
      have bw9 := bw8.trans (hb9.mono bw8.size)
      have hs89 := hb9.size
      clear hb9 hk9 hD8 hrd8 bw8 hown28 hown38 sl3 sl28
      by_cases h1 : n = 1
      · have t1 : ((n : Int) == 1) = true := by rw [beq_iff_eq]; omega
        have HN1 := Lib.hid h1
        clear h1
        go_wp2_with fail
        refine (HH1.out HN1.out _ D b _ hD9).mono ?_
        rintro e w' ⟨rfl, rfl⟩
        go_wp2_with fail
        refine (HE.out _ (hT.below bw9)).mono ?_
        rintro e w10 ⟨rfl, hb10⟩
        go_wp2
        go_ret
        exact ⟨rfl, bw9.trans (hb10.mono bw9.size)⟩
      · have t1 : ((n : Int) == 1) = false := by rw [beq_eq_false_iff_ne]; omega
        obtain ⟨h, hnh, hh0⟩ := HEV.out h1
        have HN1 := Lib.hid hnh
        have hrt2 := HRT.out h hnh hh0
        clear h1 hnh
        go_wp2_with fail
        refine (HH2.out h HN1.out hh0 _ D b _ hD9).mono ?_
        rintro e w10 ⟨D', rfl, hD', hb10, _⟩
        rw [el_fv] at hD'
        have hrd10 := hrd9.below hb10 hlt9
        have bw10 := bw9.trans (hb10.mono bw9.size)
        have hs910 := hb10.size
        clear hb10 hD9 hrd9 bw9
        have d0 := hrd10.c0
        have d1 := hrd10.c1
        have d2 := hrd10.c2
        have d3 := hrd10.c3
        go_wp2_with fail
        refine (HR2.out h HN1.out _).mono ?_
        rintro e w11 ⟨rfl, hb11⟩
        have hD11 := hD'.below hb11 hD'.fld.le
        have bw11 := bw10.trans (hb11.mono bw10.size)
        have hs1011 := hb11.size
        clear hb11 hD' hrd10 bw10 d0 d1 d2 d3
        have hba : Below w11.heap.size w11 (w11.alloc (.cells #[vi q, vi h, vi (fv (s * s)), vi (fv (r * r))] 31)) := (Below.refl _ _).alloc (Nat.le_refl _) _
        have hrd := RD.new w11 31 q h (fv (s * s)) (fv (r * r))
        have hltB2 : w11.heap.size < (w11.alloc (.cells #[vi q, vi h, vi (fv (s * s)), vi (fv (r * r))] 31)).heap.size := by simp
        have hD12 := hD11.below hba hD11.fld.le
        have bw12 := bw11.trans (hba.mono bw11.size)
        obtain ⟨B2, hB2⟩ : ∃ B2, B2 = w11.heap.size := ⟨_, rfl⟩
        have hdp2 := fun W hD => dpoints_any q w10.heap.size D' b h (s * s) W hD
        rw [hrt2] at hdp2
        have hrp2 := fun W => rpoints_any q hqm h (by have := HN1.out; omega) (s * s) (r * r) W
        have hVl2 : (fvs (powL (s * s) (r * r) h)).length = h := by rw [List.length_map, powL_length]
        generalize fvs (powL (s * s) (r * r) h) = V2 at hdp2 hrp2 hVl2
        have HDP2 := Lib.hid hdp2
        have HRP2 := Lib.hid hrp2
        have HVL2 := Lib.hid hVl2
        have HSZ := Lib.hid (show h ≤ 65536 by have := HN1.out; omega)
        clear hdp2 hrp2 hVl2 hrt2
        go_wp2_with fail
        rw [← hB2] at hrd hltB2 ⊢
        clear hD11 hba hB2 bw11
        generalize w11.alloc (.cells #[vi q, vi h, vi (fv (s * s)), vi (fv (r * r))] 31) = w12 at hrd hltB2 hD12 bw12 ⊢
        refine (HDP2.out _ hD12).mono ?_
        rintro e w13 ⟨v4, rfl, hown4, hb13⟩
        have hrd13 := hrd.below hb13 hltB2
        have bw13 := bw12.trans (hb13.mono bw12.size)
        clear hb13 hrd bw12 hD12
        have d0 := hrd13.c0
        have d1 := hrd13.c1
        have d2 := hrd13.c2
        have d3 := hrd13.c3
        go_wp2_with fail
        refine (HRP2.out _).mono ?_
        rintro e w14 ⟨v5, rfl, hown5, hb14⟩
        have hown4b := hown4.below hb14
        have bw14 := bw13.trans (hb14.mono bw13.size)
        clear hb14 hrd13 bw13 hown4 d0 d1 d2 d3
        obtain ⟨A4, n4, c4, rfl, hl4, hc4, _, sl4⟩ := hown4b.shapeN
        obtain ⟨A5, n5, c5, rfl, hl5, hc5, _, sl5⟩ := hown5.shapeN
        have HL4 := Lib.hid hl4
        have HL5 := Lib.hid hl5
        have HSZ4 := Lib.hid (show n4 ≤ 9223372036854775807 by have h1 := HVL2.out; have h2 := HSZ.out; omega)
        clear hl4 hl5 hown4b hown5
        go_wp2_with fail
        refine (ints_sameH A4 A5 n4 c4 n5 c5 V2 V2 HL4.out HL5.out rfl HSZ4.out _ sl4 sl5).mono ?_
        rintro e w15 ⟨rfl, hk15⟩
        have hb15 : Below w14.heap.size w14 w15 := below_draws hk15
        clear hk15
        go_wp2
        go_ret
        exact ⟨rfl, bw14.trans (hb15.mono bw14.size)⟩
    · go_wp2_with fail
      refine (HPT.out _ D b _ hD5).mono ?_
      rintro e w6 ⟨rfl, hk6⟩
      have hb6 : Below w5.heap.size w5 w6 := below_draws hk6
      have hD6 := hD5.below hb6 hD5.fld.le
      have hrd6 := hrd5.below hb6 hlt5
      have hlt6 := Nat.lt_of_lt_of_le hlt5 hb6.size
      have bw6 := bw5.trans (hb6.mono bw5.size)
      have hs56 := hb6.size
      have hown16 := hown15.below hb6
      have hown26 := hown25.below hb6
      have sl26 := sl25.below hb6
      clear hb6 hk6 hD5 hrd5 bw5 hown15 hown25 sl25
      obtain ⟨ad3, hE3, had3, hat2⟩ := sl26.at_ (k := K) (by rw [HVL.out]; exact hKn)
      injection hE3 with hE3
      subst hE3
      rw [HVG.out] at hat2
      go_wp2_with fail
      refine (spoil_any w2.heap.size _ n V HVL.out (by omega) _ (by omega) hown16).mono ?_
      rintro e w7 ⟨⟨r7, rfl⟩, hg7⟩
      have hb7 : Below w2.heap.size w6 w7 := (Below.refl _ w6).grown hg7 (by omega) (fun k hk => (hown16.lt k hk).1)
      have hD7 := hD6.below hb7 (by omega)
      have hrd7 := hrd6.below hb7 (by omega)
      have hlt7 := Nat.lt_of_lt_of_le hlt6 hb7.size
      have bw7 := bw6.grown hg7 bw6.size (fun k hk => by have h1 := (hown16.lt k hk).1; omega)
      have hs67 := hb7.size
      have hown27 := hown26.kept' hown16 hg7 hv1lt
      clear hb7 hD6 hrd6 bw6 hown16 hown26 hg7 hat2 sl26
      go_wp2_with fail
      refine (HDP.out _ D b _ hD7).mono ?_
      rintro e w8 ⟨v3, rfl, hown38, hb8⟩
      have hD8 := hD7.below hb8 hD7.fld.le
      have hrd8 := hrd7.below hb8 hlt7
      have hlt8 := Nat.lt_of_lt_of_le hlt7 hb8.size
      have bw8 := bw7.trans (hb8.mono bw7.size)
      have hs78 := hb8.size
      have hown28 := hown27.below hb8
      clear hb8 hD7 hrd7 bw7 hown27
      obtain ⟨A3, n3, c3, rfl, hl3, hc3, _, sl3⟩ := hown38.shapeN
      rw [HVL.out] at hl3
      subst hl3
      have sl28 := hown28.shapeN
      obtain ⟨A2', n2', c2', hE2, hl2', _, _, sl28⟩ := sl28
      rw [HVL.out] at hl2'
      subst hl2'
      injection hE2 with hE2 _ hE2c
      subst hE2
      subst hE2c
      go_wp2_with fail
      refine (ints_sameH A3 _ n c3 n _ V V HVL.out HVL.out rfl (by omega) _ sl3 sl28).mono ?_
      rintro e w9 ⟨rfl, hk9⟩
      have hb9 : Below w8.heap.size w8 w9 := below_draws hk9
      have hD9 := hD8.below hb9 hD8.fld.le
      have hrd9 := hrd8.below hb9 hlt8
      have hlt9 := Nat.lt_of_lt_of_le hlt8 hb9.size
      have bw9 := bw8.trans (hb9.mono bw8.size)
      have hs89 := hb9.size
      clear hb9 hk9 hD8 hrd8 bw8 hown28 hown38 sl3 sl28
      by_cases h1 : n = 1
      · have t1 : ((n : Int) == 1) = true := by rw [beq_iff_eq]; omega
        have HN1 := Lib.hid h1
        clear h1
        go_wp2_with fail
        refine (HH1.out HN1.out _ D b _ hD9).mono ?_
        rintro e w' ⟨rfl, rfl⟩
        go_wp2_with fail
        refine (HE.out _ (hT.below bw9)).mono ?_
        rintro e w10 ⟨rfl, hb10⟩
        go_wp2
        go_ret
        exact ⟨rfl, bw9.trans (hb10.mono bw9.size)⟩
      · have t1 : ((n : Int) == 1) = false := by rw [beq_eq_false_iff_ne]; omega
        obtain ⟨h, hnh, hh0⟩ := HEV.out h1
        have HN1 := Lib.hid hnh
        have hrt2 := HRT.out h hnh hh0
        clear h1 hnh
        go_wp2_with fail
        refine (HH2.out h HN1.out hh0 _ D b _ hD9).mono ?_
        rintro e w10 ⟨D', rfl, hD', hb10, _⟩
        rw [el_fv] at hD'
        have hrd10 := hrd9.below hb10 hlt9
        have bw10 := bw9.trans (hb10.mono bw9.size)
        have hs910 := hb10.size
        clear hb10 hD9 hrd9 bw9
        have d0 := hrd10.c0
        have d1 := hrd10.c1
        have d2 := hrd10.c2
        have d3 := hrd10.c3
        go_wp2_with fail
        refine (HR2.out h HN1.out _).mono ?_
        rintro e w11 ⟨rfl, hb11⟩
        have hD11 := hD'.below hb11 hD'.fld.le
        have bw11 := bw10.trans (hb11.mono bw10.size)
        have hs1011 := hb11.size
        clear hb11 hD' hrd10 bw10 d0 d1 d2 d3
        have hba : Below w11.heap.size w11 (w11.alloc (.cells #[vi q, vi h, vi (fv (s * s)), vi (fv (r * r))] 31)) := (Below.refl _ _).alloc (Nat.le_refl _) _
        have hrd := RD.new w11 31 q h (fv (s * s)) (fv (r * r))
        have hltB2 : w11.heap.size < (w11.alloc (.cells #[vi q, vi h, vi (fv (s * s)), vi (fv (r * r))] 31)).heap.size := by simp
        have hD12 := hD11.below hba hD11.fld.le
        have bw12 := bw11.trans (hba.mono bw11.size)
        obtain ⟨B2, hB2⟩ : ∃ B2, B2 = w11.heap.size := ⟨_, rfl⟩
        have hdp2 := fun W hD => dpoints_any q w10.heap.size D' b h (s * s) W hD
        rw [hrt2] at hdp2
        have hrp2 := fun W => rpoints_any q hqm h (by have := HN1.out; omega) (s * s) (r * r) W
        have hVl2 : (fvs (powL (s * s) (r * r) h)).length = h := by rw [List.length_map, powL_length]
        generalize fvs (powL (s * s) (r * r) h) = V2 at hdp2 hrp2 hVl2
        have HDP2 := Lib.hid hdp2
        have HRP2 := Lib.hid hrp2
        have HVL2 := Lib.hid hVl2
        have HSZ := Lib.hid (show h ≤ 65536 by have := HN1.out; omega)
        clear hdp2 hrp2 hVl2 hrt2
        go_wp2_with fail
        rw [← hB2] at hrd hltB2 ⊢
        clear hD11 hba hB2 bw11
        generalize w11.alloc (.cells #[vi q, vi h, vi (fv (s * s)), vi (fv (r * r))] 31) = w12 at hrd hltB2 hD12 bw12 ⊢
        refine (HDP2.out _ hD12).mono ?_
        rintro e w13 ⟨v4, rfl, hown4, hb13⟩
        have hrd13 := hrd.below hb13 hltB2
        have bw13 := bw12.trans (hb13.mono bw12.size)
        clear hb13 hrd bw12 hD12
        have d0 := hrd13.c0
        have d1 := hrd13.c1
        have d2 := hrd13.c2
        have d3 := hrd13.c3
        go_wp2_with fail
        refine (HRP2.out _).mono ?_
        rintro e w14 ⟨v5, rfl, hown5, hb14⟩
        have hown4b := hown4.below hb14
        have bw14 := bw13.trans (hb14.mono bw13.size)
        clear hb14 hrd13 bw13 hown4 d0 d1 d2 d3
        obtain ⟨A4, n4, c4, rfl, hl4, hc4, _, sl4⟩ := hown4b.shapeN
        obtain ⟨A5, n5, c5, rfl, hl5, hc5, _, sl5⟩ := hown5.shapeN
        have HL4 := Lib.hid hl4
        have HL5 := Lib.hid hl5
        have HSZ4 := Lib.hid (show n4 ≤ 9223372036854775807 by have h1 := HVL2.out; have h2 := HSZ.out; omega)
        clear hl4 hl5 hown4b hown5
        go_wp2_with fail
        refine (ints_sameH A4 A5 n4 c4 n5 c5 V2 V2 HL4.out HL5.out rfl HSZ4.out _ sl4 sl5).mono ?_
        rintro e w15 ⟨rfl, hk15⟩
        have hb15 : Below w14.heap.size w14 w15 := below_draws hk15
        clear hk15
        go_wp2
        go_ret
        exact ⟨rfl, bw14.trans (hb15.mono bw14.size)⟩
  · have HN := Lib.hid (made2_no p size t hp hs ht hD w hT)
    clear hD
    go_enter Tryd.func4, Tryd.ntmps4
    go_wp2_with fail
    refine (HN.out).mono ?_
    rintro e w1 ⟨rfl, hb1⟩
    go_wp2
    go_ret
    exact ⟨rfl, hb1.alloc hb1.size _⟩
end Go.Proofs.YtkhkoeibigpdnaaDoor
