/- A bundle of texts: LawN2. -/
import Derived.Test.YtijhajkakmohnaaGreatDoorB10
import Derived.Test.YtijhajkakmohnaaGreatDoorB08
/- The walk of the law TreeOpens. -/
set_option linter.unusedVariables false
namespace Go.Proofs.YtijhajkakmohnaaGreatDoor
open Go.RowKit Zp
theorem OpnAt.nil (w : World) : OpnAt w none 0 0 [] none 0 0 [] none 0 0 [] :=
  ⟨rfl, rfl, rfl, by omega, by omega, by omega, Nat.le_refl _, by simp, by simp, by simp, SL.nil, TB.none_ _ _, TB.none_ _ _⟩
theorem Blk.of_eq {w w' : World} {t : TypeId} {cs : Array Value} (h : w' = w.alloc (.cells cs t)) : Blk w' w.heap.size t cs := by rw [h]; exact Blk.new _ _ _
theorem below_of_eq {w w' : World} {o : Obj} (h : w' = w.alloc o) : Below w.heap.size w w' := by rw [h]; exact (Below.refl _ _).alloc (Nat.le_refl _) _
set_option maxRecDepth 100000 in
set_option maxHeartbeats 2000000 in
theorem topens_a (w : World) (q : Nat) [NeZero q] (h23 : 23 ≤ q) (hqm : q ≤ 2147483647) (hpr : IsPrime q) (A : Option Addr) (N c : Nat) (ls : List (List Int)) (hR : ArgMS w A N c ls) (A0 : Option Addr) (n0 c0 : Nat) (l : List Int) (h0 : ArgS w A0 n0 c0 l) (hTy : Typed w) (hN : rightB N = false) :
    Calls Tryz.prog 4 #[vi q, .slice A N c, .slice A0 n0 c0] w fun e w' => SaysW (.bool true) w e w' := by
  have hmx : N ≤ 9223372036854775807 := by have := hR.n24; omega
  have HRN := Lib.hid (fun s A2 c2 w => tRoot_no s A2 N c2 hN hmx w)
  have HON := Lib.hid (fun s A2 c2 w => topen_no1 s A2 N c2 hN A0 n0 c0 w)
  have HER : Hid (∀ W, Below w.heap.size w W → Calls Tryz.prog 15 #[.iface 89 (vi 2), vi 2] W fun x w' => SaysW (.bool true) W x w') := Lib.hid fun W hb => by
    have h := error_any 2 2 W (hTy.below hb)
    rw [errV_ne (by decide)] at h
    exact h
  have HNN := Lib.hid hN
  clear hN hmx
  have HSP := Lib.hid (ssponge_yes q h23 hqm hpr w hTy)
  have HCO := Lib.hid (fun W' (h : Below w.heap.size w W') => copied_any A N c ls hR.m.len hR.n24 (fun t ht => by have := hR.r8 t ht; omega) W' (hR.m.tb.below h))
  have HI := Lib.hid (tb_i64 hR.m.tb)
  have HTY := Lib.hid hTy
  have HRR := Lib.hid hR
  have HPP := Lib.hid h0
  clear hpr hTy hR h0
  go_enter Tryz.func4, Tryz.ntmps4
  go_wp2_with fail
  refine HSP.out.mono ?_
  rintro _ w1 ⟨s, b, k, z, oo, rfl, F, G, hsw, hs1, hb1⟩
  have hPK : Pk q k := ⟨by omega, hqm, G.k2, G.klt (by omega), G.least, G.cop⟩
  have HF := Lib.hid F
  have HG := Lib.hid G
  have HPK := Lib.hid hPK
  have HB1 := Lib.hid hb1
  clear hb1 F G hPK hsw
  go_wp2_with fail
  refine (HCO.out _ HB1.out).mono ?_
  rintro _ w2 hmr
  obtain ⟨A2, N2, c2, rfl, hN2, hc2, hT2, hb2⟩ := hmr.tb HI.out
  have eN : N2 = N := by rw [← hN2]; exact HRR.out.m.len
  subst eN
  have HT2 := Lib.hid hT2
  have HB12 := Lib.hid hb2
  have HB2 := Lib.hid (HB1.out.trans (hb2.mono HB1.out.size))
  clear hmr hT2 hb2
  go_wp2_with fail
  refine (HRN.out _ _ _ _).mono ?_
  rintro _ _ ⟨rfl, rfl⟩
  go_wp2_with fail
  refine (HON.out _ _ _ _).mono ?_
  rintro _ w3 ⟨rfl, hb3⟩
  obtain ⟨w4, hw4⟩ : ∃ w4, w4 = w3.alloc (.cells #[.slice none 0 0, .slice none 0 0, .slice none 0 0] 25) := ⟨_, rfl⟩
  have hb34 : Below w3.heap.size w3 w4 := by rw [hw4]; exact (Below.refl _ _).alloc (Nat.le_refl _) _
  have hO4 : Blk w4 w3.heap.size 25 #[.slice none 0 0, .slice none 0 0, .slice none 0 0] := by rw [hw4]; exact Blk.new _ _ _
  have HW4 := Lib.hid hw4
  have HB24 := Lib.hid (hb3.trans (hb34.mono hb3.size))
  have HB4 := Lib.hid (HB2.out.trans (HB24.out.mono HB2.out.size))
  have HO4 := Lib.hid hO4
  clear hw4 hb34 hO4 hb3
  have hno : ¬ (1 ≤ (N2 : Int) ∧ (N2 : Int) ≤ 65536) := of_decide_eq_false HNN.out
  by_cases hz : N2 = 0
  · have t1 : ((N2 : Int) == 0) = true := by rw [hz]; rfl
    have t3 : decide ((0 : Int) < (N2 : Int)) = false := by rw [hz]; rfl
    have t5 : ¬ 0 < N2 := by omega
    clear hno hz
    go_upto_region 7 with (fail)
    rw [← HW4.out]
    go_wp2_with fail
    refine (HER.out w4 HB4.out).mono ?_
    rintro _ w5 ⟨rfl, hb5⟩
    have HB45 := Lib.hid hb5
    have HB5 := Lib.hid (HB4.out.trans (hb5.mono HB4.out.size))
    clear hb5
    go_wp2
    go_loopw [14, 16] (fun e i wr => e = vi 2 ∧ i = vi 0 ∧ w5 = wr) (fun _ _ _ => 0)
    case atStart => exact ⟨rfl, rfl, rfl⟩
    case round =>
      obtain ⟨rfl, rfl, rfl⟩ := hrel
      by_cases hp0 : 0 < n0
      · skip
        go_wp2_with fail
        refine (HER.out w5 HB5.out).mono ?_
        rintro _ w6 ⟨rfl, hb6⟩
        have HB46 := Lib.hid (HB45.out.trans (hb6.mono HB45.out.size))
        have HB6 := Lib.hid (HB5.out.trans (hb6.mono HB5.out.size))
        clear hb6
        have hrw := rows_any A2 A N2 N2 c2 c ls ls hN2 hN2 HRR.out.n24 HRR.out.n24 w6 (HT2.out.below (HB24.out.trans (HB46.out.mono HB24.out.size))) (HRR.out.m.tb.below HB6.out)
        rw [eqR_true rfl] at hrw
        have HRW := Lib.hid hrw
        clear hrw
        go_wp2_with fail
        refine HRW.out.mono ?_
        rintro _ _ ⟨rfl, k6, rfl⟩
        have hni := ints_any none none 0 0 [] [] (by simp) (by simp) (w6.drewN k6) SL.nil SL.nil
        rw [eqB_true rfl, List.length_nil] at hni
        have HNI := Lib.hid hni
        clear hni
        go_wp2_with fail
        refine HNI.out.mono ?_
        rintro _ _ ⟨rfl, k7, rfl⟩
        rw [drewN_add]
        have HB66 := Lib.hid (below_drewN (Below.refl w6.heap.size w6) (k6 + k7))
        obtain ⟨w7, hw7⟩ : ∃ w7, w7 = w6.drewN (k6 + k7) := ⟨_, rfl⟩
        rw [← hw7] at HB66 ⊢
        have hO6 := Blk.below (Blk.below HO4.out HB46.out HO4.out.lt) HB66.out (Blk.below HO4.out HB46.out HO4.out.lt).lt
        have hb8 : Below w7.heap.size w7 (w7.alloc (.cells #[.slice none 0 0, .slice none 0 0, .slice none 0 0] 25)) := (Below.refl _ _).alloc (Nat.le_refl _) _
        have hO8 := Blk.below hO6 hb8 hO6.lt
        have d0 := (hO8.cell 0).trans (show _ = some (.slice none 0 0) from rfl)
        have d1 := (hO8.cell 1).trans (show _ = some (.slice none 0 0) from rfl)
        have d2 := (hO8.cell 2).trans (show _ = some (.slice none 0 0) from rfl)
        obtain ⟨w8, hw8⟩ : ∃ w8, w8 = w7.alloc (.cells #[.slice none 0 0, .slice none 0 0, .slice none 0 0] 25) := ⟨_, rfl⟩
        have hV8 : Blk w8 w7.heap.size 25 #[.slice none 0 0, .slice none 0 0, .slice none 0 0] := by rw [hw8]; exact Blk.new _ _ _
        rw [← hw8] at d0 d1 d2 hb8
        have g0 := (hV8.cell 0).trans (show _ = some (.slice none 0 0) from rfl)
        have g1 := (hV8.cell 1).trans (show _ = some (.slice none 0 0) from rfl)
        have g2 := (hV8.cell 2).trans (show _ = some (.slice none 0 0) from rfl)
        have hoo := openings_any w8 (OpnAt.nil w8) (OpnAt.nil w8)
        rw [eqO_same] at hoo
        have HOO := Lib.hid hoo
        have HB8 := Lib.hid (HB6.out.trans ((HB66.out.trans (hb8.mono HB66.out.size)).mono HB6.out.size))
        have HW8 := Lib.hid hw8
        clear hw7 hO6 hb8 hO8 hw8 hV8 hoo
        go_upto_region 25 with (fail)
        rw [← HW8.out]
        go_wp2_with fail
        refine HOO.out.mono ?_
        rintro _ w9 ⟨rfl, hb9⟩
        have HB9 := Lib.hid (HB8.out.trans (hb9.mono HB8.out.size))
        clear hb9 d0 d1 d2 g0 g1 g2
        go_wp2
        go_ret
        exact ⟨rfl, HB9.out⟩
      · skip
        go_wp2_with fail
        refine (HER.out w5 HB5.out).mono ?_
        rintro _ w6 ⟨rfl, hb6⟩
        have HB46 := Lib.hid (HB45.out.trans (hb6.mono HB45.out.size))
        have HB6 := Lib.hid (HB5.out.trans (hb6.mono HB5.out.size))
        clear hb6
        have hrw := rows_any A2 A N2 N2 c2 c ls ls hN2 hN2 HRR.out.n24 HRR.out.n24 w6 (HT2.out.below (HB24.out.trans (HB46.out.mono HB24.out.size))) (HRR.out.m.tb.below HB6.out)
        rw [eqR_true rfl] at hrw
        have HRW := Lib.hid hrw
        clear hrw
        go_wp2_with fail
        refine HRW.out.mono ?_
        rintro _ _ ⟨rfl, k6, rfl⟩
        have hni := ints_any none none 0 0 [] [] (by simp) (by simp) (w6.drewN k6) SL.nil SL.nil
        rw [eqB_true rfl, List.length_nil] at hni
        have HNI := Lib.hid hni
        clear hni
        go_wp2_with fail
        refine HNI.out.mono ?_
        rintro _ _ ⟨rfl, k7, rfl⟩
        rw [drewN_add]
        have HB66 := Lib.hid (below_drewN (Below.refl w6.heap.size w6) (k6 + k7))
        obtain ⟨w7, hw7⟩ : ∃ w7, w7 = w6.drewN (k6 + k7) := ⟨_, rfl⟩
        rw [← hw7] at HB66 ⊢
        have hO6 := Blk.below (Blk.below HO4.out HB46.out HO4.out.lt) HB66.out (Blk.below HO4.out HB46.out HO4.out.lt).lt
        have hb8 : Below w7.heap.size w7 (w7.alloc (.cells #[.slice none 0 0, .slice none 0 0, .slice none 0 0] 25)) := (Below.refl _ _).alloc (Nat.le_refl _) _
        have hO8 := Blk.below hO6 hb8 hO6.lt
        have d0 := (hO8.cell 0).trans (show _ = some (.slice none 0 0) from rfl)
        have d1 := (hO8.cell 1).trans (show _ = some (.slice none 0 0) from rfl)
        have d2 := (hO8.cell 2).trans (show _ = some (.slice none 0 0) from rfl)
        obtain ⟨w8, hw8⟩ : ∃ w8, w8 = w7.alloc (.cells #[.slice none 0 0, .slice none 0 0, .slice none 0 0] 25) := ⟨_, rfl⟩
        have hV8 : Blk w8 w7.heap.size 25 #[.slice none 0 0, .slice none 0 0, .slice none 0 0] := by rw [hw8]; exact Blk.new _ _ _
        rw [← hw8] at d0 d1 d2 hb8
        have g0 := (hV8.cell 0).trans (show _ = some (.slice none 0 0) from rfl)
        have g1 := (hV8.cell 1).trans (show _ = some (.slice none 0 0) from rfl)
        have g2 := (hV8.cell 2).trans (show _ = some (.slice none 0 0) from rfl)
        have hoo := openings_any w8 (OpnAt.nil w8) (OpnAt.nil w8)
        rw [eqO_same] at hoo
        have HOO := Lib.hid hoo
        have HB8 := Lib.hid (HB6.out.trans ((HB66.out.trans (hb8.mono HB66.out.size)).mono HB6.out.size))
        have HW8 := Lib.hid hw8
        clear hw7 hO6 hb8 hO8 hw8 hV8 hoo
        go_upto_region 25 with (fail)
        rw [← HW8.out]
        go_wp2_with fail
        refine HOO.out.mono ?_
        rintro _ w9 ⟨rfl, hb9⟩
        have HB9 := Lib.hid (HB8.out.trans (hb9.mono HB8.out.size))
        clear hb9 d0 d1 d2 g0 g1 g2
        go_wp2
        go_ret
        exact ⟨rfl, HB9.out⟩
  · have t1 : ((N2 : Int) == 0) = false := by simp; omega
    have t2 : decide ((65536 : Int) < (N2 : Int)) = true := decide_eq_true (by omega)
    have t3 : decide ((0 : Int) < (N2 : Int)) = true := decide_eq_true (by omega)
    have t4 : decide ((N2 : Int) ≤ 65536) = false := decide_eq_false (by omega)
    have t5 : 0 < N2 := by omega
    have t6 : ¬ N2 ≤ 65536 := by omega
    clear hno hz
    go_upto_region 7 with (fail)
    rw [← HW4.out]
    go_wp2_with fail
    refine (HER.out w4 HB4.out).mono ?_
    rintro _ w5 ⟨rfl, hb5⟩
    have HB45 := Lib.hid hb5
    have HB5 := Lib.hid (HB4.out.trans (hb5.mono HB4.out.size))
    clear hb5
    go_wp2
    go_loopw [14, 16] (fun e i wr => e = vi 2 ∧ i = vi 0 ∧ w5 = wr) (fun _ _ _ => 0)
    case atStart => exact ⟨rfl, rfl, rfl⟩
    case round =>
      obtain ⟨rfl, rfl, rfl⟩ := hrel
      by_cases hp0 : 0 < n0
      · skip
        go_wp2_with fail
        refine (HER.out w5 HB5.out).mono ?_
        rintro _ w6 ⟨rfl, hb6⟩
        have HB46 := Lib.hid (HB45.out.trans (hb6.mono HB45.out.size))
        have HB6 := Lib.hid (HB5.out.trans (hb6.mono HB5.out.size))
        clear hb6
        have hrw := rows_any A2 A N2 N2 c2 c ls ls hN2 hN2 HRR.out.n24 HRR.out.n24 w6 (HT2.out.below (HB24.out.trans (HB46.out.mono HB24.out.size))) (HRR.out.m.tb.below HB6.out)
        rw [eqR_true rfl] at hrw
        have HRW := Lib.hid hrw
        clear hrw
        go_wp2_with fail
        refine HRW.out.mono ?_
        rintro _ _ ⟨rfl, k6, rfl⟩
        have hni := ints_any none none 0 0 [] [] (by simp) (by simp) (w6.drewN k6) SL.nil SL.nil
        rw [eqB_true rfl, List.length_nil] at hni
        have HNI := Lib.hid hni
        clear hni
        go_wp2_with fail
        refine HNI.out.mono ?_
        rintro _ _ ⟨rfl, k7, rfl⟩
        rw [drewN_add]
        have HB66 := Lib.hid (below_drewN (Below.refl w6.heap.size w6) (k6 + k7))
        obtain ⟨w7, hw7⟩ : ∃ w7, w7 = w6.drewN (k6 + k7) := ⟨_, rfl⟩
        rw [← hw7] at HB66 ⊢
        have hO6 := Blk.below (Blk.below HO4.out HB46.out HO4.out.lt) HB66.out (Blk.below HO4.out HB46.out HO4.out.lt).lt
        have hb8 : Below w7.heap.size w7 (w7.alloc (.cells #[.slice none 0 0, .slice none 0 0, .slice none 0 0] 25)) := (Below.refl _ _).alloc (Nat.le_refl _) _
        have hO8 := Blk.below hO6 hb8 hO6.lt
        have d0 := (hO8.cell 0).trans (show _ = some (.slice none 0 0) from rfl)
        have d1 := (hO8.cell 1).trans (show _ = some (.slice none 0 0) from rfl)
        have d2 := (hO8.cell 2).trans (show _ = some (.slice none 0 0) from rfl)
        obtain ⟨w8, hw8⟩ : ∃ w8, w8 = w7.alloc (.cells #[.slice none 0 0, .slice none 0 0, .slice none 0 0] 25) := ⟨_, rfl⟩
        have hV8 : Blk w8 w7.heap.size 25 #[.slice none 0 0, .slice none 0 0, .slice none 0 0] := by rw [hw8]; exact Blk.new _ _ _
        rw [← hw8] at d0 d1 d2 hb8
        have g0 := (hV8.cell 0).trans (show _ = some (.slice none 0 0) from rfl)
        have g1 := (hV8.cell 1).trans (show _ = some (.slice none 0 0) from rfl)
        have g2 := (hV8.cell 2).trans (show _ = some (.slice none 0 0) from rfl)
        have hoo := openings_any w8 (OpnAt.nil w8) (OpnAt.nil w8)
        rw [eqO_same] at hoo
        have HOO := Lib.hid hoo
        have HB8 := Lib.hid (HB6.out.trans ((HB66.out.trans (hb8.mono HB66.out.size)).mono HB6.out.size))
        have HW8 := Lib.hid hw8
        clear hw7 hO6 hb8 hO8 hw8 hV8 hoo
        go_upto_region 25 with (fail)
        rw [← HW8.out]
        go_wp2_with fail
        refine HOO.out.mono ?_
        rintro _ w9 ⟨rfl, hb9⟩
        have HB9 := Lib.hid (HB8.out.trans (hb9.mono HB8.out.size))
        clear hb9 d0 d1 d2 g0 g1 g2
        go_wp2
        go_ret
        exact ⟨rfl, HB9.out⟩
      · skip
        go_wp2_with fail
        refine (HER.out w5 HB5.out).mono ?_
        rintro _ w6 ⟨rfl, hb6⟩
        have HB46 := Lib.hid (HB45.out.trans (hb6.mono HB45.out.size))
        have HB6 := Lib.hid (HB5.out.trans (hb6.mono HB5.out.size))
        clear hb6
        have hrw := rows_any A2 A N2 N2 c2 c ls ls hN2 hN2 HRR.out.n24 HRR.out.n24 w6 (HT2.out.below (HB24.out.trans (HB46.out.mono HB24.out.size))) (HRR.out.m.tb.below HB6.out)
        rw [eqR_true rfl] at hrw
        have HRW := Lib.hid hrw
        clear hrw
        go_wp2_with fail
        refine HRW.out.mono ?_
        rintro _ _ ⟨rfl, k6, rfl⟩
        have hni := ints_any none none 0 0 [] [] (by simp) (by simp) (w6.drewN k6) SL.nil SL.nil
        rw [eqB_true rfl, List.length_nil] at hni
        have HNI := Lib.hid hni
        clear hni
        go_wp2_with fail
        refine HNI.out.mono ?_
        rintro _ _ ⟨rfl, k7, rfl⟩
        rw [drewN_add]
        have HB66 := Lib.hid (below_drewN (Below.refl w6.heap.size w6) (k6 + k7))
        obtain ⟨w7, hw7⟩ : ∃ w7, w7 = w6.drewN (k6 + k7) := ⟨_, rfl⟩
        rw [← hw7] at HB66 ⊢
        have hO6 := Blk.below (Blk.below HO4.out HB46.out HO4.out.lt) HB66.out (Blk.below HO4.out HB46.out HO4.out.lt).lt
        have hb8 : Below w7.heap.size w7 (w7.alloc (.cells #[.slice none 0 0, .slice none 0 0, .slice none 0 0] 25)) := (Below.refl _ _).alloc (Nat.le_refl _) _
        have hO8 := Blk.below hO6 hb8 hO6.lt
        have d0 := (hO8.cell 0).trans (show _ = some (.slice none 0 0) from rfl)
        have d1 := (hO8.cell 1).trans (show _ = some (.slice none 0 0) from rfl)
        have d2 := (hO8.cell 2).trans (show _ = some (.slice none 0 0) from rfl)
        obtain ⟨w8, hw8⟩ : ∃ w8, w8 = w7.alloc (.cells #[.slice none 0 0, .slice none 0 0, .slice none 0 0] 25) := ⟨_, rfl⟩
        have hV8 : Blk w8 w7.heap.size 25 #[.slice none 0 0, .slice none 0 0, .slice none 0 0] := by rw [hw8]; exact Blk.new _ _ _
        rw [← hw8] at d0 d1 d2 hb8
        have g0 := (hV8.cell 0).trans (show _ = some (.slice none 0 0) from rfl)
        have g1 := (hV8.cell 1).trans (show _ = some (.slice none 0 0) from rfl)
        have g2 := (hV8.cell 2).trans (show _ = some (.slice none 0 0) from rfl)
        have hoo := openings_any w8 (OpnAt.nil w8) (OpnAt.nil w8)
        rw [eqO_same] at hoo
        have HOO := Lib.hid hoo
        have HB8 := Lib.hid (HB6.out.trans ((HB66.out.trans (hb8.mono HB66.out.size)).mono HB6.out.size))
        have HW8 := Lib.hid hw8
        clear hw7 hO6 hb8 hO8 hw8 hV8 hoo
        go_upto_region 25 with (fail)
        rw [← HW8.out]
        go_wp2_with fail
        refine HOO.out.mono ?_
        rintro _ w9 ⟨rfl, hb9⟩
        have HB9 := Lib.hid (HB8.out.trans (hb9.mono HB8.out.size))
        clear hb9 d0 d1 d2 g0 g1 g2
        go_wp2
        go_ret
        exact ⟨rfl, HB9.out⟩
set_option maxRecDepth 100000 in
set_option maxHeartbeats 4000000 in
theorem topens_c (w : World) (q : Nat) [NeZero q] (h23 : 23 ≤ q) (hqm : q ≤ 2147483647) (hpr : IsPrime q) (A : Option Addr) (N c : Nat) (ls : List (List Int)) (hR : ArgMS w A N c ls) (A0 : Option Addr) (n0 c0 : Nat) (l : List Int) (h0 : ArgS w A0 n0 c0 l) (hTy : Typed w) (h1 : 1 ≤ N) (h2 : N ≤ 65536) (hin : l.any (outB N) = false) :
    Calls Tryz.prog 4 #[vi q, .slice A N c, .slice A0 n0 c0] w fun e w' => SaysW (.bool true) w e w' := by
  have HE0 : Hid (∀ W, Below w.heap.size w W → Calls Tryz.prog 15 #[.nilIface, vi 0] W fun x w' => SaysW (.bool true) W x w') := Lib.hid fun W hb => by
    have h := error_any 0 0 W (hTy.below hb)
    rw [errV_zero] at h
    exact h
  have HER := HE0
  have HL0 := Lib.hid (show n0 * 8 ≤ 140737488351232 by have := h0.reach; have := h0.cap; omega)
  have HIN : Hid (∀ x ∈ l, 0 ≤ x ∧ x < (N : Int)) := Lib.hid fun x hx => by
    have h := List.any_eq_false.1 hin x hx
    unfold outB at h
    exact Classical.byContradiction fun h' => h (decide_eq_true h')
  have HAN := Lib.hid hin
  clear hin
  have HSP := Lib.hid (ssponge_yes q h23 hqm hpr w hTy)
  have HCO := Lib.hid (fun W' (h : Below w.heap.size w W') => copied_any A N c ls hR.m.len hR.n24 (fun t ht => by have := hR.r8 t ht; omega) W' (hR.m.tb.below h))
  have HI := Lib.hid (tb_i64 hR.m.tb)
  have HTY := Lib.hid hTy
  have HRR := Lib.hid hR
  have HPP := Lib.hid h0
  clear hpr hTy hR h0
  go_enter Tryz.func4, Tryz.ntmps4
  go_wp2_with fail
  refine HSP.out.mono ?_
  rintro _ w1 ⟨s, b, k, z, oo, rfl, F, G, hsw, hs1, hb1⟩
  have hPK : Pk q k := ⟨by omega, hqm, G.k2, G.klt (by omega), G.least, G.cop⟩
  have HF := Lib.hid F
  have HG := Lib.hid G
  have HPK := Lib.hid hPK
  have HB1 := Lib.hid hb1
  clear hb1 F G hPK hsw
  go_wp2_with fail
  refine (HCO.out _ HB1.out).mono ?_
  rintro _ w2 hmr
  obtain ⟨A2, N2, c2, rfl, hN2, hc2, hT2, hb2⟩ := hmr.tb HI.out
  have eN : N2 = N := by rw [← hN2]; exact HRR.out.m.len
  subst eN
  have HT2 := Lib.hid hT2
  have HB12 := Lib.hid hb2
  have HB2 := Lib.hid (HB1.out.trans (hb2.mono HB1.out.size))
  clear hmr hT2 hb2
  have htr := tRoot_yes q w1.heap.size b s k z oo A2 N2 c2 ls hN2 h1 h2 (fun t ht => by have := HRR.out.r8 t ht; omega) w2 (HF.out.below HB12.out (Nat.le_refl _)) (HG.out.below HB12.out hs1) HT2.out
  obtain ⟨rl, hrl⟩ : ∃ rl, rl = rootD (digL q k) (rowF ls) 0 N2 := ⟨_, rfl⟩
  rw [← hrl] at htr
  have HTR := Lib.hid htr
  have HRL := Lib.hid hrl
  clear htr hrl
  go_wp2_with fail
  refine HTR.out.mono ?_
  rintro _ w3 ⟨g3, rfl, _, s3, l3, _, _, b3⟩
  have HX3 := Lib.hid (And.intro s3 (And.intro l3 b3))
  have HB3 := Lib.hid (HB2.out.trans (b3.mono HB2.out.size))
  have HB13 := Lib.hid (HB12.out.trans (b3.mono HB12.out.size))
  clear s3 l3 b3
  have hto := topen_yes q w1.heap.size b s k z oo A2 N2 c2 ls hN2 h1 h2 HRR.out.r8 A0 n0 c0 l HPP.out.len HL0.out HAN.out w3 (HF.out.below HB13.out (Nat.le_refl _)) (HG.out.below HB13.out hs1) (HPP.out.sl.below HB3.out) (HT2.out.below HX3.out.2.2)
  have HTO := Lib.hid hto
  clear hto
  go_wp2_with fail
  refine HTO.out.mono ?_
  rintro _ w4 ⟨A5, n5, c5, AR, nR, cR, AN, nN, cN, rfl, hop, hb4⟩
  obtain ⟨w5, hw5⟩ : ∃ w5, w5 = w4.alloc (.cells #[.slice A5 n5 c5, .slice AR nR cR, .slice AN nN cN] 25) := ⟨_, rfl⟩
  have HOP := Lib.hid (hop.below (below_of_eq hw5))
  clear hop
  have hb45 := below_of_eq hw5
  have hO5 := Blk.of_eq hw5
  have HW5 := Lib.hid hw5
  have HB45 := Lib.hid hb45
  have HB35 := Lib.hid (hb4.trans (hb45.mono hb4.size))
  have HB5 := Lib.hid (HB3.out.trans (HB35.out.mono HB3.out.size))
  have HO5 := Lib.hid hO5
  have t1 : ((N2 : Int) == 0) = false := by simp; omega
  have t2 : decide ((65536 : Int) < (N2 : Int)) = false := decide_eq_false (by omega)
  have t2' : ¬ 65536 < N2 := by omega
  have H12 := Lib.hid (And.intro h1 h2)
  clear hw5 hb45 hO5 hb4
  go_upto_region 7 with (fail)
  rw [← HW5.out]
  go_wp2_with fail
  refine (HE0.out w5 HB5.out).mono ?_
  rintro _ w6 ⟨rfl, hb6⟩
  have HB56 := Lib.hid hb6
  have HB6 := Lib.hid (HB5.out.trans (hb6.mono HB5.out.size))
  clear hb6
  go_wp2
  go_loopw [14, 16] (fun e i wr => e = vi 0 ∧ (∃ j : Nat, j ≤ n0 ∧ i = vi j) ∧ w6 = wr) (fun _ i _ => n0 - (intOf i).toNat)
  case atStart => exact ⟨rfl, ⟨0, Nat.zero_le _, rfl⟩, rfl⟩
  case round =>
    obtain ⟨rfl, ⟨j, hj, rfl⟩, rfl⟩ := hrel
    by_cases hlt : j < n0
    · have hjl : j < l.length := by rw [HPP.out.len]; exact hlt
      obtain ⟨ad, rfl, _, hcx⟩ := (HPP.out.sl.below HB6.out).at_ hjl
      have hx := HIN.out _ (List.getElem_mem hjl)
      generalize l[j] = x at hcx hx
      have i1 : (0 : Int) ≤ (j : Int) := by omega
      have i2 : (j : Int) < (n0 : Int) := by omega
      have u1 : decide (x < 0) = false := decide_eq_false (by omega)
      have u2 : decide ((N2 : Int) ≤ x) = false := decide_eq_false (by omega)
      have hwr : IntKind.i64.wrap ((j : Int) + 1) = (j : Int) + 1 := IntWalk.i64_in _ (by have := HL0.out; omega)
      clear hx hjl
      go_wp2
      go_roundw
      case rel => exact ⟨rfl, ⟨j + 1, by omega, by go_num⟩, trivial⟩
      case measure => simp [intOf]; omega
    · have ej : j = n0 := by omega
      subst ej
      go_wp2_with fail
      refine (HER.out w6 HB6.out).mono ?_
      rintro _ w7 ⟨rfl, hb7⟩
      have HB57 := Lib.hid (HB56.out.trans (hb7.mono HB56.out.size))
      have HB7 := Lib.hid (HB6.out.trans (hb7.mono HB6.out.size))
      have HB37 := Lib.hid (HB35.out.trans (HB57.out.mono HB35.out.size))
      clear hb7
      have hrw := rows_any A2 A N2 N2 c2 c ls ls hN2 hN2 HRR.out.n24 HRR.out.n24 w7 ((HT2.out.below HX3.out.2.2).below HB37.out) (HRR.out.m.tb.below HB7.out)
      rw [eqR_true rfl] at hrw
      have HRW := Lib.hid hrw
      clear hrw
      have t3 : decide ((0 : Int) < (N2 : Int)) = true := decide_eq_true (by have := H12.out; omega)
      have t4 : decide ((N2 : Int) ≤ 65536) = true := decide_eq_true (by have := H12.out; omega)
      have t5 : 0 < N2 := H12.out.1
      have t6 : N2 ≤ 65536 := H12.out.2
      go_wp2_with fail
      refine HRW.out.mono ?_
      rintro _ _ ⟨rfl, k6, rfl⟩
      obtain ⟨w8, hw8⟩ : ∃ w8, w8 = w7.drewN k6 := ⟨_, rfl⟩
      have hb78 : Below w7.heap.size w7 w8 := by rw [hw8]; exact below_drewN (Below.refl _ _) k6
      rw [← hw8]
      have HB8 := Lib.hid (HB7.out.trans (hb78.mono HB7.out.size))
      have HB38 := Lib.hid (HB37.out.trans (hb78.mono HB37.out.size))
      have HB58 := Lib.hid (HB57.out.trans (hb78.mono HB57.out.size))
      clear hw8 hb78
      have hrr := rroot_any q k HPK.out N2 H12.out.1 H12.out.2 A c ls hN2 HRR.out.m.cap HRR.out.r8 w8 (HRR.out.m.tb.below HB8.out)
      rw [← HRL.out] at hrr
      have HRO := Lib.hid hrr
      clear hrr
      go_wp2_with fail
      refine HRO.out.mono ?_
      rintro _ w9 ⟨g9, cp9, rfl, _, s9, l9, _, _, b9⟩
      have HB9 := Lib.hid (HB8.out.trans (b9.mono HB8.out.size))
      have HB39 := Lib.hid (HB38.out.trans (b9.mono HB38.out.size))
      have HB59 := Lib.hid (HB58.out.trans (b9.mono HB58.out.size))
      have hni := ints_any (some ⟨g3, 0, none⟩) (some ⟨g9, 0, none⟩) 4 cp9 rl rl (by omega) (by omega) w9 (HX3.out.1.below HB39.out) s9
      rw [eqB_true rfl, l9] at hni
      have HNI := Lib.hid hni
      clear hni s9 l9 b9
      go_wp2_with fail
      refine HNI.out.mono ?_
      rintro _ _ ⟨rfl, k7, rfl⟩
      obtain ⟨w10, hw10⟩ : ∃ w10, w10 = w9.drewN k7 := ⟨_, rfl⟩
      have hb90 : Below w9.heap.size w9 w10 := by rw [hw10]; exact below_drewN (Below.refl _ _) k7
      rw [← hw10]
      obtain ⟨w11, hw11⟩ : ∃ w11, w11 = w10.alloc (.cells #[.slice none 0 0, .slice none 0 0, .slice none 0 0] 25) := ⟨_, rfl⟩
      have hb01 : Below w10.heap.size w10 w11 := by rw [hw11]; exact (Below.refl _ _).alloc (Nat.le_refl _) _
      have hV : Blk w11 w10.heap.size 25 #[.slice none 0 0, .slice none 0 0, .slice none 0 0] := by rw [hw11]; exact Blk.new _ _ _
      have hb91 := hb90.trans (hb01.mono hb90.size)
      have HB11 := Lib.hid (HB9.out.trans (hb91.mono HB9.out.size))
      have HB51 := Lib.hid (HB59.out.trans (hb91.mono HB59.out.size))
      have HV := Lib.hid hV
      have HVZ := Lib.hid (show w9.heap.size ≤ w10.heap.size from hb90.size)
      have HW11 := Lib.hid hw11
      clear hw10 hb90 hw11 hb01 hV hb91
      go_upto_region 25 with (fail)
      rw [← HW11.out]
      have hro := ropen_any q k HPK.out A N2 c ls hN2 H12.out.1 H12.out.2 HRR.out.m.cap HRR.out.r8 A0 _ c0 l HPP.out.len HPP.out.i64 HL0.out HIN.out w11 (HPP.out.sl.below HB11.out) (HRR.out.m.tb.below HB11.out)
      have HRP := Lib.hid hro
      clear hro
      go_wp2_with fail
      refine HRP.out.mono ?_
      rintro _ w12 ⟨B5, m5, d5, BR, mR, dR, BN, mN, dN, rfl, _, hb12, hup⟩
      have hV12 := Blk.below HV.out hb12 HV.out.lt
      obtain ⟨hset, hgr⟩ := blk_set3 hV12 (.slice B5 m5 d5) (.slice BR mR dR) (.slice BN mN dN)
      have k0 := (hV12.cell 0).trans (show _ = some (.slice none 0 0) from rfl)
      have k1 := (hV12.cell 1).trans (show _ = some (.slice none 0 0) from rfl)
      have k2 := (hV12.cell 2).trans (show _ = some (.slice none 0 0) from rfl)
      have z0 := hV12.frozen 0
      have z1 := hV12.frozen 1
      have z2 := hV12.frozen 2
      obtain ⟨w13, hw13⟩ : ∃ w13, w13 = ((w12.setCell ⟨w10.heap.size, 0, none⟩ (.slice B5 m5 d5)).setCell ⟨w10.heap.size, 1, none⟩ (.slice BR mR dR)).setCell ⟨w10.heap.size, 2, none⟩ (.slice BN mN dN) := ⟨_, rfl⟩
      rw [← hw13] at hset hgr
      have hop2 := hup w13 _ _ hV12 HV.out.lt hgr
      have hb51 : Below w5.heap.size w5 w13 := (HB51.out.trans (hb12.mono HB51.out.size)).grown hgr (Nat.le_trans HB51.out.size hb12.size) (fun x hx => by injection hx with hx; have := HB59.out.size; have := HB51.out.size; have := HVZ.out; omega)
      have hb11 : Below w.heap.size w w13 := HB5.out.trans (hb51.mono HB5.out.size)
      have hO13 := Blk.below HO5.out hb51 HO5.out.lt
      have d0 := (hO13.cell 0).trans (show _ = some (.slice A5 n5 c5) from rfl)
      have d1 := (hO13.cell 1).trans (show _ = some (.slice AR nR cR) from rfl)
      have d2 := (hO13.cell 2).trans (show _ = some (.slice AN nN cN) from rfl)
      have g0 := (hset.cell 0).trans (show _ = some (.slice B5 m5 d5) from rfl)
      have g1 := (hset.cell 1).trans (show _ = some (.slice BR mR dR) from rfl)
      have g2 := (hset.cell 2).trans (show _ = some (.slice BN mN dN) from rfl)
      have hoo := openings_any w13 (HOP.out.below hb51) hop2
      rw [eqO_same] at hoo
      have HOO := Lib.hid hoo
      have HB13 := Lib.hid hb11
      have HW13 := Lib.hid hw13
      clear hw13 hoo hb11 hb51 hup hop2 hset hgr hV12 hb12 hO13
      go_upto_region 27 with (fail)
      rw [← HW13.out]
      go_wp2_with fail
      refine HOO.out.mono ?_
      rintro _ w14 ⟨rfl, hb14⟩
      have HB14 := Lib.hid (HB13.out.trans (hb14.mono HB13.out.size))
      clear hb14 d0 d1 d2 g0 g1 g2 k0 k1 k2
      go_wp2
      go_ret
      exact ⟨rfl, HB14.out⟩
set_option maxRecDepth 100000 in
set_option maxHeartbeats 4000000 in
theorem topens_b (w : World) (q : Nat) [NeZero q] (h23 : 23 ≤ q) (hqm : q ≤ 2147483647) (hpr : IsPrime q) (A : Option Addr) (N c : Nat) (ls : List (List Int)) (hR : ArgMS w A N c ls) (A0 : Option Addr) (n0 c0 : Nat) (l : List Int) (h0 : ArgS w A0 n0 c0 l) (hTy : Typed w) (h1 : 1 ≤ N) (h2 : N ≤ 65536) (hin : l.any (outB N) = true) :
    Calls Tryz.prog 4 #[vi q, .slice A N c, .slice A0 n0 c0] w fun e w' => SaysW (.bool true) w e w' := by
  have HE0 : Hid (∀ W, Below w.heap.size w W → Calls Tryz.prog 15 #[.nilIface, vi 0] W fun x w' => SaysW (.bool true) W x w') := Lib.hid fun W hb => by
    have h := error_any 0 0 W (hTy.below hb)
    rw [errV_zero] at h
    exact h
  have HER : Hid (∀ W, Below w.heap.size w W → Calls Tryz.prog 15 #[.iface 89 (vi 3), vi 3] W fun x w' => SaysW (.bool true) W x w') := Lib.hid fun W hb => by
    have h := error_any 3 3 W (hTy.below hb)
    rw [errV_ne (by decide)] at h
    exact h
  have HL0 := Lib.hid (show n0 * 8 ≤ 140737488351232 by have := h0.reach; have := h0.cap; omega)
  have HAN := Lib.hid hin
  clear hin
  have HSP := Lib.hid (ssponge_yes q h23 hqm hpr w hTy)
  have HCO := Lib.hid (fun W' (h : Below w.heap.size w W') => copied_any A N c ls hR.m.len hR.n24 (fun t ht => by have := hR.r8 t ht; omega) W' (hR.m.tb.below h))
  have HI := Lib.hid (tb_i64 hR.m.tb)
  have HTY := Lib.hid hTy
  have HRR := Lib.hid hR
  have HPP := Lib.hid h0
  clear hpr hTy hR h0
  go_enter Tryz.func4, Tryz.ntmps4
  go_wp2_with fail
  refine HSP.out.mono ?_
  rintro _ w1 ⟨s, b, k, z, oo, rfl, F, G, hsw, hs1, hb1⟩
  have hPK : Pk q k := ⟨by omega, hqm, G.k2, G.klt (by omega), G.least, G.cop⟩
  have HF := Lib.hid F
  have HG := Lib.hid G
  have HPK := Lib.hid hPK
  have HB1 := Lib.hid hb1
  clear hb1 F G hPK hsw
  go_wp2_with fail
  refine (HCO.out _ HB1.out).mono ?_
  rintro _ w2 hmr
  obtain ⟨A2, N2, c2, rfl, hN2, hc2, hT2, hb2⟩ := hmr.tb HI.out
  have eN : N2 = N := by rw [← hN2]; exact HRR.out.m.len
  subst eN
  have HT2 := Lib.hid hT2
  have HB12 := Lib.hid hb2
  have HB2 := Lib.hid (HB1.out.trans (hb2.mono HB1.out.size))
  clear hmr hT2 hb2
  have htr := tRoot_yes q w1.heap.size b s k z oo A2 N2 c2 ls hN2 h1 h2 (fun t ht => by have := HRR.out.r8 t ht; omega) w2 (HF.out.below HB12.out (Nat.le_refl _)) (HG.out.below HB12.out hs1) HT2.out
  obtain ⟨rl, hrl⟩ : ∃ rl, rl = rootD (digL q k) (rowF ls) 0 N2 := ⟨_, rfl⟩
  rw [← hrl] at htr
  have HTR := Lib.hid htr
  have HRL := Lib.hid hrl
  clear htr hrl
  go_wp2_with fail
  refine HTR.out.mono ?_
  rintro _ w3 ⟨g3, rfl, _, s3, l3, _, _, b3⟩
  have HX3 := Lib.hid (And.intro s3 (And.intro l3 b3))
  have HB3 := Lib.hid (HB2.out.trans (b3.mono HB2.out.size))
  have HB13 := Lib.hid (HB12.out.trans (b3.mono HB12.out.size))
  clear s3 l3 b3
  have hto := topen_no2 s A2 N2 c2 h1 h2 A0 n0 c0 l HPP.out.len (by have := HL0.out; omega) HAN.out w3 (HPP.out.sl.below HB3.out)
  have HTO := Lib.hid hto
  clear hto
  go_wp2_with fail
  refine HTO.out.mono ?_
  rintro _ w4 ⟨rfl, hb4⟩
  obtain ⟨w5, hw5⟩ : ∃ w5, w5 = w4.alloc (.cells #[.slice none 0 0, .slice none 0 0, .slice none 0 0] 25) := ⟨_, rfl⟩
  have hb45 := below_of_eq hw5
  have hO5 := Blk.of_eq hw5
  have HW5 := Lib.hid hw5
  have HB45 := Lib.hid hb45
  have HB35 := Lib.hid (hb4.trans (hb45.mono hb4.size))
  have HB5 := Lib.hid (HB3.out.trans (HB35.out.mono HB3.out.size))
  have HO5 := Lib.hid hO5
  have t1 : ((N2 : Int) == 0) = false := by simp; omega
  have t2 : decide ((65536 : Int) < (N2 : Int)) = false := decide_eq_false (by omega)
  have t2' : ¬ 65536 < N2 := by omega
  have H12 := Lib.hid (And.intro h1 h2)
  clear hw5 hb45 hO5 hb4
  go_upto_region 7 with (fail)
  rw [← HW5.out]
  go_wp2_with fail
  refine (HE0.out w5 HB5.out).mono ?_
  rintro _ w6 ⟨rfl, hb6⟩
  have HB56 := Lib.hid hb6
  have HB6 := Lib.hid (HB5.out.trans (hb6.mono HB5.out.size))
  clear hb6
  go_wp2
  go_loopw [14, 16] (fun e i wr => (∃ j : Nat, j ≤ n0 ∧ i = vi j ∧ ((e = vi 0 ∧ ∀ t (h : t < l.length), t < j → outB N2 l[t] = false) ∨ e = vi 3)) ∧ w6 = wr) (fun _ i _ => n0 - (intOf i).toNat)
  case atStart => exact ⟨⟨0, Nat.zero_le _, rfl, .inl ⟨rfl, fun t _ ht => absurd ht (Nat.not_lt_zero _)⟩⟩, rfl⟩
  case round =>
    obtain ⟨⟨j, hj, rfl, hcase⟩, rfl⟩ := hrel
    rcases hcase with ⟨rfl, hno⟩ | rfl
    · have HNO := Lib.hid hno
      clear hno
      by_cases hlt : j < n0
      · have hjl : j < l.length := by rw [HPP.out.len]; exact hlt
        obtain ⟨ad, rfl, _, hcx⟩ := (HPP.out.sl.below HB6.out).at_ hjl
        have i1 : (0 : Int) ≤ (j : Int) := by omega
        have i2 : (j : Int) < (n0 : Int) := by omega
        have hwr : IntKind.i64.wrap ((j : Int) + 1) = (j : Int) + 1 := IntWalk.i64_in _ (by have := HL0.out; omega)
        obtain ⟨x, hx⟩ : ∃ x, x = l[j] := ⟨_, rfl⟩
        rw [← hx] at hcx
        have HX := Lib.hid hx
        clear hx
        by_cases x0 : x < 0
        · have u1 : decide (x < 0) = true := decide_eq_true x0
          clear x0
          go_wp2
          go_roundw
          case rel => exact ⟨⟨j + 1, by omega, by go_num, .inr rfl⟩, trivial⟩
          case measure => simp [intOf]; omega
        · have u1 : decide (x < 0) = false := decide_eq_false x0
          by_cases x1 : (N2 : Int) ≤ x
          · have u2 : decide ((N2 : Int) ≤ x) = true := decide_eq_true x1
            clear x0 x1
            go_wp2
            go_roundw
            case rel => exact ⟨⟨j + 1, by omega, by go_num, .inr rfl⟩, trivial⟩
            case measure => simp [intOf]; omega
          · have u2 : decide ((N2 : Int) ≤ x) = false := decide_eq_false x1
            have HNX : Hid (∀ t (h : t < l.length), t < j + 1 → outB N2 l[t] = false) := Lib.hid fun t h ht => by
              by_cases e : t < j
              · exact HNO.out t h e
              · obtain rfl : t = j := by omega
                rw [← HX.out]
                unfold outB
                exact decide_eq_false (by omega)
            clear x0 x1
            go_wp2
            go_roundw
            case rel => exact ⟨⟨j + 1, by omega, by go_num, .inl ⟨rfl, HNX.out⟩⟩, trivial⟩
            case measure => simp [intOf]; omega
      · exfalso
        obtain ⟨x, hx, ho⟩ := List.any_eq_true.1 HAN.out
        obtain ⟨t, ht, rfl⟩ := List.mem_iff_getElem.1 hx
        rw [HNO.out t ht (by have := HPP.out.len; omega)] at ho
        cases ho
    · by_cases hlt : j < n0
      · skip
        go_wp2_with fail
        refine (HER.out w6 HB6.out).mono ?_
        rintro _ w7 ⟨rfl, hb7⟩
        have HB57 := Lib.hid (HB56.out.trans (hb7.mono HB56.out.size))
        have HB7 := Lib.hid (HB6.out.trans (hb7.mono HB6.out.size))
        have HB37 := Lib.hid (HB35.out.trans (HB57.out.mono HB35.out.size))
        clear hb7
        have hrw := rows_any A2 A N2 N2 c2 c ls ls hN2 hN2 HRR.out.n24 HRR.out.n24 w7 ((HT2.out.below HX3.out.2.2).below HB37.out) (HRR.out.m.tb.below HB7.out)
        rw [eqR_true rfl] at hrw
        have HRW := Lib.hid hrw
        clear hrw
        have t3 : decide ((0 : Int) < (N2 : Int)) = true := decide_eq_true (by have := H12.out; omega)
        have t4 : decide ((N2 : Int) ≤ 65536) = true := decide_eq_true (by have := H12.out; omega)
        have t5 : 0 < N2 := H12.out.1
        have t6 : N2 ≤ 65536 := H12.out.2
        go_wp2_with fail
        refine HRW.out.mono ?_
        rintro _ _ ⟨rfl, k6, rfl⟩
        obtain ⟨w8, hw8⟩ : ∃ w8, w8 = w7.drewN k6 := ⟨_, rfl⟩
        have hb78 : Below w7.heap.size w7 w8 := by rw [hw8]; exact below_drewN (Below.refl _ _) k6
        rw [← hw8]
        have HB8 := Lib.hid (HB7.out.trans (hb78.mono HB7.out.size))
        have HB38 := Lib.hid (HB37.out.trans (hb78.mono HB37.out.size))
        have HB58 := Lib.hid (HB57.out.trans (hb78.mono HB57.out.size))
        clear hw8 hb78
        have hrr := rroot_any q k HPK.out N2 H12.out.1 H12.out.2 A c ls hN2 HRR.out.m.cap HRR.out.r8 w8 (HRR.out.m.tb.below HB8.out)
        rw [← HRL.out] at hrr
        have HRO := Lib.hid hrr
        clear hrr
        go_wp2_with fail
        refine HRO.out.mono ?_
        rintro _ w9 ⟨g9, cp9, rfl, _, s9, l9, _, _, b9⟩
        have HB9 := Lib.hid (HB8.out.trans (b9.mono HB8.out.size))
        have HB39 := Lib.hid (HB38.out.trans (b9.mono HB38.out.size))
        have HB59 := Lib.hid (HB58.out.trans (b9.mono HB58.out.size))
        have hni := ints_any (some ⟨g3, 0, none⟩) (some ⟨g9, 0, none⟩) 4 cp9 rl rl (by omega) (by omega) w9 (HX3.out.1.below HB39.out) s9
        rw [eqB_true rfl, l9] at hni
        have HNI := Lib.hid hni
        clear hni s9 l9 b9
        go_wp2_with fail
        refine HNI.out.mono ?_
        rintro _ _ ⟨rfl, k7, rfl⟩
        obtain ⟨w10, hw10⟩ : ∃ w10, w10 = w9.drewN k7 := ⟨_, rfl⟩
        have hb90 : Below w9.heap.size w9 w10 := by rw [hw10]; exact below_drewN (Below.refl _ _) k7
        rw [← hw10]
        obtain ⟨w11, hw11⟩ : ∃ w11, w11 = w10.alloc (.cells #[.slice none 0 0, .slice none 0 0, .slice none 0 0] 25) := ⟨_, rfl⟩
        have hb01 : Below w10.heap.size w10 w11 := by rw [hw11]; exact (Below.refl _ _).alloc (Nat.le_refl _) _
        have hV : Blk w11 w10.heap.size 25 #[.slice none 0 0, .slice none 0 0, .slice none 0 0] := by rw [hw11]; exact Blk.new _ _ _
        have hb91 := hb90.trans (hb01.mono hb90.size)
        have HB11 := Lib.hid (HB9.out.trans (hb91.mono HB9.out.size))
        have HB51 := Lib.hid (HB59.out.trans (hb91.mono HB59.out.size))
        have HV := Lib.hid hV
        have HVZ := Lib.hid (show w9.heap.size ≤ w10.heap.size from hb90.size)
        have HW11 := Lib.hid hw11
        clear hw10 hb90 hw11 hb01 hV hb91
        go_upto_region 25 with (fail)
        rw [← HW11.out]
        have hO11 := Blk.below HO5.out HB51.out HO5.out.lt
        have d0 := (hO11.cell 0).trans (show _ = some (.slice none 0 0) from rfl)
        have d1 := (hO11.cell 1).trans (show _ = some (.slice none 0 0) from rfl)
        have d2 := (hO11.cell 2).trans (show _ = some (.slice none 0 0) from rfl)
        have g0 := (HV.out.cell 0).trans (show _ = some (.slice none 0 0) from rfl)
        have g1 := (HV.out.cell 1).trans (show _ = some (.slice none 0 0) from rfl)
        have g2 := (HV.out.cell 2).trans (show _ = some (.slice none 0 0) from rfl)
        have hoo := openings_any w11 (OpnAt.nil w11) (OpnAt.nil w11)
        rw [eqO_same] at hoo
        have HOO := Lib.hid hoo
        clear hoo hO11
        go_wp2_with fail
        refine HOO.out.mono ?_
        rintro _ w14 ⟨rfl, hb14⟩
        have HB14 := Lib.hid (HB11.out.trans (hb14.mono HB11.out.size))
        clear hb14 d0 d1 d2 g0 g1 g2
        go_wp2
        go_ret
        exact ⟨rfl, HB14.out⟩
      · skip
        go_wp2_with fail
        refine (HER.out w6 HB6.out).mono ?_
        rintro _ w7 ⟨rfl, hb7⟩
        have HB57 := Lib.hid (HB56.out.trans (hb7.mono HB56.out.size))
        have HB7 := Lib.hid (HB6.out.trans (hb7.mono HB6.out.size))
        have HB37 := Lib.hid (HB35.out.trans (HB57.out.mono HB35.out.size))
        clear hb7
        have hrw := rows_any A2 A N2 N2 c2 c ls ls hN2 hN2 HRR.out.n24 HRR.out.n24 w7 ((HT2.out.below HX3.out.2.2).below HB37.out) (HRR.out.m.tb.below HB7.out)
        rw [eqR_true rfl] at hrw
        have HRW := Lib.hid hrw
        clear hrw
        have t3 : decide ((0 : Int) < (N2 : Int)) = true := decide_eq_true (by have := H12.out; omega)
        have t4 : decide ((N2 : Int) ≤ 65536) = true := decide_eq_true (by have := H12.out; omega)
        have t5 : 0 < N2 := H12.out.1
        have t6 : N2 ≤ 65536 := H12.out.2
        go_wp2_with fail
        refine HRW.out.mono ?_
        rintro _ _ ⟨rfl, k6, rfl⟩
        obtain ⟨w8, hw8⟩ : ∃ w8, w8 = w7.drewN k6 := ⟨_, rfl⟩
        have hb78 : Below w7.heap.size w7 w8 := by rw [hw8]; exact below_drewN (Below.refl _ _) k6
        rw [← hw8]
        have HB8 := Lib.hid (HB7.out.trans (hb78.mono HB7.out.size))
        have HB38 := Lib.hid (HB37.out.trans (hb78.mono HB37.out.size))
        have HB58 := Lib.hid (HB57.out.trans (hb78.mono HB57.out.size))
        clear hw8 hb78
        have hrr := rroot_any q k HPK.out N2 H12.out.1 H12.out.2 A c ls hN2 HRR.out.m.cap HRR.out.r8 w8 (HRR.out.m.tb.below HB8.out)
        rw [← HRL.out] at hrr
        have HRO := Lib.hid hrr
        clear hrr
        go_wp2_with fail
        refine HRO.out.mono ?_
        rintro _ w9 ⟨g9, cp9, rfl, _, s9, l9, _, _, b9⟩
        have HB9 := Lib.hid (HB8.out.trans (b9.mono HB8.out.size))
        have HB39 := Lib.hid (HB38.out.trans (b9.mono HB38.out.size))
        have HB59 := Lib.hid (HB58.out.trans (b9.mono HB58.out.size))
        have hni := ints_any (some ⟨g3, 0, none⟩) (some ⟨g9, 0, none⟩) 4 cp9 rl rl (by omega) (by omega) w9 (HX3.out.1.below HB39.out) s9
        rw [eqB_true rfl, l9] at hni
        have HNI := Lib.hid hni
        clear hni s9 l9 b9
        go_wp2_with fail
        refine HNI.out.mono ?_
        rintro _ _ ⟨rfl, k7, rfl⟩
        obtain ⟨w10, hw10⟩ : ∃ w10, w10 = w9.drewN k7 := ⟨_, rfl⟩
        have hb90 : Below w9.heap.size w9 w10 := by rw [hw10]; exact below_drewN (Below.refl _ _) k7
        rw [← hw10]
        obtain ⟨w11, hw11⟩ : ∃ w11, w11 = w10.alloc (.cells #[.slice none 0 0, .slice none 0 0, .slice none 0 0] 25) := ⟨_, rfl⟩
        have hb01 : Below w10.heap.size w10 w11 := by rw [hw11]; exact (Below.refl _ _).alloc (Nat.le_refl _) _
        have hV : Blk w11 w10.heap.size 25 #[.slice none 0 0, .slice none 0 0, .slice none 0 0] := by rw [hw11]; exact Blk.new _ _ _
        have hb91 := hb90.trans (hb01.mono hb90.size)
        have HB11 := Lib.hid (HB9.out.trans (hb91.mono HB9.out.size))
        have HB51 := Lib.hid (HB59.out.trans (hb91.mono HB59.out.size))
        have HV := Lib.hid hV
        have HVZ := Lib.hid (show w9.heap.size ≤ w10.heap.size from hb90.size)
        have HW11 := Lib.hid hw11
        clear hw10 hb90 hw11 hb01 hV hb91
        go_upto_region 25 with (fail)
        rw [← HW11.out]
        have hO11 := Blk.below HO5.out HB51.out HO5.out.lt
        have d0 := (hO11.cell 0).trans (show _ = some (.slice none 0 0) from rfl)
        have d1 := (hO11.cell 1).trans (show _ = some (.slice none 0 0) from rfl)
        have d2 := (hO11.cell 2).trans (show _ = some (.slice none 0 0) from rfl)
        have g0 := (HV.out.cell 0).trans (show _ = some (.slice none 0 0) from rfl)
        have g1 := (HV.out.cell 1).trans (show _ = some (.slice none 0 0) from rfl)
        have g2 := (HV.out.cell 2).trans (show _ = some (.slice none 0 0) from rfl)
        have hoo := openings_any w11 (OpnAt.nil w11) (OpnAt.nil w11)
        rw [eqO_same] at hoo
        have HOO := Lib.hid hoo
        clear hoo hO11
        go_wp2_with fail
        refine HOO.out.mono ?_
        rintro _ w14 ⟨rfl, hb14⟩
        have HB14 := Lib.hid (HB11.out.trans (hb14.mono HB11.out.size))
        clear hb14 d0 d1 d2 g0 g1 g2
        go_wp2
        go_ret
        exact ⟨rfl, HB14.out⟩
theorem topens_walk (w : World) (p : Int) (hp : I64 p) (A : Option Addr) (N c : Nat) (ls : List (List Int)) (hR : ArgMS w A N c ls) (A0 : Option Addr) (n0 c0 : Nat) (l : List Int) (h0 : ArgS w A0 n0 c0 l) (hTy : Typed w) :
    Calls Tryz.prog 4 #[vi p, .slice A N c, .slice A0 n0 c0] w fun e w' => SaysW (.bool true) w e w' := by
  by_cases hs : HasSponge p
  · obtain ⟨q, rfl, h23, hqm, hpr⟩ := hasSponge_nat hs
    haveI := hpr.ne
    cases hN : rightB (N : Int) with
    | false => exact topens_a w q h23 hqm hpr A N c ls hR A0 n0 c0 l h0 hTy hN
    | true =>
      have h := of_decide_eq_true hN
      cases hin : l.any (outB N) with
      | false => exact topens_c w q h23 hqm hpr A N c ls hR A0 n0 c0 l h0 hTy (by omega) (by omega) hin
      | true => exact topens_b w q h23 hqm hpr A N c ls hR A0 n0 c0 l h0 hTy (by omega) (by omega) hin
  · have HN := Lib.hid (ssponge_no p hp hs _ hTy)
    clear hs hTy hR h0 hp
    go_enter Tryz.func4, Tryz.ntmps4
    go_wp2_with fail
    refine HN.out.mono ?_
    rintro _ w1 ⟨rfl, hb1⟩
    go_wp2
    go_ret
    exact ⟨rfl, hb1⟩
end Go.Proofs.YtijhajkakmohnaaGreatDoor
