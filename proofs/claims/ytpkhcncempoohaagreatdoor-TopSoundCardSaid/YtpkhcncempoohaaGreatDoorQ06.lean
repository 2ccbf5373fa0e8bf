/- A bundle of texts: Jba, Wa, Rt, Dom, Rb, Tb, Arg, Rowm, As, Ha1, Ja1, Wb. -/
import Derived.Test.YtpkhcncempoohaaGreatDoorQ05
import Derived.Deep.DeepCutAuto
import Derived.Test.YtpkhcncempoohaaGreatDoorQ02
import Derived.Test.YtpkhcncempoohaaGreatDoorQ00
import Derived.Test.YtpkhcncempoohaaGreatDoorQ04
import Derived.IntWalk
import Derived.ChangeSlices
import Derived.Test.YtpkhcncempoohaaGreatDoorQ01
import Derived.Deep.RegionHeld3
import Derived.BigQuiet
set_option linter.unusedVariables false
set_option linter.unusedSimpArgs false
set_option linter.unusedSectionVars false
namespace Go.Proofs.YtpkhcncempoohaaGreatDoor
open Go.RowKit Zp
set_option maxRecDepth 100000 in
set_option maxHeartbeats 16000000 in
theorem jrules_any (j b p : Nat) [NeZero p] (g n cA cA' : Nat) (rw : Nat → Int) (AI : Option Addr) (L cI : Nat) (code : List InsI) (size outc : Int) (g' : Nat) (rw' : Nat → Int) (u4 u5 : Value) (hL1 : 1 ≤ L) (hL64 : L ≤ 4096) (w w2 : World)
    (hw2 : w2 = (w.setCell ⟨j, 4, none⟩ (.slice (some ⟨g, 0, none⟩) n cA)).setCell ⟨j, 5, none⟩ (.slice (some ⟨g', 0, none⟩) n cA')) (hB : Blk w j 164 #[.pointer (some ⟨b, 0, none⟩), vi size, .slice AI L cI, vi outc, u4, u5]) (hX : JX w2 j b p g n cA rw AI L cI code size outc g' rw') :
    Calls Tryz.prog 99 #[.pointer (some ⟨j, 0, none⟩), .slice (some ⟨g, 0, none⟩) n cA, .slice (some ⟨g', 0, none⟩) n cA'] w fun e w' => ∃ v, e = .returned v ∧ Own w' w2.heap.size v (ruV code size (el p outc) (rE p rw) (rE p rw') (L + 26)) ∧ Below w2.heap.size w2 w' := by
  have hp2 := hX.jr.max
  have hn := hX.nL
  have HX := Lib.hid hX
  have HCL := Lib.hid hX.len
  have q4 : w.frozen? ⟨j, 4, none⟩ = false := hB.frozen 4
  have q5 : w.frozen? ⟨j, 5, none⟩ = false := hB.frozen 5
  have y4 := (hB.cell 4).trans (show _ = some u4 from rfl)
  have y5 := (hB.cell 5).trans (show _ = some u5 from rfl)
  have HN := Lib.hid hn
  have HW2 := Lib.hid hw2
  obtain ⟨RV, hRV⟩ : ∃ RV, RV = ruV code size (el p outc) (rE p rw) (rE p rw') := ⟨_, rfl⟩
  rw [← hRV]
  have HRV := Lib.hid hRV
  have hR0 : RV 0 = [] := by rw [hRV]; rfl
  have hRl : ∀ k, (RV k).length ≤ L + 26 := fun k => by
    rw [hRV, ruV, fvs, List.length_map, List.length_take]
    simp only [List.length_map, rulesF, ruS, ruT, List.length_append, List.length_range, List.length_cons, List.length_nil]
    rw [hX.len]
    omega
  have HRL := Lib.hid hRl
  have HR0 := Lib.hid hR0
  have HB := Lib.hid hB
  clear hX hw2 hB hRV hR0 hRl hn
  go_enter Tryz.func99, Tryz.ntmps99
  go_upto_region 2 with (fail)
  rw [← HW2.out]
  clear y4 y5 q4 q5 HB HW2
  have HI := Lib.hid HX.out.jr.i64
  have HI' := Lib.hid HX.out.i64'
  have isz := HX.out.isz
  have iout := HX.out.iout
  have c2 := HX.out.cl
  have hn20 : 20 ≤ n := HX.out.jr.len
  have HRT : Hid (∀ i m, RV (L + i + m) = RV (L + i) ++ fvs ((((ruT code size (el p outc)).map fun F => F (rE p rw) (rE p rw')).drop i).take m)) := Lib.hid fun i m => by
    rw [HRV.out, ← HCL.out]
    exact ruV_T code size (el p outc) (rE p rw) (rE p rw') i m
  have n00 : 0 < n := by omega
  have n1 : (1 : Int) < (n : Int) := by have := HN.out; omega
  have n2 : (2 : Int) < (n : Int) := by have := HN.out; omega
  have n11 : (11 : Int) < (n : Int) := by have := HN.out; omega
  have n12 : (12 : Int) < (n : Int) := by have := HN.out; omega
  have n15 : (15 : Int) < (n : Int) := by have := HN.out; omega
  have n16 : (16 : Int) < (n : Int) := by have := HN.out; omega
  have n19 : (19 : Int) < (n : Int) := by have := HN.out; omega
  have n20 : (20 : Int) < (n : Int) := by have := HN.out; omega
  go_wp2
  go_loopw [7, 28] (fun v i wr => ∃ t : Nat, t ≤ L ∧ i = vi t ∧ Own wr w2.heap.size v (RV t) ∧ Below w2.heap.size w2 wr) (fun _ i _ => L - (intOf i).toNat)
  case atStart => exact ⟨0, Nat.zero_le _, rfl, by rw [HR0.out]; exact World.ownsRow_nil _ _ _ _, Below.refl _ _⟩
  case round =>
    rename World => w1a
    obtain ⟨t, ht, rfl, hO, hb⟩ := hrel
    by_cases htl : t < L
    · have i1 : (0 : Int) ≤ (t : Int) := by omega
      have i2 : (t : Int) < (L : Int) := by omega
      have i3 : (0 : Int) ≤ 20 + (t : Int) := by omega
      have i4 : 20 + (t : Int) < (n : Int) := by have := HN.out; omega
      have i5 : (20 + (t : Int)).toNat = 20 + t := by omega
      have i6 : IntKind.i64.wrap (20 + (t : Int)) = 20 + (t : Int) := IntWalk.i64_in _ (by constructor <;> omega)
      have htn : 20 + t < n := by have := HN.out; omega
      have c20 := (HX.out.below hb).jr.at_ (20 + t) htn
      have HX1a := Lib.hid (HX.out.below hb)
      have HOa := Lib.hid (And.intro hO hb)
      have HLNa := Lib.hid (show (RV (t)).length + 1 ≤ 1000000 by have := HRL.out (t); omega)
      have HST := Lib.hid (show RV (t + 1) = RV t ++ [fv (rE p rw (20 + t) * rE p rw (20 + t) - rE p rw (20 + t))] by rw [HRV.out]; exact ruV_S _ _ _ _ _ t (by rw [HCL.out]; exact htl))
      have KTa : Hid (∀ W, Below w2.heap.size w2 W → W.cell? ⟨j, 0, none⟩ = some (.pointer (some ⟨b, 0, none⟩))) := Lib.hid fun W hb => by
        have h := HX.out.below hb
        exact h.jr.cb
      have KSa : Hid (∀ W, Below w1a.heap.size w1a W → W.cell? ⟨j, 0, none⟩ = some (.pointer (some ⟨b, 0, none⟩))) := Lib.hid fun W hb => KTa.out W (HOa.out.2.trans (hb.mono HOa.out.2.size))
      clear hO hb
      go_upto_region 7 with (fail)
      go_region_held3 (fun W => W.cell? ⟨j, 0, none⟩ = some (.pointer (some ⟨b, 0, none⟩))) (first | exact KSa.out _ hb9a | exact KSa.out _ (hb9a.alloc hb9a.size _) | exact KTa.out _ hb8a | exact KSa.out _ (below_drewN (Below.refl _ _) _)) ((first | (go_at_call 69; refine (HX1a.out.mul _ _ (by first | exact HI.out _ | exact HI'.out _ | exact i64_fv _ hp2 | assumption | (constructor <;> omega)) (by first | exact HI.out _ | exact HI'.out _ | exact i64_fv _ hp2 | assumption | (constructor <;> omega)) _ (by first | exact hb9a | exact below_drewN (Below.refl _ _) _)).mono ?_; rintro _ w9a ⟨rfl, hb9a⟩) | (go_at_call 94; refine (HX1a.out.sub _ _ (by first | exact HI.out _ | exact HI'.out _ | exact i64_fv _ hp2 | assumption | (constructor <;> omega)) (by first | exact HI.out _ | exact HI'.out _ | exact i64_fv _ hp2 | assumption | (constructor <;> omega)) _ (by first | exact hb9a | exact below_drewN (Below.refl _ _) _)).mono ?_; rintro _ w9a ⟨rfl, hb9a⟩) | (go_at_call 98; refine (HX1a.out.add _ _ (by first | exact HI.out _ | exact HI'.out _ | exact i64_fv _ hp2 | assumption | (constructor <;> omega)) (by first | exact HI.out _ | exact HI'.out _ | exact i64_fv _ hp2 | assumption | (constructor <;> omega)) _ (by first | exact hb9a | exact below_drewN (Below.refl _ _) _)).mono ?_; rintro _ w9a ⟨rfl, hb9a⟩) | (go_at_call 25; refine (HX1a.out.of_ _ (by first | exact HI.out _ | exact HI'.out _ | exact i64_fv _ hp2 | assumption | (constructor <;> omega)) _ (by first | exact hb9a | exact below_drewN (Below.refl _ _) _)).mono ?_; rintro _ w9a ⟨rfl, hb9a⟩) | (refine step_appL w2 _ _ [_] 1 rfl (by rfl) _ _ (by rfl) _ _ (by rfl) (by rfl) (by rfl) (HOa.out.1.below hb9a) (HOa.out.2.trans (hb9a.mono HOa.out.2.size)) HLNa.out ?_; intro v8a w8a hO8a hb8a)))
      go_wp2
      go_roundw
      case rel => exact ⟨t + 1, by omega, by go_num, by rw [HST.out]; simp only [el_fv] at hO8a; exact hO8a, hb8a⟩
      case measure => simp only [intOf, Int.toNat_natCast]; omega
    · obtain rfl : L = t := by omega
      have HX1b := Lib.hid (HX.out.below hb)
      have HOb := Lib.hid (And.intro hO hb)
      have HLNb := Lib.hid (show (RV (L)).length + 1 ≤ 1000000 by have := HRL.out (L); omega)
      have HSoneb : Hid (∀ W, Below w1a.heap.size w1a W → Calls Tryz.prog 138 #[.pointer (some ⟨j, 0, none⟩), .func (.func 139) #[] #[]] W fun e w' => e = .returned (vi (fv (sumI code (rE p rw) (fun _ _ => 1)))) ∧ Below w1a.heap.size w1a w') := Lib.hid fun W hb => (jsum_one W (HX1b.out.below hb)).mono fun e w' h => SumIs.chain hb h
      have KTb : Hid (∀ W, Below w2.heap.size w2 W → W.cell? ⟨j, 0, none⟩ = some (.pointer (some ⟨b, 0, none⟩))) := Lib.hid fun W hb => by
        have h := HX.out.below hb
        exact h.jr.cb
      have KSb : Hid (∀ W, Below w1a.heap.size w1a W → W.cell? ⟨j, 0, none⟩ = some (.pointer (some ⟨b, 0, none⟩))) := Lib.hid fun W hb => KTb.out W (HOb.out.2.trans (hb.mono HOb.out.2.size))
      clear hO hb
      go_upto_region 9 with (fail)
      go_region_held3 (fun W => W.cell? ⟨j, 0, none⟩ = some (.pointer (some ⟨b, 0, none⟩))) (first | exact KSb.out _ hb9b | exact KSb.out _ (hb9b.alloc hb9b.size _) | exact KTb.out _ hb8b | exact KSb.out _ (below_drewN (Below.refl _ _) _)) ((first | (go_at_call 138; (with_reducible refine Calls.mono (HSoneb.out _ ?_) ?_); (first | exact hb9b | exact below_drewN (Below.refl _ _) _); rintro _ w9b ⟨rfl, hb9b⟩) | (go_at_call 69; refine (HX1b.out.mul _ _ (by first | exact HI.out _ | exact HI'.out _ | exact i64_fv _ hp2 | assumption | (constructor <;> omega)) (by first | exact HI.out _ | exact HI'.out _ | exact i64_fv _ hp2 | assumption | (constructor <;> omega)) _ (by first | exact hb9b | exact below_drewN (Below.refl _ _) _)).mono ?_; rintro _ w9b ⟨rfl, hb9b⟩) | (go_at_call 94; refine (HX1b.out.sub _ _ (by first | exact HI.out _ | exact HI'.out _ | exact i64_fv _ hp2 | assumption | (constructor <;> omega)) (by first | exact HI.out _ | exact HI'.out _ | exact i64_fv _ hp2 | assumption | (constructor <;> omega)) _ (by first | exact hb9b | exact below_drewN (Below.refl _ _) _)).mono ?_; rintro _ w9b ⟨rfl, hb9b⟩) | (go_at_call 98; refine (HX1b.out.add _ _ (by first | exact HI.out _ | exact HI'.out _ | exact i64_fv _ hp2 | assumption | (constructor <;> omega)) (by first | exact HI.out _ | exact HI'.out _ | exact i64_fv _ hp2 | assumption | (constructor <;> omega)) _ (by first | exact hb9b | exact below_drewN (Below.refl _ _) _)).mono ?_; rintro _ w9b ⟨rfl, hb9b⟩) | (go_at_call 25; refine (HX1b.out.of_ _ (by first | exact HI.out _ | exact HI'.out _ | exact i64_fv _ hp2 | assumption | (constructor <;> omega)) _ (by first | exact hb9b | exact below_drewN (Below.refl _ _) _)).mono ?_; rintro _ w9b ⟨rfl, hb9b⟩) | (refine step_appL w2 _ _ [_] 1 rfl (by rfl) _ _ (by rfl) _ _ (by rfl) (by rfl) (by rfl) (HOb.out.1.below hb9b) (HOb.out.2.trans (hb9b.mono HOb.out.2.size)) HLNb.out ?_; intro v8b w8b hO8b hb8b)))
      have hObn : Own w8b w2.heap.size v8b (RV (L + 1)) := by
        rw [show L + 1 = L + 0 + 1 from rfl, HRT.out 0 1]
        (try simp only [el_fv, el_one] at hO8b)
        exact hO8b
      clear hO8b
      go_wp2
      go_loopw [7, 63] (fun v i wr => ∃ t : Nat, t ≤ 3 ∧ i = vi t ∧ Own wr w2.heap.size v (RV (L + (1 + t))) ∧ Below w2.heap.size w2 wr) (fun _ i _ => 3 - (intOf i).toNat)
      case atStart => exact ⟨0, by omega, rfl, hObn, hb8b⟩
      case round =>
        rename World => w1c
        obtain ⟨t, ht, rfl, hO, hb⟩ := hrel
        clear hObn hb8b
        by_cases htl : t < 3
        · have i1 : (0 : Int) ≤ (t : Int) := by omega
          have i2 : (t : Int) < 3 := by omega
          have i3 : (0 : Int) ≤ 3 + (t : Int) := by omega
          have i4 : 3 + (t : Int) < (n : Int) := by omega
          have i5 : (3 + (t : Int)).toNat = 3 + t := by omega
          have i6 : IntKind.i64.wrap (3 + (t : Int)) = 3 + (t : Int) := IntWalk.i64_in _ (by constructor <;> omega)
          have htn : 3 + t < n := by omega
          have HX1c := Lib.hid (HX.out.below hb)
          have HOc := Lib.hid (And.intro hO hb)
          have HLNc := Lib.hid (show (RV (L + (1 + t))).length + 1 ≤ 1000000 by have := HRL.out (L + (1 + t)); omega)
          have HST := Lib.hid (show RV (L + (1 + t) + 1) = RV (L + (1 + t)) ++ [fv (rE p rw (3 + t) - sumI code (rE p rw) (cellI (rE p rw) t))] by
            rw [HRT.out (1 + t) 1]
            obtain rfl | rfl | rfl : t = 0 ∨ t = 1 ∨ t = 2 := by omega
            all_goals rfl)
          have KTc : Hid (∀ W, Below w2.heap.size w2 W → W.cell? ⟨j, 0, none⟩ = some (.pointer (some ⟨b, 0, none⟩)) ∧ W.cell? ⟨g, 3 + t, none⟩ = some (vi (rw (3 + t)))) := Lib.hid fun W hb => by
            have h := HX.out.below hb
            exact ⟨h.jr.cb, h.jr.at_ (3 + t) htn⟩
          have KSc : Hid (∀ W, Below w1c.heap.size w1c W → W.cell? ⟨j, 0, none⟩ = some (.pointer (some ⟨b, 0, none⟩)) ∧ W.cell? ⟨g, 3 + t, none⟩ = some (vi (rw (3 + t)))) := Lib.hid fun W hb => KTc.out W (HOc.out.2.trans (hb.mono HOc.out.2.size))
          clear hO hb
          go_upto_region 13 with (fail)
          go_region_held3 (fun W => W.cell? ⟨j, 0, none⟩ = some (.pointer (some ⟨b, 0, none⟩)) ∧ W.cell? ⟨g, 3 + t, none⟩ = some (vi (rw (3 + t)))) (first | exact KSc.out _ hb9c | exact KSc.out _ (hb9c.alloc hb9c.size _) | exact KTc.out _ hb8c | exact KSc.out _ (below_drewN (Below.refl _ _) _)) ((first | (go_at_call 140; refine (HX1c.out.cell t _ (by first | exact hb9c | exact below_drewN (Below.refl _ _) _)).mono ?_; rintro _ w9c ⟨b1, b2, rfl, hg1, hg2, hb9c⟩) | (go_at_call 138; refine ((jsum_cell t htl b1 b2 _ (HX1c.out.below hb9c) hg1 hg2).mono (fun e w' h => SumIs.chain hb9c h)).mono ?_; rintro _ w9c ⟨rfl, hb9c⟩) | (go_at_call 69; refine (HX1c.out.mul _ _ (by first | exact HI.out _ | exact HI'.out _ | exact i64_fv _ hp2 | assumption | (constructor <;> omega)) (by first | exact HI.out _ | exact HI'.out _ | exact i64_fv _ hp2 | assumption | (constructor <;> omega)) _ (by first | exact hb9c | exact below_drewN (Below.refl _ _) _)).mono ?_; rintro _ w9c ⟨rfl, hb9c⟩) | (go_at_call 94; refine (HX1c.out.sub _ _ (by first | exact HI.out _ | exact HI'.out _ | exact i64_fv _ hp2 | assumption | (constructor <;> omega)) (by first | exact HI.out _ | exact HI'.out _ | exact i64_fv _ hp2 | assumption | (constructor <;> omega)) _ (by first | exact hb9c | exact below_drewN (Below.refl _ _) _)).mono ?_; rintro _ w9c ⟨rfl, hb9c⟩) | (go_at_call 98; refine (HX1c.out.add _ _ (by first | exact HI.out _ | exact HI'.out _ | exact i64_fv _ hp2 | assumption | (constructor <;> omega)) (by first | exact HI.out _ | exact HI'.out _ | exact i64_fv _ hp2 | assumption | (constructor <;> omega)) _ (by first | exact hb9c | exact below_drewN (Below.refl _ _) _)).mono ?_; rintro _ w9c ⟨rfl, hb9c⟩) | (go_at_call 25; refine (HX1c.out.of_ _ (by first | exact HI.out _ | exact HI'.out _ | exact i64_fv _ hp2 | assumption | (constructor <;> omega)) _ (by first | exact hb9c | exact below_drewN (Below.refl _ _) _)).mono ?_; rintro _ w9c ⟨rfl, hb9c⟩) | (refine step_appL w2 _ _ [_] 1 rfl (by rfl) _ _ (by rfl) _ _ (by rfl) (by rfl) (by rfl) (HOc.out.1.below hb9c) (HOc.out.2.trans (hb9c.mono HOc.out.2.size)) HLNc.out ?_; intro v8c w8c hO8c hb8c)))
          go_wp2
          go_roundw
          case rel => exact ⟨t + 1, by omega, by go_num, by rw [show L + (1 + (t + 1)) = L + (1 + t) + 1 by omega, HST.out]; (try simp only [el_fv] at hO8c); exact hO8c, hb8c⟩
          case measure => simp only [intOf, Int.toNat_natCast]; omega
        · obtain rfl : t = 3 := by omega
          have HX1d := Lib.hid (HX.out.below hb)
          have HOd := Lib.hid (And.intro hO hb)
          have HLNd := Lib.hid (show (RV (L + 4)).length + 2 ≤ 1000000 by have := HRL.out (L + 4); omega)
          have HSdoesd : Hid (∀ W, Below w1c.heap.size w1c W → Calls Tryz.prog 138 #[.pointer (some ⟨j, 0, none⟩), .func (.func 141) #[.pointer (some ⟨j, 0, none⟩)] #[]] W fun e w' => e = .returned (vi (fv (sumI code (rE p rw) (doesI (rE p rw))))) ∧ Below w1c.heap.size w1c w') := Lib.hid fun W hb => (jsum_does W (HX1d.out.below hb)).mono fun e w' h => SumIs.chain hb h
          have HSmored : Hid (∀ W, Below w1c.heap.size w1c W → Calls Tryz.prog 138 #[.pointer (some ⟨j, 0, none⟩), .func (.func 142) #[.pointer (some ⟨j, 0, none⟩)] #[]] W fun e w' => e = .returned (vi (fv (sumI code (rE p rw) (moreI (rE p rw))))) ∧ Below w1c.heap.size w1c w') := Lib.hid fun W hb => (jsum_more W (HX1d.out.below hb)).mono fun e w' h => SumIs.chain hb h
          clear hO hb
          go_wp2_with fail
          refine (HSdoesd.out _ (Below.refl _ _)).mono ?_
          rintro _ w9d ⟨rfl, hb9d⟩
          go_wp2_with fail
          refine (HSmored.out _ hb9d).mono ?_
          rintro _ wAd ⟨rfl, hbAd⟩
          clear hb9d
          go_upto_region 16 with (at_builtin; refine wpList_appL w2 _ _ [_, _] 2 rfl rfl _ _ rfl _ _ rfl rfl rfl (HOd.out.1.below hbAd) (HOd.out.2.trans (hbAd.mono HOd.out.2.size)) HLNd.out ?_; intro v8d w8d hO8d hb8d)
          have hOdn : Own w8d w2.heap.size v8d (RV (L + 6)) := by
            rw [show L + 6 = L + 4 + 2 from rfl, HRT.out 4 2]
            (try simp only [el_fv, el_one] at hO8d)
            exact hO8d
          clear hO8d
          go_wp2
          go_loopw [7, 96] (fun v i wr => ∃ t : Nat, t ≤ 3 ∧ i = vi t ∧ Own wr w2.heap.size v (RV (L + (6 + 2 * t))) ∧ Below w2.heap.size w2 wr) (fun _ i _ => 3 - (intOf i).toNat)
          case atStart => exact ⟨0, by omega, rfl, hOdn, hb8d⟩
          case round =>
            rename World => w1e
            obtain ⟨t, ht, rfl, hO, hb⟩ := hrel
            clear hOdn hb8d hbAd
            by_cases htl : t < 3
            · have i1 : (0 : Int) ≤ (t : Int) := by omega
              have i2 : (t : Int) < 3 := by omega
              have z0a : (0 : Int) ≤ 12 + (t : Int) := by omega
              have z1a : 12 + (t : Int) < (n : Int) := by omega
              have z2a : (12 + (t : Int)).toNat = 12 + t := by omega
              have z3a : IntKind.i64.wrap (12 + (t : Int)) = 12 + (t : Int) := IntWalk.i64_in _ (by constructor <;> omega)
              have z4a : 12 + t < n := by omega
              have z0b : (0 : Int) ≤ 16 + (t : Int) := by omega
              have z1b : 16 + (t : Int) < (n : Int) := by omega
              have z2b : (16 + (t : Int)).toNat = 16 + t := by omega
              have z3b : IntKind.i64.wrap (16 + (t : Int)) = 16 + (t : Int) := IntWalk.i64_in _ (by constructor <;> omega)
              have z4b : 16 + t < n := by omega
              have z0c : (0 : Int) ≤ 12 + (t : Int) + 1 := by omega
              have z1c : 12 + (t : Int) + 1 < (n : Int) := by omega
              have z2c : (12 + (t : Int) + 1).toNat = 12 + t + 1 := by omega
              have z3c : IntKind.i64.wrap (12 + (t : Int) + 1) = 12 + (t : Int) + 1 := IntWalk.i64_in _ (by constructor <;> omega)
              have z4c : 12 + t + 1 < n := by omega
              have z0d : (0 : Int) ≤ 16 + (t : Int) + 1 := by omega
              have z1d : 16 + (t : Int) + 1 < (n : Int) := by omega
              have z2d : (16 + (t : Int) + 1).toNat = 16 + t + 1 := by omega
              have z3d : IntKind.i64.wrap (16 + (t : Int) + 1) = 16 + (t : Int) + 1 := IntWalk.i64_in _ (by constructor <;> omega)
              have z4d : 16 + t + 1 < n := by omega
              have HX1e := Lib.hid (HX.out.below hb)
              have HOe := Lib.hid (And.intro hO hb)
              have HLNe := Lib.hid (show (RV (L + (6 + 2 * t))).length + 2 ≤ 1000000 by have := HRL.out (L + (6 + 2 * t)); omega)
              have HST := Lib.hid (show RV (L + (6 + 2 * t) + 2) = RV (L + (6 + 2 * t)) ++ fvs [ordA (rE p rw (12 + t)) (rE p rw (12 + t + 1)), ordB (rE p rw (12 + t)) (rE p rw (16 + t)) (rE p rw (12 + t + 1)) (rE p rw (16 + t + 1))] by
                rw [HRT.out (6 + 2 * t) 2]
                obtain rfl | rfl | rfl : t = 0 ∨ t = 1 ∨ t = 2 := by omega
                all_goals rfl)
              have KTe : Hid (∀ W, Below w2.heap.size w2 W → W.cell? ⟨g, 12 + t, none⟩ = some (vi (rw (12 + t))) ∧ W.cell? ⟨g, 16 + t, none⟩ = some (vi (rw (16 + t))) ∧ W.cell? ⟨g, 12 + t + 1, none⟩ = some (vi (rw (12 + t + 1))) ∧ W.cell? ⟨g, 16 + t + 1, none⟩ = some (vi (rw (16 + t + 1)))) := Lib.hid fun W hb => by
                have h := HX.out.below hb
                exact ⟨h.jr.at_ (12 + t) z4a, h.jr.at_ (16 + t) z4b, h.jr.at_ (12 + t + 1) z4c, h.jr.at_ (16 + t + 1) z4d⟩
              have KSe : Hid (∀ W, Below w1e.heap.size w1e W → W.cell? ⟨g, 12 + t, none⟩ = some (vi (rw (12 + t))) ∧ W.cell? ⟨g, 16 + t, none⟩ = some (vi (rw (16 + t))) ∧ W.cell? ⟨g, 12 + t + 1, none⟩ = some (vi (rw (12 + t + 1))) ∧ W.cell? ⟨g, 16 + t + 1, none⟩ = some (vi (rw (16 + t + 1)))) := Lib.hid fun W hb => KTe.out W (HOe.out.2.trans (hb.mono HOe.out.2.size))
              clear hO hb
              go_upto_region 19 with (fail)
              go_region_held3 (fun W => W.cell? ⟨g, 12 + t, none⟩ = some (vi (rw (12 + t))) ∧ W.cell? ⟨g, 16 + t, none⟩ = some (vi (rw (16 + t))) ∧ W.cell? ⟨g, 12 + t + 1, none⟩ = some (vi (rw (12 + t + 1))) ∧ W.cell? ⟨g, 16 + t + 1, none⟩ = some (vi (rw (16 + t + 1)))) (first | exact KSe.out _ hb9e | exact KSe.out _ (hb9e.alloc hb9e.size _) | exact KTe.out _ hb8e | exact KSe.out _ (below_drewN (Below.refl _ _) _)) ((first | (go_at_call 143; refine (HX1e.out.order _ _ _ _ (by first | exact HI.out _ | exact HI'.out _ | exact i64_fv _ hp2 | assumption | (constructor <;> omega)) (by first | exact HI.out _ | exact HI'.out _ | exact i64_fv _ hp2 | assumption | (constructor <;> omega)) (by first | exact HI.out _ | exact HI'.out _ | exact i64_fv _ hp2 | assumption | (constructor <;> omega)) (by first | exact HI.out _ | exact HI'.out _ | exact i64_fv _ hp2 | assumption | (constructor <;> omega)) _ (by first | exact hb9e | exact below_drewN (Below.refl _ _) _)).mono ?_; rintro _ w9e ⟨Aoe, coe, rfl, hsle, hb9e⟩) | (refine step_appM w2 _ Aoe 2 coe _ (by rfl) _ _ (by rfl) _ _ (by rfl) (by rfl) (by rfl) (HOe.out.1.below hb9e) (HOe.out.2.trans (hb9e.mono HOe.out.2.size)) hsle HLNe.out ?_; intro v8e w8e hO8e hb8e)))
              go_wp2
              go_roundw
              case rel => exact ⟨t + 1, by omega, by go_num, by rw [show L + (6 + 2 * (t + 1)) = L + (6 + 2 * t) + 2 by omega, HST.out]; exact hO8e, hb8e⟩
              case measure => simp only [intOf, Int.toNat_natCast]; omega
            · obtain rfl : t = 3 := by omega
              obtain ⟨NF, hNF⟩ : ∃ NF : Nat → Fin p, NF = fun k : Nat => el p (k : Int) * rE p rw' (20 + k) := ⟨_, rfl⟩
              have HNF := Lib.hid hNF
              have HOf := Lib.hid (And.intro hO hb)
              have c2e := (HX.out.below hb).cl
              clear hO hb hNF
              go_wp2
              go_loopw [12, 13, 132] (fun v _ i wr => ∃ t : Nat, t ≤ L ∧ v = vi (fv (sumT t NF)) ∧ i = vi t ∧ Below w1e.heap.size w1e wr) (fun _ _ i _ => L - (intOf i).toNat)
              case atStart => exact ⟨0, Nat.zero_le _, by rw [sumT, fv_zero], rfl, Below.refl _ _⟩
              case round =>
                rename World => w1f
                obtain ⟨t, ht, rfl, rfl, hbf⟩ := hrel
                have hb : Below w2.heap.size w2 w1f := HOf.out.2.trans (hbf.mono HOf.out.2.size)
                have hO := HOf.out.1.below hbf
                by_cases htl : t < L
                · have i1 : (0 : Int) ≤ (t : Int) := by omega
                  have i2 : (t : Int) < (L : Int) := by omega
                  have i3 : (0 : Int) ≤ 20 + (t : Int) := by omega
                  have i4 : 20 + (t : Int) < (n : Int) := by have := HN.out; omega
                  have i5 : (20 + (t : Int)).toNat = 20 + t := by omega
                  have i6 : IntKind.i64.wrap (20 + (t : Int)) = 20 + (t : Int) := IntWalk.i64_in _ (by constructor <;> omega)
                  have i7 : I64 (t : Int) := by constructor <;> omega
                  have htn : 20 + t < n := by have := HN.out; omega
                  have HX1f := Lib.hid (HX.out.below hb)
                  have HOf := Lib.hid (And.intro hO hb)
                  have HLNf := Lib.hid (show (RV (L)).length + 1 ≤ 1000000 by have := HRL.out (L); omega)
                  have HST := Lib.hid (show sumT (t + 1) NF = sumT t NF + el p (t : Int) * rE p rw' (20 + t) by rw [sumT_succ, HNF.out])
                  have KTf : Hid (∀ W, Below w2.heap.size w2 W → W.cell? ⟨j, 0, none⟩ = some (.pointer (some ⟨b, 0, none⟩)) ∧ W.cell? ⟨g', 20 + t, none⟩ = some (vi (rw' (20 + t)))) := Lib.hid fun W hb => by
                    have h := HX.out.below hb
                    exact ⟨h.jr.cb, h.nx (20 + t) htn⟩
                  have KSf : Hid (∀ W, Below w1f.heap.size w1f W → W.cell? ⟨j, 0, none⟩ = some (.pointer (some ⟨b, 0, none⟩)) ∧ W.cell? ⟨g', 20 + t, none⟩ = some (vi (rw' (20 + t)))) := Lib.hid fun W hb => KTf.out W (HOf.out.2.trans (hb.mono HOf.out.2.size))
                  have HBF := Lib.hid hbf
                  clear hO hb hbf
                  go_upto_region 25 with (fail)
                  go_region_held3 (fun W => W.cell? ⟨j, 0, none⟩ = some (.pointer (some ⟨b, 0, none⟩)) ∧ W.cell? ⟨g', 20 + t, none⟩ = some (vi (rw' (20 + t)))) (first | exact KSf.out _ hb9f | exact KSf.out _ (hb9f.alloc hb9f.size _) | exact KTf.out _ hb8f | exact KSf.out _ (below_drewN (Below.refl _ _) _)) ((first | (go_at_call 69; refine (HX1f.out.mul _ _ (by first | exact HI.out _ | exact HI'.out _ | exact i64_fv _ hp2 | assumption | (constructor <;> omega)) (by first | exact HI.out _ | exact HI'.out _ | exact i64_fv _ hp2 | assumption | (constructor <;> omega)) _ (by first | exact hb9f | exact below_drewN (Below.refl _ _) _)).mono ?_; rintro _ w9f ⟨rfl, hb9f⟩) | (go_at_call 94; refine (HX1f.out.sub _ _ (by first | exact HI.out _ | exact HI'.out _ | exact i64_fv _ hp2 | assumption | (constructor <;> omega)) (by first | exact HI.out _ | exact HI'.out _ | exact i64_fv _ hp2 | assumption | (constructor <;> omega)) _ (by first | exact hb9f | exact below_drewN (Below.refl _ _) _)).mono ?_; rintro _ w9f ⟨rfl, hb9f⟩) | (go_at_call 98; refine (HX1f.out.add _ _ (by first | exact HI.out _ | exact HI'.out _ | exact i64_fv _ hp2 | assumption | (constructor <;> omega)) (by first | exact HI.out _ | exact HI'.out _ | exact i64_fv _ hp2 | assumption | (constructor <;> omega)) _ (by first | exact hb9f | exact below_drewN (Below.refl _ _) _)).mono ?_; rintro _ w9f ⟨rfl, hb9f⟩) | (go_at_call 25; refine (HX1f.out.of_ _ (by first | exact HI.out _ | exact HI'.out _ | exact i64_fv _ hp2 | assumption | (constructor <;> omega)) _ (by first | exact hb9f | exact below_drewN (Below.refl _ _) _)).mono ?_; rintro _ w9f ⟨rfl, hb9f⟩)))
                  go_wp2
                  refine ⟨?_, by (try simp only [intOf]); (try simp); omega⟩
                  (repeat apply Exists.intro)
                  exact ⟨⟨t + 1, by omega, by rw [HST.out]; (try simp only [el_fv]); rfl, by go_num, HBF.out.trans (hb9f.mono HBF.out.size)⟩, rfl⟩
                · obtain rfl : L = t := by omega
                  clear HOf hbf
                  have HX1g := Lib.hid (HX.out.below hb)
                  have HOg := Lib.hid (And.intro hO hb)
                  have HLNg := Lib.hid (show (RV (L + 12)).length + 1 ≤ 1000000 by have := HRL.out (L + 12); omega)
                  have HSgoesg : Hid (∀ W, Below w1f.heap.size w1f W → Calls Tryz.prog 138 #[.pointer (some ⟨j, 0, none⟩), .func (.func 144) #[.pointer (some ⟨j, 0, none⟩)] #[]] W fun e w' => e = .returned (vi (fv (sumI code (rE p rw) (goesI (rE p rw))))) ∧ Below w1f.heap.size w1f w') := Lib.hid fun W hb => (jsum_goes W (HX1g.out.below hb)).mono fun e w' h => SumIs.chain hb h
                  have KTg : Hid (∀ W, Below w2.heap.size w2 W → W.cell? ⟨j, 0, none⟩ = some (.pointer (some ⟨b, 0, none⟩))) := Lib.hid fun W hb => by
                    have h := HX.out.below hb
                    exact h.jr.cb
                  have KSg : Hid (∀ W, Below w1f.heap.size w1f W → W.cell? ⟨j, 0, none⟩ = some (.pointer (some ⟨b, 0, none⟩))) := Lib.hid fun W hb => KTg.out W (HOg.out.2.trans (hb.mono HOg.out.2.size))
                  clear hO hb
                  go_upto_region 27 with (fail)
                  rename ∀ (a : Act) (w : World), Code.wp _ _ _ a w → _ => HKK
                  go_region_held3 (fun W => W.cell? ⟨j, 0, none⟩ = some (.pointer (some ⟨b, 0, none⟩))) (first | exact KSg.out _ hb9g | exact KSg.out _ (hb9g.alloc hb9g.size _) | exact KTg.out _ hb8g | exact KSg.out _ (below_drewN (Below.refl _ _) _)) ((first | (go_at_call 138; (with_reducible refine Calls.mono (HSgoesg.out _ ?_) ?_); (first | exact hb9g | exact below_drewN (Below.refl _ _) _); rintro _ w9g ⟨rfl, hb9g⟩) | (go_at_call 69; refine (HX1g.out.mul _ _ (by first | exact HI.out _ | exact HI'.out _ | exact i64_fv _ hp2 | assumption | (constructor <;> omega)) (by first | exact HI.out _ | exact HI'.out _ | exact i64_fv _ hp2 | assumption | (constructor <;> omega)) _ (by first | exact hb9g | exact below_drewN (Below.refl _ _) _)).mono ?_; rintro _ w9g ⟨rfl, hb9g⟩) | (go_at_call 94; refine (HX1g.out.sub _ _ (by first | exact HI.out _ | exact HI'.out _ | exact i64_fv _ hp2 | assumption | (constructor <;> omega)) (by first | exact HI.out _ | exact HI'.out _ | exact i64_fv _ hp2 | assumption | (constructor <;> omega)) _ (by first | exact hb9g | exact below_drewN (Below.refl _ _) _)).mono ?_; rintro _ w9g ⟨rfl, hb9g⟩) | (go_at_call 98; refine (HX1g.out.add _ _ (by first | exact HI.out _ | exact HI'.out _ | exact i64_fv _ hp2 | assumption | (constructor <;> omega)) (by first | exact HI.out _ | exact HI'.out _ | exact i64_fv _ hp2 | assumption | (constructor <;> omega)) _ (by first | exact hb9g | exact below_drewN (Below.refl _ _) _)).mono ?_; rintro _ w9g ⟨rfl, hb9g⟩) | (go_at_call 25; refine (HX1g.out.of_ _ (by first | exact HI.out _ | exact HI'.out _ | exact i64_fv _ hp2 | assumption | (constructor <;> omega)) _ (by first | exact hb9g | exact below_drewN (Below.refl _ _) _)).mono ?_; rintro _ w9g ⟨rfl, hb9g⟩) | (refine step_appL w2 _ _ [_] 1 rfl (by rfl) _ _ (by rfl) _ _ (by rfl) (by rfl) (by rfl) (HOg.out.1.below hb9g) (HOg.out.2.trans (hb9g.mono HOg.out.2.size)) HLNg.out ?_; intro v8g w8g hO8g hb8g)))
                  have hOgn : Own w8g w2.heap.size v8g (RV (L + 13)) := by
                    have e : RV (L + 12 + 1) = RV (L + 12) ++ [fv (sumT L NF - sumI code (rE p rw) (goesI (rE p rw)))] := by
                      rw [HRT.out 12 1, HNF.out, ← HCL.out]
                      rfl
                    rw [show L + 13 = L + 12 + 1 from rfl, e]
                    (try simp only [el_fv, el_one] at hO8g)
                    exact hO8g
                  clear hO8g
                  (first | exact jr_t28 j b p g n cA cA' rw AI L cI code size outc g' rw' hL1 hL64 w2 HX.out RV HRV.out _ _ _ _ _ _ _ _ _ _ _ _ _ _ _ _ _ _ _ _ _ _ _ _ _ _ _ _ _ _ _ _ _ _ _ _ _ _ _ _ _ _ _ _ _ _ _ _ _ _ _ _ _ _ _ _ _ _ _ _ _ _ _ _ _ _ _ _ _ _ _ _ _ _ _ _ _ _ _ _ _ _ _ _ _ _ _ _ _ _ _ _ _ _ _ _ _ _ _ _ _ _ _ _ _ _ _ _ _ _ _ _ _ _ _ _ _ _ _ _ _ _ _ _ _ _ _ _ _ _ _ _ _ _ _ _ _ _ _ _ _ _ _ _ _ _ _ _ _ _ _ _ _ _ _ _ _ _ _ _ _ _ _ _ _ _ _ _ _ _ _ _ _ _ _ _ _ _ _ _ _ _ _ _ _ _ _ _ _ _ _ _ _ _ _ _ _ _ _ _ _ _ _ _ _ _ _ _ _ _ _ _ _ _ _ _ _ _ _ _ _ _ _ _ _ _ _ _ _ _ _ _ _ _ _ _ _ _ _ _ _ _ _ _ _ _ _ _ _ _ _ _ _ _ _ _ _ _ _ _ _ _ _ _ _ _ _ _ _ _ _ _ _ _ _ _ _ _ _ _ _ _ _ _ _ _ _ _ _ _ _ _ _ _ _ _ _ _ _ _ _ hOgn hb8g | exact HKK _ _ (jr_t28 j b p g n cA cA' rw AI L cI code size outc g' rw' hL1 hL64 w2 HX.out RV HRV.out _ _ _ _ _ _ _ _ _ _ _ _ _ _ _ _ _ _ _ _ _ _ _ _ _ _ _ _ _ _ _ _ _ _ _ _ _ _ _ _ _ _ _ _ _ _ _ _ _ _ _ _ _ _ _ _ _ _ _ _ _ _ _ _ _ _ _ _ _ _ _ _ _ _ _ _ _ _ _ _ _ _ _ _ _ _ _ _ _ _ _ _ _ _ _ _ _ _ _ _ _ _ _ _ _ _ _ _ _ _ _ _ _ _ _ _ _ _ _ _ _ _ _ _ _ _ _ _ _ _ _ _ _ _ _ _ _ _ _ _ _ _ _ _ _ _ _ _ _ _ _ _ _ _ _ _ _ _ _ _ _ _ _ _ _ _ _ _ _ _ _ _ _ _ _ _ _ _ _ _ _ _ _ _ _ _ _ _ _ _ _ _ _ _ _ _ _ _ _ _ _ _ _ _ _ _ _ _ _ _ _ _ _ _ _ _ _ _ _ _ _ _ _ _ _ _ _ _ _ _ _ _ _ _ _ _ _ _ _ _ _ _ _ _ _ _ _ _ _ _ _ _ _ _ _ _ _ _ _ _ _ _ _ _ _ _ _ _ _ _ _ _ _ _ _ _ _ _ _ _ _ _ _ _ _ _ _ _ _ _ _ _ _ _ _ _ _ _ _ _ _ hOgn hb8g) | (trace_state; fail))
end Go.Proofs.YtpkhcncempoohaaGreatDoor

namespace Go.Proofs.YtpkhcncempoohaaGreatDoor
open Go.RowKit Zp
structure FB (w : World) (b p : Nat) : Prop where
  cp : w.cell? ⟨b, 0, none⟩ = some (vi p)
  lo : 2 ≤ p
  hi : p ≤ 2147483647
section
variable {b p : Nat} [NeZero p] {w : World}
theorem FB.below {w' : World} (h : FB w b p) (hb : Below w.heap.size w w') : FB w' b p := ⟨(hb.cell (block_lt_of_cell h.cp)).trans h.cp, h.lo, h.hi⟩
theorem FB.c0 {W : World} (h : FB w b p) (hb : Below w.heap.size w W) : W.cell? ⟨b, 0, none⟩ = some (vi p) := (h.below hb).cp
theorem FB.mul (h : FB w b p) (x y : Int) (hx : I64 x) (hy : I64 y) (W : World) (hb : Below w.heap.size w W) : Calls Tryz.prog 69 #[.pointer (some ⟨b, 0, none⟩), vi x, vi y] W fun e w' => e = .returned (vi (fv (el p x * el p y))) ∧ Below w.heap.size w w' :=
  (mul_any p h.hi b x y hx hy W (h.c0 hb)).mono fun e w' ⟨h1, k, h2⟩ => ⟨h1, by rw [h2]; exact below_drewN hb _⟩
theorem FB.add (h : FB w b p) (x y : Int) (hx : I64 x) (hy : I64 y) (W : World) (hb : Below w.heap.size w W) : Calls Tryz.prog 98 #[.pointer (some ⟨b, 0, none⟩), vi x, vi y] W fun e w' => e = .returned (vi (fv (el p x + el p y))) ∧ Below w.heap.size w w' :=
  (add_any p h.hi b x y hx hy W (h.c0 hb)).mono fun e w' ⟨h1, k, h2⟩ => ⟨h1, by rw [h2]; exact below_drewN hb _⟩
theorem FB.sub (h : FB w b p) (x y : Int) (hx : I64 x) (hy : I64 y) (W : World) (hb : Below w.heap.size w W) : Calls Tryz.prog 94 #[.pointer (some ⟨b, 0, none⟩), vi x, vi y] W fun e w' => e = .returned (vi (fv (el p x - el p y))) ∧ Below w.heap.size w w' :=
  (sub_any p h.hi b x y hx hy W (h.c0 hb)).mono fun e w' ⟨h1, h2⟩ => ⟨h1, by rw [← h2]; exact hb⟩
end
theorem width_any (size : Int) (AI : Option Addr) (L cI : Nat) (hL : L ≤ 100000) (w : World) : Calls Tryz.prog 30 #[.agg #[vi size, .slice AI L cI]] w fun e w' => e = .returned (vi ((20 + L : Nat) : Int)) ∧ Below w.heap.size w w' := by
  have hz := Lib.hid (Nat.le_refl w.heap.size)
  have hw : IntKind.i64.wrap (20 + (L : Int)) = 20 + (L : Int) := IntWalk.i64_in _ (by constructor <;> omega)
  go_enter Tryz.func30, Tryz.ntmps30
  go_wp2
  go_ret
  refine ⟨by go_num, ?_⟩
  (repeat first | exact Below.refl _ _ | apply below_drew | apply below_drewN | (apply Below.alloc; rotate_left; (first | exact hz.out | omega)))
def kindN (i : Nat) : Nat := if i < 12 then 0 else if i < 18 then 1 else if i < 24 then 2 else 3
theorem rulesOf_any (i L : Nat) (hi : i ≤ 100000) (hL : L ≤ 100000) (w : World) : Calls Tryz.prog 100 #[vi i, vi L] w fun e w' => e = .returned (vi (kindN (i - L) : Nat)) ∧ Below w.heap.size w w' := by
  have hw : IntKind.i64.wrap ((i : Int) - (L : Int)) = (i : Int) - (L : Int) := IntWalk.i64_in _ (by constructor <;> omega)
  have hb0 := Lib.hid (Below.refl w.heap.size w)
  by_cases h1 : (i : Int) - L < 12
  · have e := Lib.hid (show (kindN (i - L) : Nat) = 0 by unfold kindN; rw [if_pos (by omega)])
    go_enter Tryz.func100, Tryz.ntmps100
    go_wp2
    go_ret
    exact ⟨by rw [e.out]; rfl, hb0.out⟩
  · by_cases h2 : (i : Int) - L < 18
    · have e := Lib.hid (show (kindN (i - L) : Nat) = 1 by unfold kindN; rw [if_neg (by omega), if_pos (by omega)])
      go_enter Tryz.func100, Tryz.ntmps100
      go_wp2
      go_ret
      exact ⟨by rw [e.out]; rfl, hb0.out⟩
    · by_cases h3 : (i : Int) - L < 24
      · have e := Lib.hid (show (kindN (i - L) : Nat) = 2 by unfold kindN; rw [if_neg (by omega), if_neg (by omega), if_pos (by omega)])
        go_enter Tryz.func100, Tryz.ntmps100
        go_wp2
        go_ret
        exact ⟨by rw [e.out]; rfl, hb0.out⟩
      · have e := Lib.hid (show (kindN (i - L) : Nat) = 3 by unfold kindN; rw [if_neg (by omega), if_neg (by omega), if_neg (by omega)])
        go_enter Tryz.func100, Tryz.ntmps100
        go_wp2
        go_ret
        exact ⟨by rw [e.out]; rfl, hb0.out⟩
def prF {p : Nat} [NeZero p] (y x : Fin p) (a v : Nat) (r : Nat → Fin p) : Nat → Fin p
  | 0 => 1
  | j + 1 => prF y x a v r j * fcR y x a v r j
theorem prF_four {p : Nat} [NeZero p] (y x : Fin p) (a v : Nat) (r : Nat → Fin p) : prF y x a v r 4 = prodR y x a v r := by
  unfold prodR
  simp only [prF]
  grind
set_option maxHeartbeats 16000000 in
theorem facs_any (b p : Nat) [NeZero p] (g n cA : Nat) (rw : Nat → Int) (x y : Int) (hx : I64 x) (hy : I64 y) (hn20 : 20 ≤ n) (hnb : n ≤ 65536) (hr : ∀ k, I64 (rw k)) (w : World) (hF : FB w b p) (hat : ∀ k, k < n → w.cell? ⟨g, k, none⟩ = some (vi (rw k))) :
    Calls Tryz.prog 101 #[.pointer (some ⟨b, 0, none⟩), .slice (some ⟨g, 0, none⟩) n cA, vi x, vi y] w fun e w' => e = .returned (.tuple #[vi (fv (prodR (el p y) (el p x) 3 7 (rE p rw))), vi (fv (prodR (el p y) (el p x) 12 16 (rE p rw)))]) ∧ Below w.heap.size w w' := by
  have hp2 := hF.hi
  have HF := Lib.hid hF
  have HR := Lib.hid hr
  have HA := Lib.hid (show ∀ k W, k < n → Below w.heap.size w W → W.cell? ⟨g, k, none⟩ = some (vi (rw k)) from fun k W hk hb => (hb.cell (block_lt_of_cell (hat k hk))).trans (hat k hk))
  obtain ⟨PA, hPA⟩ : ∃ PA, PA = prF (el p y) (el p x) 3 7 (rE p rw) := ⟨_, rfl⟩
  obtain ⟨PB, hPB⟩ : ∃ PB, PB = prF (el p y) (el p x) 12 16 (rE p rw) := ⟨_, rfl⟩
  have HPA := Lib.hid hPA
  have HPB := Lib.hid hPB
  rw [← prF_four, ← prF_four, ← HPA.out, ← HPB.out]
  have hA1 := Lib.hid (show fv (PA 0) = 1 by rw [HPA.out]; show fv (1 : Fin p) = 1; exact fv_one (by have := HF.out.lo; omega))
  have hB1 := Lib.hid (show fv (PB 0) = 1 by rw [HPB.out]; show fv (1 : Fin p) = 1; exact fv_one (by have := HF.out.lo; omega))
  clear hF hr hat hPA hPB
  go_enter Tryz.func101, Tryz.ntmps101
  go_wp2
  go_loopw [8, 9, 11] (fun v v2 i wr => ∃ t : Nat, t ≤ 4 ∧ v = vi (fv (PA t)) ∧ v2 = vi (fv (PB t)) ∧ i = vi t ∧ Below w.heap.size w wr) (fun _ _ i _ => 4 - (intOf i).toNat)
  case atStart => exact ⟨0, by omega, by rw [hA1.out], by rw [hB1.out], rfl, Below.refl _ _⟩
  case round =>
    rename World => w1
    obtain ⟨t, ht, rfl, rfl, rfl, hb⟩ := hrel
    by_cases htl : t < 4
    · have i1 : (0 : Int) ≤ (t : Int) := by omega
      have i2 : (t : Int) < 4 := by omega
      have h0a : (0 : Int) ≤ 3 + (t : Int) := by omega
      have h1a : 3 + (t : Int) < (n : Int) := by omega
      have h2a : (3 + (t : Int)).toNat = 3 + t := by omega
      have h3a : IntKind.i64.wrap (3 + (t : Int)) = 3 + (t : Int) := IntWalk.i64_in _ (by constructor <;> omega)
      have h4a : 3 + t < n := by omega
      have h0b : (0 : Int) ≤ 7 + (t : Int) := by omega
      have h1b : 7 + (t : Int) < (n : Int) := by omega
      have h2b : (7 + (t : Int)).toNat = 7 + t := by omega
      have h3b : IntKind.i64.wrap (7 + (t : Int)) = 7 + (t : Int) := IntWalk.i64_in _ (by constructor <;> omega)
      have h4b : 7 + t < n := by omega
      have h0c : (0 : Int) ≤ 12 + (t : Int) := by omega
      have h1c : 12 + (t : Int) < (n : Int) := by omega
      have h2c : (12 + (t : Int)).toNat = 12 + t := by omega
      have h3c : IntKind.i64.wrap (12 + (t : Int)) = 12 + (t : Int) := IntWalk.i64_in _ (by constructor <;> omega)
      have h4c : 12 + t < n := by omega
      have h0d : (0 : Int) ≤ 16 + (t : Int) := by omega
      have h1d : 16 + (t : Int) < (n : Int) := by omega
      have h2d : (16 + (t : Int)).toNat = 16 + t := by omega
      have h3d : IntKind.i64.wrap (16 + (t : Int)) = 16 + (t : Int) := IntWalk.i64_in _ (by constructor <;> omega)
      have h4d : 16 + t < n := by omega
      have HX := Lib.hid (HF.out.below hb)
      have HB := Lib.hid hb
      have hSA := Lib.hid (show PA (t + 1) = PA t * (el p x - (el p (rw (3 + t)) + el p y * el p (rw (7 + t)))) by rw [HPA.out]; rfl)
      have hSB := Lib.hid (show PB (t + 1) = PB t * (el p x - (el p (rw (12 + t)) + el p y * el p (rw (16 + t)))) by rw [HPB.out]; rfl)
      have KS : Hid (∀ W, Below w1.heap.size w1 W → W.cell? ⟨g, 3 + t, none⟩ = some (vi (rw (3 + t))) ∧ W.cell? ⟨g, 7 + t, none⟩ = some (vi (rw (7 + t)))) := Lib.hid fun W hW => ⟨HA.out _ _ h4a (HB.out.trans (hW.mono HB.out.size)), HA.out _ _ h4b (HB.out.trans (hW.mono HB.out.size))⟩
      clear hb
      go_upto_region 5 with (fail)
      go_region_held3 (fun W => W.cell? ⟨g, 3 + t, none⟩ = some (vi (rw (3 + t))) ∧ W.cell? ⟨g, 7 + t, none⟩ = some (vi (rw (7 + t)))) (first | exact KS.out _ hb9 | exact KS.out _ (below_drewN (Below.refl _ _) _)) ((first | (go_at_call 69; refine (HX.out.mul _ _ (by first | exact HR.out _ | exact i64_fv _ hp2 | assumption) (by first | exact HR.out _ | exact i64_fv _ hp2 | assumption) _ (by first | exact hb9 | exact below_drewN (Below.refl _ _) _)).mono ?_; rintro _ w9 ⟨rfl, hb9⟩) | (go_at_call 98; refine (HX.out.add _ _ (by first | exact HR.out _ | exact i64_fv _ hp2 | assumption) (by first | exact HR.out _ | exact i64_fv _ hp2 | assumption) _ (by first | exact hb9 | exact below_drewN (Below.refl _ _) _)).mono ?_; rintro _ w9 ⟨rfl, hb9⟩) | (go_at_call 94; refine (HX.out.sub _ _ (by first | exact HR.out _ | exact i64_fv _ hp2 | assumption) (by first | exact HR.out _ | exact i64_fv _ hp2 | assumption) _ (by first | exact hb9 | exact below_drewN (Below.refl _ _) _)).mono ?_; rintro _ w9 ⟨rfl, hb9⟩)))
      have HB9 := Lib.hid (HB.out.trans (hb9.mono HB.out.size))
      have HXa := Lib.hid (HF.out.below HB9.out)
      have KT : Hid (∀ W, Below w9.heap.size w9 W → W.cell? ⟨g, 12 + t, none⟩ = some (vi (rw (12 + t))) ∧ W.cell? ⟨g, 16 + t, none⟩ = some (vi (rw (16 + t)))) := Lib.hid fun W hW => ⟨HA.out _ _ h4c (HB9.out.trans (hW.mono HB9.out.size)), HA.out _ _ h4d (HB9.out.trans (hW.mono HB9.out.size))⟩
      rename World => w2
      clear hb9
      go_upto_region 6 with (fail)
      go_region_held3 (fun W => W.cell? ⟨g, 12 + t, none⟩ = some (vi (rw (12 + t))) ∧ W.cell? ⟨g, 16 + t, none⟩ = some (vi (rw (16 + t)))) (first | exact KT.out _ hb9 | exact KT.out _ (below_drewN (Below.refl _ _) _)) ((first | (go_at_call 69; refine (HXa.out.mul _ _ (by first | exact HR.out _ | exact i64_fv _ hp2 | assumption) (by first | exact HR.out _ | exact i64_fv _ hp2 | assumption) _ (by first | exact hb9 | exact below_drewN (Below.refl _ _) _)).mono ?_; rintro _ w9 ⟨rfl, hb9⟩) | (go_at_call 98; refine (HXa.out.add _ _ (by first | exact HR.out _ | exact i64_fv _ hp2 | assumption) (by first | exact HR.out _ | exact i64_fv _ hp2 | assumption) _ (by first | exact hb9 | exact below_drewN (Below.refl _ _) _)).mono ?_; rintro _ w9 ⟨rfl, hb9⟩) | (go_at_call 94; refine (HXa.out.sub _ _ (by first | exact HR.out _ | exact i64_fv _ hp2 | assumption) (by first | exact HR.out _ | exact i64_fv _ hp2 | assumption) _ (by first | exact hb9 | exact below_drewN (Below.refl _ _) _)).mono ?_; rintro _ w9 ⟨rfl, hb9⟩)))
      go_wp2
      go_roundw
      case rel => exact ⟨t + 1, by omega, by rw [hSA.out]; simp only [el_fv], by rw [hSB.out]; simp only [el_fv], by go_num, HB9.out.trans (hb9.mono HB9.out.size)⟩
      case measure => simp only [intOf, Int.toNat_natCast]; omega
    · obtain rfl : t = 4 := by omega
      go_wp2
      exact bodyPost_ret (v := .tuple #[vi (fv (PA 4)), vi (fv (PB 4))]) (by simp [results, Tryz.results101, go_sem]) rfl ⟨rfl, hb⟩
end Go.Proofs.YtpkhcncempoohaaGreatDoor

namespace Go.Proofs.YtpkhcncempoohaaGreatDoor
open Go.RowKit Zp
theorem genN_lt {p : Nat} [NeZero p] (hp : IsPrime p) : genN p < p := (genN_is hp).2.1
set_option maxHeartbeats 1000000 in
theorem root_any (p : Nat) [NeZero p] (S b : Nat) (n : Int) (hn : I64 n) (w : World) (F : Fld w S b p) :
    Calls Tryz.prog 26 #[.pointer (some ⟨b, 0, none⟩), vi n] w fun e w' => e = .returned (vi (fv (rootI p n))) ∧ ∃ k, w' = w.drewN k := by
  have hc0 := F.c0
  have hc2 := F.c2
  have hp1 := F.two
  have hp2 := F.max
  have hg := genN_lt F.prime
  obtain ⟨hn1, hn2⟩ := hn
  obtain ⟨g, hgg⟩ : ∃ g, g = genN p := ⟨_, rfl⟩
  rw [← hgg] at hc2 hg
  have HG := Lib.hid hgg
  clear hgg F
  by_cases h0 : n ≤ 0
  · have hr := rootI_no (p := p) (n := n) (by omega)
    have HR := Lib.hid hr
    clear hr
    go_enter Tryz.func26, Tryz.ntmps26
    go_wp2
    go_ret
    exact ⟨ret_int (by rw [HR.out, fv_zero]), 0, rfl⟩
  · have hnz : ¬ n = 0 := by omega
    have hp0 : (0 : Int) ≤ (p : Int) - 1 := by omega
    have et : ((p : Int) - 1).tmod n = ((p : Int) - 1) % n := Int.tmod_eq_emod_of_nonneg hp0
    have eq_ : ((p : Int) - 1).tdiv n = ((p : Int) - 1) / n := Int.tdiv_eq_ediv_of_nonneg hp0
    by_cases hd : ((p : Int) - 1) % n = 0
    · have t1 : (((p : Int) - 1) % n != 0) = false := by rw [hd]; rfl
      have hr : rootI p n = pw (el p (g : Int)) (((p : Int) - 1) / n).toNat := by rw [rootI, if_pos ⟨by omega, hd⟩, HG.out]
      have HR := Lib.hid hr
      have d1 : 0 ≤ ((p : Int) - 1) / n := Int.ediv_nonneg hp0 (by omega)
      have d2 : ((p : Int) - 1) / n ≤ (p : Int) - 1 := Int.ediv_le_self _ hp0
      have hdI : I64 (((p : Int) - 1) / n) := ⟨by omega, by omega⟩
      have hgI : I64 (g : Int) := ⟨by omega, by omega⟩
      have HD := Lib.hid hd
      have d3 : IntKind.i64.wrap (((p : Int) - 1).tdiv n) = ((p : Int) - 1) / n := by rw [eq_]; exact IntWalk.i64_in _ hdI
      clear hd hr
      go_enter Tryz.func26, Tryz.ntmps26
      go_wp2
      go_quiet ((go_at_call 59; exact quiet_eq (power_any p hp1 hp2 b g _ hgI hdI d1 _ (by exact hc0))))
      go_wp2
      go_ret
      exact ⟨ret_int (by rw [HR.out]), _, rfl⟩
    · have t1 : (((p : Int) - 1) % n != 0) = true := by rw [bne_iff_ne]; exact hd
      have hr := rootI_no (p := p) (n := n) (by rintro ⟨_, h⟩; exact hd h)
      have HR := Lib.hid hr
      clear hr hd eq_
      go_enter Tryz.func26, Tryz.ntmps26
      go_wp2
      go_ret
      exact ⟨ret_int (by rw [HR.out, fv_zero]), 0, rfl⟩
end Go.Proofs.YtpkhcncempoohaaGreatDoor

namespace Go.Proofs.YtpkhcncempoohaaGreatDoor
open Go.RowKit Zp
def SizeOk (p n : Nat) : Prop := (∃ k, k ≤ 16 ∧ n = 2 ^ k) ∧ n ∣ p - 1
theorem SizeOk.pos {p n : Nat} (h : SizeOk p n) : 0 < n := by
  obtain ⟨⟨k, _, rfl⟩, _⟩ := h
  exact Nat.pow_pos (by omega)
theorem SizeOk.le {p n : Nat} (h : SizeOk p n) : n ≤ 65536 := by
  obtain ⟨⟨k, hk, rfl⟩, _⟩ := h
  exact Nat.pow_le_pow_right (n := 2) (by omega) hk
theorem SizeOk.and {p n : Nat} (h : SizeOk p n) : (n &&& (n - 1)) = 0 := (two_pow_iff n h.pos).2 (let ⟨⟨k, _, e⟩, _⟩ := h; ⟨k, e⟩)
structure Dom (w : World) (S D b p : Nat) [NeZero p] (n : Nat) (s : Fin p) : Prop where
  fld : Fld w S b p
  lt : D < S
  c0 : w.cell? ⟨D, 0, none⟩ = some (.pointer (some ⟨b, 0, none⟩))
  c1 : w.cell? ⟨D, 1, none⟩ = some (vi n)
  c2 : w.cell? ⟨D, 2, none⟩ = some (vi (fv s))
  c3 : w.cell? ⟨D, 3, none⟩ = some (vi (fv (rootI p n)))
  s0 : s ≠ 0
  size : SizeOk p n
section
variable {w w' : World} {S D b p n : Nat} [NeZero p] {s : Fin p}
theorem Dom.keep (h : Dom w S D b p n s) (hk : ∀ q : Addr, q.block < S → w'.cell? q = w.cell? q) (hs : w.heap.size ≤ w'.heap.size) : Dom w' S D b p n s :=
  ⟨h.fld.keep hk hs, h.lt, (hk _ h.lt).trans h.c0, (hk _ h.lt).trans h.c1, (hk _ h.lt).trans h.c2, (hk _ h.lt).trans h.c3, h.s0, h.size⟩
theorem Dom.below (h : Dom w S D b p n s) {B : Nat} (hb : Below B w w') (hS : S ≤ B) : Dom w' S D b p n s := h.keep (fun q hq => hb.cell (by omega)) hb.size
theorem Dom.drewN (h : Dom w S D b p n s) (k : Nat) : Dom (w.drewN k) S D b p n s := h.keep (fun _ _ => rfl) (Nat.le_refl _)
theorem Dom.alloc (h : Dom w S D b p n s) (o : Obj) : Dom (w.alloc o) S D b p n s := h.keep (fun q hq => World.cell?_alloc_lt w o q (by have := h.fld.le; omega)) (by simp)
theorem Dom.le (h : Dom w S D b p n s) : S ≤ w.heap.size := h.fld.le
end
theorem and_pred (n : Nat) (h1 : 1 ≤ n) (h2 : n ≤ 65536) : bits .and .i64 (n : Int) ((n : Int) - 1) = ((n &&& (n - 1) : Nat) : Int) := by
  have e : (n : Int) - 1 = ((n - 1 : Nat) : Int) := by omega
  rw [e]
  exact i64_and_nat n (n - 1) (by omega) (by omega)
structure SizeTests (p n : Nat) : Prop where
  t1 : (bits .and .i64 (n : Int) ((n : Int) - 1) != 0) = false
  t2 : (((p : Int) - 1) % (n : Int) != 0) = false
  h1 : 1 ≤ n
  h2 : n ≤ 65536
theorem sizeTests {p n : Nat} (hp1 : 2 ≤ p) (h : SizeOk p n) : SizeTests p n := by
  have h1 := h.pos
  have h2 := h.le
  refine ⟨by rw [and_pred n h1 h2, h.and]; rfl, ?_, h1, h2⟩
  have e1 : ((p : Int) - 1) = ((p - 1 : Nat) : Int) := by omega
  rw [e1, ← Int.natCast_emod, Nat.mod_eq_zero_of_dvd h.2]; rfl
def MadeDom (p b n : Nat) [NeZero p] (t : Int) (w : World) (e : Ending) (w' : World) : Prop :=
  ∃ D : Nat, e = .returned (.tuple #[.pointer (some ⟨D, 0, none⟩), .nilIface]) ∧ Dom w' w'.heap.size D b p n (el p t) ∧ Below w.heap.size w w' ∧ w.heap.size ≤ D
set_option maxHeartbeats 1000000 in
theorem dnew_ok (p S b : Nat) [NeZero p] (n : Nat) (t : Int) (ht : I64 t) (h : SizeOk p n) (h0 : el p t ≠ 0) (w : World) (F : Fld w S b p) :
    Calls Tryz.prog 10 #[.pointer (some ⟨b, 0, none⟩), vi n, vi t] w fun e w' => MadeDom p b n t w e w' := by
  have hp1 := F.two
  have hp2 := F.max
  have hc := F.c0
  obtain ⟨t1, t2, h1, h2⟩ := sizeTests hp1 h
  have t3 : (fv (el p t) == 0) = false := by rw [beq_eq_false_iff_ne]; exact fun e => h0 (fv_eq_zero.1 e)
  have hn : I64 (n : Int) := ⟨by omega, by omega⟩
  have H := Lib.hid h
  have H0 := Lib.hid h0
  clear h h0
  go_enter Tryz.func10, Tryz.ntmps10
  go_wp2_with fail
  refine (p_any p b _ hc).mono ?_
  rintro e w' ⟨rfl, rfl⟩
  go_wp2_with fail
  refine (of_el p hp2 b t ht _ hc).mono ?_
  rintro e w' ⟨rfl, rfl⟩
  go_wp2_with fail
  refine (of_el p hp2 b t ht _ hc).mono ?_
  rintro e w' ⟨rfl, rfl⟩
  go_wp2_with fail
  refine (root_any p S b n hn _ F).mono ?_
  rintro e w' ⟨rfl, k, rfl⟩
  go_wp2
  go_ret2
  have hB := Blk.new (w'.drewN k) 66 #[.pointer (some ⟨b, 0, none⟩), vi n, vi (fv (el p t)), vi (fv (rootI p n))]
  have F' := (F.drewN k).alloc (.cells #[.pointer (some ⟨b, 0, none⟩), vi n, vi (fv (el p t)), vi (fv (rootI p n))] 66)
  have hle := F.le
  refine ⟨_, rfl, ⟨⟨F'.prime, F'.three, F'.max, by simp; have := F.lt; omega, Nat.le_refl _, F'.c0, ?_, F'.c2⟩, by simp, (hB.cell 0).trans rfl, (hB.cell 1).trans rfl, (hB.cell 2).trans rfl, (hB.cell 3).trans rfl, H0.out, H.out⟩, (below_drewN (Below.refl _ _) k).alloc (Nat.le_refl _) _, Nat.le_refl _⟩
  obtain ⟨A, c, fs, f1, f2, f3, f4⟩ := F'.c1
  exact ⟨A, c, fs, f1, f2, f3, f4.more (by simp; omega)⟩
theorem size_any (D n : Nat) (w : World) (hc : w.cell? ⟨D, 1, none⟩ = some (vi n)) :
    Calls Tryz.prog 64 #[.pointer (some ⟨D, 0, none⟩)] w fun e w' => e = .returned (vi n) ∧ w = w' := by
  go_enter Tryz.func64, Tryz.ntmps64
  go_wp2
  go_ret
  exact ⟨rfl, rfl⟩
end Go.Proofs.YtpkhcncempoohaaGreatDoor

namespace Go.Proofs.YtpkhcncempoohaaGreatDoor
open Go.RowKit Zp
set_option maxHeartbeats 400000 in
theorem radd_any (p : Nat) [NeZero p] (hp2 : p ≤ 2147483647) (m n : Int) (hm : I64 m) (hn : I64 n) (w : World) :
    Calls Tryz.prog 57 #[vi p, vi m, vi n] w fun e w' => e = .returned (vi (fv (el p m + el p n))) ∧ w = w' := by
  have h1 := fv_nonneg (el p m)
  have h2 := fv_lt (el p m)
  have h3 := fv_nonneg (el p n)
  have h4 := fv_lt (el p n)
  go_enter Tryz.func57, Tryz.ntmps57
  go_wp2_with (go_at_call 14; refine (rof_any p hp2 _ (by assumption) _).mono ?_; rintro e w' ⟨rfl, rfl⟩)
  go_ret
  exact ⟨ret_int (fv_add _ _).symm, rfl⟩
set_option maxHeartbeats 400000 in
theorem rmul_any (p : Nat) [NeZero p] (hp2 : p ≤ 2147483647) (m n : Int) (hm : I64 m) (hn : I64 n) (w : World) :
    Calls Tryz.prog 56 #[vi p, vi m, vi n] w fun e w' => e = .returned (vi (fv (el p m * el p n))) ∧ w = w' := by
  have h1 := fv_nonneg (el p m)
  have h2 := fv_lt (el p m)
  have h3 := fv_nonneg (el p n)
  have h4 := fv_lt (el p n)
  obtain ⟨h5, h6⟩ := mul_bd (el p m) (el p n) hp2
  go_enter Tryz.func56, Tryz.ntmps56
  go_wp2_with (go_at_call 14; refine (rof_any p hp2 _ (by assumption) _).mono ?_; rintro e w' ⟨rfl, rfl⟩)
  go_ret
  exact ⟨ret_int (fv_mul _ _).symm, rfl⟩
def RPow {p : Nat} [NeZero p] (T : Fin p) (n : Int) (a x k : Value) : Prop :=
  ∃ (j : Int) (A X : Fin p), j.natAbs ≤ n.natAbs ∧ I64 j ∧ a = vi (fv A) ∧ x = vi (fv X) ∧ k = vi j ∧ X * pw A j.natAbs = T
theorem RPow.step {p : Nat} [NeZero p] {T A X : Fin p} {n j r d : Int} (h0 : j ≠ 0) (h : X * pw A j.natAbs = T) (hj : j.natAbs ≤ n.natAbs) (hr : j.tmod 2 = r) (hd : j.tdiv 2 = d) :
    d.natAbs ≤ n.natAbs ∧ d.natAbs < j.natAbs ∧ (r = 0 → X * pw (A * A) d.natAbs = T) ∧ (r ≠ 0 → X * A * pw (A * A) d.natAbs = T) := by
  have e1 : d.natAbs = j.natAbs / 2 := by rw [← hd]; simp [Int.natAbs_tdiv]; rfl
  have e2 : r.natAbs = j.natAbs % 2 := by rw [← hr]; simp [Int.natAbs_tmod]
  have hs := pow_step A j.natAbs
  rw [← e1] at hs
  refine ⟨by omega, by omega, fun hr0 => ?_, fun hr0 => ?_⟩
  · rw [← h, hs, if_neg (by omega)]; grind
  · rw [← h, hs, if_pos (by omega)]; grind
set_option maxRecDepth 100000 in
set_option maxHeartbeats 1000000 in
theorem rpow_nn (p : Nat) [NeZero p] (hp1 : 2 ≤ p) (hp2 : p ≤ 2147483647) (m n : Int) (hm : I64 m) (hn : I64 n) (h0 : 0 ≤ n) (w : World) :
    Calls Tryz.prog 58 #[vi p, vi m, vi n] w fun e w' => e = .returned (vi (fv (pw (el p m) n.natAbs))) ∧ w = w' := by
  have h1 := fv_nonneg (el p m)
  have h2 := fv_lt (el p m)
  go_enter Tryz.func58, Tryz.ntmps58
  go_wp2_with (go_at_call 14; refine (rof_any p hp2 m hm _).mono ?_; rintro e w' ⟨rfl, rfl⟩)
  go_loop [1, 2, 7] (fun a n' x => RPow (pw (el p m) n.natAbs) n a x n') (fun _ n' _ => (intOf n').natAbs)
  case atStart => exact ⟨n, el p m, 1, Nat.le_refl _, hn, rfl, by rw [fv_one hp1], rfl, by grind⟩
  case round =>
    obtain ⟨j, A, X, hj, ij, rfl, rfl, rfl, hX⟩ := hrel
    obtain ⟨h5, h6⟩ := mul_bd X A hp2
    obtain ⟨h7, h8⟩ := mul_bd A A hp2
    have hX' := Lib.hid hX
    clear hX
    by_cases h0 : j = 0
    · subst h0
      go_wp2
      go_ret
      exact ⟨ret_int (by rw [← hX'.out]; simp only [Int.natAbs_zero, pw_zero]; congr 1; grind), rfl⟩
    · have t0 : (j != 0) = true := by rw [bne_iff_ne]; exact h0
      obtain ⟨r, hr⟩ : ∃ r, j.tmod 2 = r := ⟨_, rfl⟩
      obtain ⟨d, hd⟩ : ∃ d, j.tdiv 2 = d := ⟨_, rfl⟩
      obtain ⟨s1, s2, s3, s4⟩ := RPow.step h0 hX'.out hj hr hd
      have hnn : n.natAbs ≤ 9223372036854775808 := by obtain ⟨_, _⟩ := hn; omega
      obtain ⟨ij1, ij2⟩ := ij
      have id1 : -9223372036854775807 ≤ d := by omega
      have id2 : d ≤ 9223372036854775807 := by omega
      clear hnn
      by_cases hr0 : r = 0
      · have t1 : (r != 0) = false := by simpa using hr0
        have S := Lib.hid (s3 hr0)
        have S1 := Lib.hid s1
        have S2 := Lib.hid s2
        clear s1 s2 s3 s4 hr0 h0
        go_wp2
        go_round
        case rel => exact ⟨d, A * A, X, S1.out, ⟨by omega, id2⟩, by rw [fv_mul], rfl, rfl, S.out⟩
        case measure => exact S2.out
      · have t1 : (r != 0) = true := by rw [bne_iff_ne]; exact hr0
        have S := Lib.hid (s4 hr0)
        have S1 := Lib.hid s1
        have S2 := Lib.hid s2
        clear s1 s2 s3 s4 hr0 h0
        go_wp2
        go_round
        case rel => exact ⟨d, A * A, X * A, S1.out, ⟨by omega, id2⟩, by rw [fv_mul], by rw [fv_mul], rfl, S.out⟩
        case measure => exact S2.out
end Go.Proofs.YtpkhcncempoohaaGreatDoor

namespace Go.Proofs.YtpkhcncempoohaaGreatDoor
open Go.RowKit
def TB (w : World) (A0 : Option Addr) (ts : List (List Int)) : Prop :=
  ∀ k (hk : k < ts.length), ∃ ad A n c, A0 = some ad ∧ (ad.add k).block < w.heap.size ∧ w.cell? (ad.add k) = some (.slice A n c) ∧ ts[k].length = n ∧ n < 9223372036854775808 ∧ SL w A ts[k] ∧ ∀ x ∈ ts[k], I64 x
theorem TB.below {w w' : World} {A0 : Option Addr} {ts : List (List Int)} (h : TB w A0 ts) (hb : Below w.heap.size w w') : TB w' A0 ts := fun k hk => by
  obtain ⟨ad, A, n, c, h1, h2, h3, h4, h5, h6, h7⟩ := h k hk
  exact ⟨ad, A, n, c, h1, Nat.lt_of_lt_of_le h2 hb.size, (hb.cell h2).trans h3, h4, h5, h6.below hb, h7⟩
theorem TB.drewN {w : World} {A0 : Option Addr} {ts : List (List Int)} (h : TB w A0 ts) (m : Nat) : TB (w.drewN m) A0 ts := h
end Go.Proofs.YtpkhcncempoohaaGreatDoor

namespace Go.Proofs.YtpkhcncempoohaaGreatDoor
open Go.RowKit
structure ArgS (w : World) (A : Option Addr) (n c : Nat) (xs : List Int) : Prop where
  len : xs.length = n
  cap : n ≤ c
  i64 : ∀ x ∈ xs, I64 x
  reach : c * 8 ≤ 140737488351232
  sl : SL w A xs
theorem ArgS.nil (w : World) : ArgS w none 0 0 [] := ⟨rfl, Nat.le_refl _, by simp, by omega, SL.nil⟩
theorem i64_of_wf {n : Int} (h : (Lit.int .i64 n).wf = true) : I64 n := by
  simpa [Lit.wf, IntKind.min, IntKind.max, IntKind.signed, IntKind.bits] using h
theorem ArgS.mk_ {w : World} {a : Addr} {len cap : Nat} {zs : List Int} (hl : len ≤ cap) (hm : cap ≤ maxLen) (hz : zs.length = cap) (lt : ∀ q ∈ MemPlace.row a zs.length, q.block < w.heap.size)
    (hcell : ∀ i, i < zs.length → w.cell? (a.add i) = some (.int .i64 (zs.getD i 0))) (hwz : ∀ n ∈ zs, (Lit.int .i64 n).wf = true) (hb : cap * 8 ≤ 140737488351232) : ArgS w (some a) len cap (zs.take len) := by
  have hlen : (zs.take len).length = len := by rw [List.length_take, hz]; omega
  refine ⟨hlen, hl, fun x hx => i64_of_wf (hwz x (List.mem_of_mem_take hx)), hb, ?_⟩
  refine ⟨by simp, fun hn => ⟨a, rfl, ?_, fun j u hu => ?_⟩⟩
  · have h0 : 0 < zs.length := by rw [hlen] at hn; omega
    have hc0 := hcell 0 h0
    have : (a.add 0).block < w.heap.size := by
      false_or_by_contra
      rename_i hge
      rw [World.cell?, Array.getElem?_eq_none (by omega)] at hc0
      cases hc0
    rwa [block_of_add] at this
  · rw [List.getElem?_map] at hu
    cases hj : (zs.take len)[j]? with
    | none => rw [hj] at hu; cases hu
    | some x =>
      rw [hj] at hu
      injection hu with hu
      rw [List.getElem?_take] at hj
      split at hj
      · have hjl : j < zs.length := (List.getElem?_eq_some_iff.1 hj).1
        rw [hcell j hjl, ← hu]
        simp [List.getD_eq_getElem?_getD, hj]
      · cases hj
section
variable {w w' : World} {A : Option Addr} {n c : Nat} {xs : List Int}
theorem ArgS.below (h : ArgS w A n c xs) (hb : Below w.heap.size w w') : ArgS w' A n c xs := ⟨h.len, h.cap, h.i64, h.reach, h.sl.below hb⟩
theorem ArgS.r8 (h : ArgS w A n c xs) : xs.length * 8 ≤ 140737488351232 := by
  have := h.reach
  have := h.cap
  have := h.len
  omega
end
end Go.Proofs.YtpkhcncempoohaaGreatDoor

namespace Go.Proofs.YtpkhcncempoohaaGreatDoor
open Go.RowKit
theorem info_ints : (Tryz.prog.info? 26).map (fun i => (i.zero, i.size, i.bytes)) = some (some (.slice none 0 0), 1, 24) := by kernel_rfl
abbrev OwnR (w : World) (base : Nat) (v : Value) (us : List Value) : Prop := w.ownsRow base 26 1 v us.length us
def RowsOwn (w : World) (base : Nat) (us : List Value) (ls : List (List Int)) : Prop := us.length = ls.length ∧ ∀ k (h : k < us.length) (h' : k < ls.length), Own w base us[k] ls[k]
theorem own_ne {w : World} {base base' : Nat} {v u : Value} {xs : List Int} {us : List Value} (h : Own w base v xs) (k : OwnR w base' u us) : v.ownBlock = none ∨ v.ownBlock ≠ u.ownBlock := by
  rcases h.2 with ⟨rfl, _⟩ | ⟨g, cap, cur, rfl, _, hg, _⟩
  · exact .inl rfl
  · refine .inr ?_
    rcases k.2 with ⟨rfl, _⟩ | ⟨g', cap', cur', rfl, _, hg', _⟩
    · intro e; cases e
    · intro e
      injection e with e
      subst e
      rw [hg] at hg'
      injection hg' with hg'
      injection hg' with _ ht
      exact absurd ht (by decide)
structure GrewR (w w' : World) (base : Nat) (v v' : Value) (us : List Value) : Prop where
  own : OwnR w' base v' us
  grown : w.grownBy w' v.ownBlock
theorem GrewR.below {w0 w w' : World} {base : Nat} {v v' : Value} {us vs : List Value} (h : GrewR w w' base v v' us) {B : Nat} (hb : Below B w0 w) (ho : OwnR w base v vs) (hB : B ≤ base) (hs : B ≤ w.heap.size) : Below B w0 w' :=
  hb.grown h.grown hs (fun k hk => Nat.le_trans hB (World.ownsRow.lt ho k hk).1)
theorem GrewR.rows {w w' : World} {base base2 : Nat} {v v' : Value} {us vs ws : List Value} {ls : List (List Int)} (h : GrewR w w' base v v' us) (ho : OwnR w base v vs) (hr : RowsOwn w base2 ws ls) : RowsOwn w' base2 ws ls :=
  ⟨hr.1, fun k h1 h2 => (hr.2 k h1 h2).grown h.grown (own_ne (hr.2 k h1 h2) ho)⟩
theorem run_appR (w : World) (base : Nat) (v : Value) (us : List Value) (A : Option Addr) (n c : Nat) (hown : OwnR w base v us) (hlen : us.length < 5864062014805) (hbase : base ≤ w.heap.size) (ty : TypeId) :
    ∃ v' w', (Builtin.append_ #[25, 25] ty #[v, .slice (some ⟨w.heap.size, 0, none⟩) 1 1]).run Tryz.prog (w.alloc (.cells #[.slice A n c] 26)) = .ok v' w' ∧ GrewR w w' base v v' (us ++ [.slice A n c]) := by
  obtain ⟨i0, hi, hz0, hz1, hz2⟩ := info_parts info_ints
  obtain ⟨v', w', hrun, h2, h3, _, h5⟩ := run_append_own_at (P := Tryz.prog) (w.alloc (.cells #[.slice A n c] 26)) base 25 ty 26 i0 _ 1 24 Tryz.underlying25 hi hz0 hz1 hz2 rfl (by omega)
    v us.length us (hown.alloc _) ⟨w.heap.size, 0, none⟩ 1 1 [.slice A n c] rfl (by
      intro j u hj
      match j, hj with
      | 0, hj => simp at hj; subst hj; simp [Addr.add]) (by simp [Value.oneCell']) (by simp only [maxLen]; omega) (by omega) (by simp; omega)
  refine ⟨v', w', hrun, ?_, grownBy_trans (World.grownBy_alloc w _ _) h3⟩
  have e : (us ++ [Value.slice A n c]).length = us.length + 1 := by simp
  rw [OwnR, e]
  exact h2
theorem wpList_appR {ops : Array Oper} {rest : List Oper} {o : Oper} {a : Act} {Q : Exit → Act → World → Prop} (w : World) (A : Option Addr) (n c : Nat) (hgd : o.guard = none) (s x : Operand)
    (ho : o.op = .call { callee := .builtin .append, args := #[s, x], argTypes := #[25, 25] })
    (base : Nat) (v : Value) (us : List Value) (hs : a.eval s = v) (hx : a.eval x = .slice (some ⟨w.heap.size, 0, none⟩) 1 1) (hown : OwnR w base v us) (hlen : us.length < 5864062014805) (hbase : base ≤ w.heap.size)
    (h : ∀ v' w', GrewR w w' base v v' (us ++ [.slice A n c]) → wpList Tryz.prog ops Q rest (a.put o.dst v') w') : wpList Tryz.prog ops Q (o :: rest) a (w.alloc (.cells #[.slice A n c] 26)) :=
  wpList_plain hgd fun _ hK => by
    obtain ⟨v', w', hrun, hg⟩ := run_appR w base v us A n c hown hlen hbase o.type
    unfold Oper.wp execOp
    simp only [ho, resolve, invoke, builtin, Sem.run_bind, Sem.run_pure, Result.andThen_ok, List.map_toArray, List.map_cons, List.map_nil, hs, hx, hrun]
    exact hK _ _ (h v' w' hg)
theorem RowsOwn.nil (w : World) (base : Nat) : RowsOwn w base [] [] := ⟨rfl, fun k h => absurd h (by simp)⟩
theorem RowsOwn.snoc {w : World} {base : Nat} {us : List Value} {ls : List (List Int)} {u : Value} {l : List Int} (h : RowsOwn w base us ls) (hu : Own w base u l) : RowsOwn w base (us ++ [u]) (ls ++ [l]) := by
  have hl := h.1
  refine ⟨by simp [hl], fun k h1 h2 => ?_⟩
  by_cases hk : k < us.length
  · rw [List.getElem_append_left hk, List.getElem_append_left (by omega)]
    exact h.2 k hk (by omega)
  · have e : k = us.length := by simp at h1; omega
    subst e
    rw [List.getElem_append_right (Nat.le_refl _), List.getElem_append_right (by omega)]
    simpa [hl] using hu
theorem RowsOwn.below {w w' : World} {base : Nat} {us : List Value} {ls : List (List Int)} (h : RowsOwn w base us ls) (hb : Below w.heap.size w w') : RowsOwn w' base us ls := ⟨h.1, fun k h1 h2 => (h.2 k h1 h2).below hb⟩
theorem RowsOwn.more {w : World} {base base' : Nat} {us : List Value} {ls : List (List Int)} (h : RowsOwn w base us ls) (hb : base' ≤ base) : RowsOwn w base' us ls := ⟨h.1, fun k h1 h2 => (h.2 k h1 h2).more hb⟩
theorem ownR_shape {w : World} {base : Nat} {v : Value} {us : List Value} (h : OwnR w base v us) : ∃ A n c, v = .slice A n c ∧ us.length = n ∧ n ≤ c := by
  rcases h.2 with ⟨rfl, h0⟩ | ⟨g, cap, cur, rfl, _, _, h1, _⟩
  · exact ⟨none, 0, 0, rfl, h0, Nat.le_refl _⟩
  · exact ⟨_, _, _, rfl, rfl, h1⟩
structure ArgM (w : World) (A : Option Addr) (n c : Nat) (ts : List (List Int)) : Prop where
  len : ts.length = n
  cap : n ≤ c
  max : c ≤ 9223372036854775807
  tb : TB w A ts
theorem ArgM.nil (w : World) : ArgM w none 0 0 [] := ⟨rfl, Nat.le_refl _, by omega, fun k hk => absurd hk (by simp)⟩
theorem ArgM.mk_ {w : World} {a : Addr} {len cap : Nat} {A : Nat → Option Addr} {L C : Nat → Nat} {Z : Nat → List Int} (hl : len ≤ cap) (hm : cap ≤ maxLen)
    (h : ∀ r, r < cap → w.cell? (a.add r) = some (.slice (A r) (L r) (C r)) ∧ L r ≤ C r ∧ C r ≤ maxLen ∧ (Z r).length = C r ∧ (∀ n ∈ Z r, (Lit.int .i64 n).wf = true) ∧ (A r = none → C r = 0) ∧
        ∀ a', A r = some a' → 0 ≤ a'.block ∧ ∀ c, c < C r → w.cell? (a'.add c) = some (.int .i64 ((Z r).getD c 0))) :
    ArgM w (some a) len cap ((List.range len).map fun r => (Z r).take (L r)) := by
  have hmm : maxLen ≤ 9223372036854775807 := by simp [maxLen]
  refine ⟨by simp, hl, by omega, fun k hk => ?_⟩
  have hk' : k < len := by simpa using hk
  obtain ⟨h1, h2, h3, h4, h5, h6, h7⟩ := h k (by omega)
  have e : ((List.range len).map fun r => (Z r).take (L r))[k] = (Z k).take (L k) := by simp
  rw [e]
  have hlen : ((Z k).take (L k)).length = L k := by rw [List.length_take, h4]; omega
  refine ⟨a, A k, L k, C k, rfl, block_lt_of_cell h1, h1, hlen, by omega, ⟨by simp, fun hn => ?_⟩, fun x hx => i64_of_wf (h5 x (List.mem_of_mem_take hx))⟩
  rw [hlen] at hn
  cases hA : A k with
  | none => have := h6 hA; omega
  | some a' =>
    obtain ⟨_, h8⟩ := h7 a' hA
    have hc0 := h8 0 (by omega)
    refine ⟨a', rfl, ?_, fun j u hu => ?_⟩
    · have := block_lt_of_cell hc0
      rwa [block_of_add] at this
    · rw [List.getElem?_map] at hu
      cases hj : ((Z k).take (L k))[j]? with
      | none => rw [hj] at hu; cases hu
      | some x =>
        rw [hj] at hu
        injection hu with hu
        rw [List.getElem?_take] at hj
        split at hj
        · have hjl : j < (Z k).length := (List.getElem?_eq_some_iff.1 hj).1
          rw [h8 j (by omega), ← hu]
          simp [List.getD_eq_getElem?_getD, hj]
        · cases hj
end Go.Proofs.YtpkhcncempoohaaGreatDoor

namespace Go.Proofs.YtpkhcncempoohaaGreatDoor
open Go.RowKit
theorem run_appS (t e : TypeId) (z : Value) (sz by_ : Nat) (ht : Tryz.prog.underlying t = some (.slice e)) (hinf : (Tryz.prog.info? e).map (fun i => (i.zero, i.size, i.bytes)) = some (some z, sz, by_)) (hzs : z.cells.size = sz) (hsz : 0 < sz)
    (w : World) (news : List Value) (hnl : news.length = sz) (hone : ∀ u ∈ news, u.oneCell' = true) (base : Nat) (v : Value) (n : Nat) (xs : List Value) (hown : w.ownsRow base e sz v n xs) (h63 : n + 1 ≤ maxLen) (hby : (n + 1) * by_ ≤ 140737488355328) (hbase : base ≤ w.heap.size) (ty : TypeId) :
    ∃ v' w', (Builtin.append_ #[t, t] ty #[v, .slice (some ⟨w.heap.size, 0, none⟩) 1 1]).run Tryz.prog (w.alloc (.cells news.toArray e)) = .ok v' w' ∧ w'.ownsRow base e sz v' (n + 1) (xs ++ news) ∧ w.grownBy w' v.ownBlock ∧ (v'.ownBlock = v.ownBlock ∨ ∃ k, v'.ownBlock = some k ∧ w.heap.size ≤ k) := by
  obtain ⟨i0, hi, hz0, hz1, hz2⟩ := info_parts hinf
  obtain ⟨v', w', hrun, h2, h3, _, h5⟩ := run_append_own_at (P := Tryz.prog) (w.alloc (.cells news.toArray e)) base t ty e i0 _ sz by_ ht hi hz0 hz1 hz2 hzs hsz
    v n xs (World.ownsRow.kept hown (World.grownBy_alloc w _ none) (by
      rcases hv : Value.ownBlock v with _ | g
      · exact .inl rfl
      · exact .inr (by simp))) ⟨w.heap.size, 0, none⟩ 1 1 news (by rw [hnl, Nat.one_mul]) (by
      intro j u hj
      have e : (⟨w.heap.size, 0, none⟩ : Addr).add j = ⟨w.heap.size, j, none⟩ := by
        unfold Addr.add
        split
        · rename_i h0; subst h0; rfl
        · simp
      rw [e, (Blk.new w _ _).cell, List.getElem?_toArray]
      exact hj) hone h63 hby (by simp; omega)
  refine ⟨v', w', hrun, h2, grownBy_trans (World.grownBy_alloc w _ _) h3, ?_⟩
  rcases h5 with h | h
  · exact .inl h
  · exact .inr ⟨_, h, by simp⟩
theorem wpList_appS {ops : Array Oper} {rest : List Oper} {o : Oper} {a : Act} {Q : Exit → Act → World → Prop} (t e : TypeId) (z : Value) (sz by_ : Nat) (ht : Tryz.prog.underlying t = some (.slice e)) (hinf : (Tryz.prog.info? e).map (fun i => (i.zero, i.size, i.bytes)) = some (some z, sz, by_)) (hzs : z.cells.size = sz) (hsz : 0 < sz)
    (w W : World) (news : List Value) (hW : W = w.alloc (.cells news.toArray e)) (hnl : news.length = sz) (hone : ∀ u ∈ news, u.oneCell' = true) (hgd : o.guard = none) (s x : Operand) (ho : o.op = .call { callee := .builtin .append, args := #[s, x], argTypes := #[t, t] })
    (base : Nat) (v : Value) (n : Nat) (xs : List Value) (hs : a.eval s = v) (hx : a.eval x = .slice (some ⟨w.heap.size, 0, none⟩) 1 1) (hown : w.ownsRow base e sz v n xs) (h63 : n + 1 ≤ maxLen) (hby : (n + 1) * by_ ≤ 140737488355328) (hbase : base ≤ w.heap.size)
    (h : ∀ v' w', w'.ownsRow base e sz v' (n + 1) (xs ++ news) → w.grownBy w' v.ownBlock → (v'.ownBlock = v.ownBlock ∨ ∃ k, v'.ownBlock = some k ∧ w.heap.size ≤ k) → wpList Tryz.prog ops Q rest (a.put o.dst v') w') : wpList Tryz.prog ops Q (o :: rest) a W := by
  subst hW
  exact wpList_plain hgd fun _ hK => by
    obtain ⟨v', w', hrun, h1, h2, h3⟩ := run_appS t e z sz by_ ht hinf hzs hsz w news hnl hone base v n xs hown h63 hby hbase o.type
    unfold Oper.wp execOp
    simp only [ho, resolve, invoke, builtin, Sem.run_bind, Sem.run_pure, Result.andThen_ok, List.map_toArray, List.map_cons, List.map_nil, hs, hx, hrun]
    exact hK _ _ (h v' w' h1 h2 h3)
end Go.Proofs.YtpkhcncempoohaaGreatDoor

namespace Go.Proofs.YtpkhcncempoohaaGreatDoor
open Go.RowKit Zp
theorem addQ (g i : Nat) : (⟨g, 0, none⟩ : Addr).add i = ⟨g, i, none⟩ := by
  by_cases h : i = 0
  · subst h; rfl
  · simp [Addr.add, h]
def cellsQ {p : Nat} (L : List (Fin p × Fin p)) : List Value := L.flatMap fun q => [vi (fv q.1), vi (fv q.2)]
theorem cellsQ_len {p : Nat} (L : List (Fin p × Fin p)) : (cellsQ L).length = L.length * 2 := by
  induction L with
  | nil => rfl
  | cons q L ih => simp only [cellsQ, List.flatMap_cons, List.length_append, List.length_cons, List.length_nil] at ih ⊢; omega
theorem cellsQ_snoc {p : Nat} (L : List (Fin p × Fin p)) (q : Fin p × Fin p) : cellsQ (L ++ [q]) = cellsQ L ++ [vi (fv q.1), vi (fv q.2)] := by simp [cellsQ]
theorem cellsQ_at {p : Nat} : ∀ (L : List (Fin p × Fin p)) (k : Nat) (h : k < L.length), (cellsQ L)[2 * k]? = some (vi (fv L[k].1)) ∧ (cellsQ L)[2 * k + 1]? = some (vi (fv L[k].2)) := by
  intro L
  induction L with
  | nil => intro k h; simp at h
  | cons q L ih =>
    intro k h
    cases k with
    | zero => exact ⟨rfl, rfl⟩
    | succ k =>
      have h1 := ih k (by simpa using h)
      refine ⟨?_, ?_⟩
      · rw [show 2 * (k + 1) = 2 * k + 1 + 1 by omega]; exact h1.1
      · rw [show 2 * (k + 1) + 1 = 2 * k + 1 + 1 + 1 by omega]; exact h1.2
def entR (rows : List (List Int)) (i c : Nat) : Int := (rows.getD i []).getD c 0
theorem entR_at {rows : List (List Int)} {i c : Nat} (hi : i < rows.length) (hc : c < rows[i].length) : entR rows i c = rows[i][c] := by
  have e : rows.getD i [] = rows[i] := by rw [List.getD_eq_getElem?_getD, List.getElem?_eq_getElem hi]; rfl
  unfold entR
  rw [e, List.getD_eq_getElem?_getD, List.getElem?_eq_getElem hc]
  rfl
def pairsL (p : Nat) [NeZero p] (rows : List (List Int)) (a v k : Nat) : List (Fin p × Fin p) := (List.range k).map fun j => (el p (entR rows (j / 4) (a + j % 4)), el p (entR rows (j / 4) (v + j % 4)))
theorem pairsL_len (p : Nat) [NeZero p] (rows : List (List Int)) (a v k : Nat) : (pairsL p rows a v k).length = k := by simp [pairsL]
theorem pairsL_succ (p : Nat) [NeZero p] (rows : List (List Int)) (a v i j : Nat) (hj : j < 4) : pairsL p rows a v (4 * i + (j + 1)) = pairsL p rows a v (4 * i + j) ++ [(el p (entR rows i (a + j)), el p (entR rows i (v + j)))] := by
  unfold pairsL
  rw [show 4 * i + (j + 1) = (4 * i + j) + 1 by omega, List.range_succ, List.map_append]
  simp only [List.map_cons, List.map_nil]
  rw [show (4 * i + j) / 4 = i by omega, show (4 * i + j) % 4 = j by omega]
theorem info_cell : (Tryz.prog.info? 62).map (fun i => (i.zero, i.size, i.bytes)) = some (some (.agg #[vi 0, vi 0]), 2, 16) := by kernel_rfl
theorem rnum_any (p : Nat) [NeZero p] (hp2 : p ≤ 2147483647) (x is y : Int) (hx : I64 x) (hi : I64 is) (hy : I64 y) (w : World) :
    Calls Tryz.prog 22 #[vi p, .agg #[vi x, vi is], vi y] w fun e w' => e = .returned (vi (fv (numP (el p y) (el p x, el p is)))) ∧ Below w.heap.size w w' := by
  have hb0 : Below w.heap.size w (w.alloc (.cells #[vi x, vi is] 62)) := (Below.refl _ _).alloc (Nat.le_refl _) _
  have hB0 := Blk.new w 62 #[vi x, vi is]
  obtain ⟨W0, hW0⟩ : ∃ W0, W0 = w.alloc (.cells #[vi x, vi is] 62) := ⟨_, rfl⟩
  rw [← hW0] at hb0 hB0
  have c0 := (hB0.cell 0).trans (show _ = some (vi x) from rfl)
  have c1 := (hB0.cell 1).trans (show _ = some (vi is) from rfl)
  have hm := fun W => rmul_any p hp2 is y hi hy W
  have ha := fun W => radd_any p hp2 (fv (el p is * el p y)) x (i64_fv _ hp2) hx W
  have he : fv (el p (fv (el p is * el p y)) + el p x) = fv (numP (el p y) (el p x, el p is)) := by
    rw [el_fv]
    unfold numP
    congr 1
    grind
  have HM := Lib.hid hm
  have HA := Lib.hid ha
  have HE := Lib.hid he
  have HW0 := Lib.hid hW0
  have HB0 := Lib.hid hb0
  clear hm ha he hW0 hb0 hB0
  go_enter Tryz.func22, Tryz.ntmps22
  go_upto_region 1 with (fail)
  rw [← HW0.out]
  go_wp2_with fail
  refine (HM.out _).mono ?_
  rintro _ _ ⟨rfl, rfl⟩
  go_wp2_with fail
  refine (HA.out _).mono ?_
  rintro _ _ ⟨rfl, rfl⟩
  rw [HE.out]
  go_wp2
  go_ret
  exact ⟨rfl, HB0.out⟩
def OwnQ {p : Nat} (w : World) (base : Nat) (v : Value) (L : List (Fin p × Fin p)) : Prop := w.ownsRow base 62 2 v L.length (cellsQ L)
theorem OwnQ.below {p : Nat} {w w' : World} {base : Nat} {v : Value} {L : List (Fin p × Fin p)} (h : OwnQ w base v L) (hb : Below w.heap.size w w') : OwnQ w' base v L :=
  World.ownsRow.kept h (⟨hb.os, hb.tape, hb.output, hb.size, fun k hk _ => hb.block k hk⟩ : w.grownBy w' none) (by
    rcases hq : v.ownBlock with _ | q
    · exact .inl rfl
    · exact .inr (by simp))
def MadeQ {p : Nat} (L : List (Fin p × Fin p)) (w : World) (e : Ending) (w' : World) : Prop := ∃ v, e = .returned v ∧ OwnQ w' w.heap.size v L ∧ Below w.heap.size w w'
set_option maxRecDepth 100000 in
set_option maxHeartbeats 2000000 in
theorem rpairs_any (p : Nat) [NeZero p] (hp2 : p ≤ 2147483647) (A : Option Addr) (n cA : Nat) (rows : List (List Int)) (hn : rows.length = n) (hn2 : n ≤ 65536) (a v : Nat) (ha : a ≤ 1000) (hv : v ≤ 1000) (hlen : ∀ l ∈ rows, a + 4 ≤ l.length ∧ v + 4 ≤ l.length) (w : World) (hT : TB w A rows) :
    Calls Tryz.prog 21 #[vi p, .slice A n cA, vi a, vi v] w (MadeQ (pairsL p rows a v (4 * n)) w) := by
  have HT := Lib.hid hT
  have HN := Lib.hid hn
  have HLN := Lib.hid hlen
  have HOF := Lib.hid (fun (x : Int) hx W => rof_any p hp2 x hx W)
  clear hT hn hlen
  go_enter Tryz.func21, Tryz.ntmps21
  go_wp2
  go_loopw [9, 10] (fun u i wr => ∃ k : Nat, k ≤ n ∧ i = vi k ∧ OwnQ wr w.heap.size u (pairsL p rows a v (4 * k)) ∧ Below w.heap.size w wr) (fun _ i _ => n - (intOf i).toNat)
  case atStart => exact ⟨0, Nat.zero_le _, rfl, World.ownsRow_nil _ _ _ _, Below.refl _ _⟩
  case round =>
    rename World => w1
    obtain ⟨k, hk, rfl, hO, hb⟩ := hrel
    by_cases hkn : k < n
    · have HO := Lib.hid (And.intro hO hb)
      clear hO hb
      go_wp2
      go_loopw [9, 11] (fun u j wr => ∃ m : Nat, m ≤ 4 ∧ j = vi m ∧ OwnQ wr w.heap.size u (pairsL p rows a v (4 * k + m)) ∧ Below w.heap.size w wr) (fun _ j _ => 4 - (intOf j).toNat)
      case atStart => exact ⟨0, Nat.zero_le _, rfl, HO.out.1, HO.out.2⟩
      case round =>
        rename World => w2
        obtain ⟨m, hm, rfl, hO2, hb2⟩ := hrel
        by_cases hm4 : m < 4
        · have hkr : k < rows.length := by rw [HN.out]; exact hkn
          obtain ⟨ad, A1, n1, c1, rfl, ha1, hc1, hl1, hn1, hs1, hi1⟩ := HT.out k hkr
          have hc2 := (hb2.cell ha1).trans hc1
          have hs2 := hs1.below hb2
          have hll := HLN.out _ (List.getElem_mem hkr)
          have h1 : a + m < rows[k].length := by omega
          have h2 : v + m < rows[k].length := by omega
          obtain ⟨ad1, rfl, _, cx⟩ := hs2.at_ h1
          obtain ⟨_, e2, _, cy⟩ := hs2.at_ h2
          injection e2 with e2
          subst e2
          have ex := entR_at hkr h1
          have ey := entR_at hkr h2
          have hix := hi1 _ (List.getElem_mem h1)
          have hiy := hi1 _ (List.getElem_mem h2)
          have hsn := pairsL_succ p rows a v k m hm4
          rw [ex, ey] at hsn
          have hl2 : a + m < n1 := by omega
          have hl3 : v + m < n1 := by omega
          obtain ⟨X, hX⟩ : ∃ X, X = rows[k][a + m] := ⟨_, rfl⟩
          obtain ⟨Y, hY⟩ : ∃ Y, Y = rows[k][v + m] := ⟨_, rfl⟩
          rw [← hX] at cx hix hsn
          rw [← hY] at cy hiy hsn
          have k1 : (0 : Int) ≤ (k : Int) := by omega
          have k2 : (k : Int) < (n : Int) := by omega
          have j1 : (0 : Int) ≤ (a : Int) + (m : Int) := by omega
          have j2 : (a : Int) + (m : Int) < (n1 : Int) := by omega
          have j3 : ((a : Int) + (m : Int)).toNat = a + m := by omega
          have j4 : IntKind.i64.wrap ((a : Int) + (m : Int)) = (a : Int) + (m : Int) := IntWalk.i64_in _ (by constructor <;> omega)
          have j5 : (0 : Int) ≤ (v : Int) + (m : Int) := by omega
          have j6 : (v : Int) + (m : Int) < (n1 : Int) := by omega
          have j7 : ((v : Int) + (m : Int)).toNat = v + m := by omega
          have j8 : IntKind.i64.wrap ((v : Int) + (m : Int)) = (v : Int) + (m : Int) := IntWalk.i64_in _ (by constructor <;> omega)
          have HX := Lib.hid (HOF.out X hix)
          have HY := Lib.hid (HOF.out Y hiy)
          have HSN := Lib.hid hsn
          have HO2 := Lib.hid (And.intro hO2 hb2)
          have hlen2 : (pairsL p rows a v (4 * k + m)).length = 4 * k + m := pairsL_len _ _ _ _ _
          have HL2 := Lib.hid hlen2
          obtain ⟨L, hL⟩ : ∃ L, L = pairsL p rows a v (4 * k + m) := ⟨_, rfl⟩
          have HLE := Lib.hid hL
          have hOL : w2.ownsRow w.heap.size 62 2 u9 L.length (cellsQ L) := by rw [hL]; exact hO2
          have hll2 : L.length ≤ 262144 := by rw [hL, hlen2]; omega
          have HOL := Lib.hid (And.intro hOL hll2)
          clear hO2 hb2 hs1 hs2 hc1 ha1 hi1 hll ex ey hix hiy hsn hX hY h1 h2 hl1 hlen2 hL hOL hll2 HO
          go_wp2_with fail
          refine (HX.out _).mono ?_
          rintro _ _ ⟨rfl, rfl⟩
          go_wp2_with fail
          refine (HY.out _).mono ?_
          rintro _ _ ⟨rfl, rfl⟩
          go_upto_region 7 with (at_builtin; refine wpList_appS 42 62 _ 2 16 Tryz.underlying42 info_cell (by rfl) (by omega) w2 _ [vi (fv (el p X)), vi (fv (el p Y))] (by rfl) (by rfl) (by simp [Value.oneCell']) (by rfl) _ _ (by rfl) w.heap.size u9 L.length (cellsQ L) (by rfl) (by rfl) HOL.out.1 (by have := HOL.out.2; simp only [maxLen]; omega) (by have := HOL.out.2; omega) HO2.out.2.size ?_; intro v5 w5 h51 h52 h53)
          have ho5 : OwnQ w5 w.heap.size v5 (pairsL p rows a v (4 * k + (m + 1))) := by
            unfold OwnQ
            rw [HSN.out, ← HLE.out, List.length_append, cellsQ_snoc]
            exact h51
          have hb5 : Below w.heap.size w w5 := HO2.out.2.grown h52 HO2.out.2.size (fun g hg => (World.ownsRow.lt HOL.out.1 g hg).1)
          have H5 := Lib.hid (And.intro ho5 hb5)
          clear ho5 hb5 h51 h52 h53
          go_wp2
          go_roundw
          case rel => exact ⟨m + 1, by omega, by go_num, H5.out.1, H5.out.2⟩
          case measure => simp only [intOf, Int.toNat_natCast]; omega
        · obtain rfl : m = 4 := by omega
          have HO2 := Lib.hid (And.intro hO2 hb2)
          clear hO2 hb2
          go_wp2
          go_roundw
          case rel => exact ⟨k + 1, by omega, by go_num, HO2.out.1, HO2.out.2⟩
          case measure => simp only [intOf, Int.toNat_natCast]; omega
    · obtain rfl : k = n := by omega
      have HO := Lib.hid (And.intro hO hb)
      clear hO hb
      go_wp2
      go_ret
      exact ⟨_, rfl, HO.out.1, HO.out.2⟩
end Go.Proofs.YtpkhcncempoohaaGreatDoor

namespace Go.Proofs.YtpkhcncempoohaaGreatDoor
open Go.RowKit Zp
def FitsN (p n L : Nat) : Prop := n ∈ [4, 8, 16, 32, 64, 128, 256, 512] ∧ 8 * n ∣ p - 1 ∧ 8 * n < p - 1 ∧ 1 ≤ L ∧ L ≤ 64 ∧ L ≤ p
def FitsIs (p n L : Nat) (w : World) (e : Ending) (w' : World) : Prop := ∃ b : Bool, e = .returned (.bool b) ∧ (b = true → FitsN p n L) ∧ Below w.heap.size w w'
set_option maxRecDepth 100000 in
set_option maxHeartbeats 2000000 in
theorem rfits_any (p : Nat) (hp1 : 3 ≤ p) (hp2 : p ≤ 2147483647) (size : Int) (AI : Option Addr) (L cL : Nat) (n : Nat) (hn : n ≤ 140737488355328) (hL : L ≤ 140737488355328) (w : World) :
    Calls Tryz.prog 6 #[vi p, .agg #[vi size, .slice AI L cL], vi n] w (FitsIs p n L w) := by
  have hb0 : Below w.heap.size w (w.alloc (.cells #[vi size, .slice AI L cL] 24)) := (Below.refl _ _).alloc (Nat.le_refl _) _
  have hB0 := Blk.new w 24 #[vi size, .slice AI L cL]
  obtain ⟨W0, hW0⟩ : ∃ W0, W0 = w.alloc (.cells #[vi size, .slice AI L cL] 24) := ⟨_, rfl⟩
  rw [← hW0] at hb0 hB0
  have c1 := (hB0.cell 1).trans (show _ = some (Value.slice AI L cL) from rfl)
  have HC1 := Lib.hid (And.intro c1 (And.intro hb0 hB0.lt))
  have HW0 := Lib.hid hW0
  clear hb0 hB0 c1 hW0
  go_enter Tryz.func6, Tryz.ntmps6
  go_upto_region 1 with (fail)
  rw [← HW0.out]
  go_wp2
  go_loopw [7, 8] (fun u i wr => ∃ (b : Bool) (k : Nat), u = .bool b ∧ i = vi k ∧ k ∈ [4, 8, 16, 32, 64, 128, 256, 512, 1024] ∧ (b = true → n ∈ [4, 8, 16, 32, 64, 128, 256, 512]) ∧ Below W0.heap.size W0 wr) (fun _ i _ => 1024 - (intOf i).toNat)
  case atStart => exact ⟨false, 4, rfl, rfl, by simp, (fun h => (by cases h)), Below.refl _ _⟩
  case round =>
    rename World => w1
    obtain ⟨b, k, rfl, rfl, hk, hbn, hb⟩ := hrel
    by_cases h5 : k ≤ 512
    · have h5' : (k : Int) ≤ 512 := by omega
      have k4 : 4 ≤ k := by simp at hk; omega
      have hk2 : k * 2 ∈ [4, 8, 16, 32, 64, 128, 256, 512, 1024] := by
        simp at hk
        rcases hk with rfl | rfl | rfl | rfl | rfl | rfl | rfl | rfl | rfl <;> first | decide | omega
      have hk5 : k ∈ [4, 8, 16, 32, 64, 128, 256, 512] := by
        simp at hk
        rcases hk with rfl | rfl | rfl | rfl | rfl | rfl | rfl | rfl | rfl <;> first | decide | omega
      have HK := Lib.hid (And.intro hk2 (And.intro hk5 (And.intro hbn hb)))
      clear hk2 hk5 hbn hb hk
      cases b with
      | true =>
        go_wp2
        go_roundw
        case rel => exact ⟨true, k * 2, rfl, by go_num, HK.out.1, HK.out.2.2.1, HK.out.2.2.2⟩
        case measure => simp only [intOf]; omega
      | false =>
        by_cases e : k = n
        · have e' : ((k : Int) == (n : Int)) = true := by simp [e]
          go_wp2
          go_roundw
          case rel => exact ⟨true, k * 2, rfl, by go_num, HK.out.1, fun _ => e ▸ HK.out.2.1, HK.out.2.2.2⟩
          case measure => simp only [intOf]; omega
        · have e' : ((k : Int) == (n : Int)) = false := by simp; omega
          go_wp2
          go_roundw
          case rel => exact ⟨false, k * 2, rfl, by go_num, HK.out.1, (fun h => (by cases h)), HK.out.2.2.2⟩
          case measure => simp only [intOf]; omega
    · have h5' : ¬ (k : Int) ≤ 512 := by omega
      have cl := (hb.cell (p := ⟨w.heap.size, 1, none⟩) HC1.out.2.2).trans HC1.out.1
      have hbw := HC1.out.2.1.trans (hb.mono HC1.out.2.1.size)
      have HB := Lib.hid (And.intro hbn hbw)
      clear hbn hb hbw hk
      cases b with
      | false =>
        go_wp2
        go_ret
        exact ⟨false, rfl, (fun h => (by cases h)), HB.out.2⟩
      | true =>
        have hnm := HB.out.1 rfl
        have hn5 : 4 ≤ n ∧ n ≤ 512 := by simp at hnm; omega
        have HNM := Lib.hid hnm
        clear hnm
        have n0 : ((8 : Int) * (n : Int)) ≠ 0 := by omega
        have i8 : I64 (8 * (n : Int)) := by constructor <;> omega
        have hm' : ((p : Int) - 1) % (8 * (n : Int)) = 0 → 8 * n ∣ p - 1 := fun e => by
          have h0 := Int.dvd_of_emod_eq_zero e
          have : ((8 * n : Nat) : Int) ∣ ((p - 1 : Nat) : Int) := by
            rw [show ((p - 1 : Nat) : Int) = (p : Int) - 1 by omega, show ((8 * n : Nat) : Int) = 8 * (n : Int) by omega]
            exact h0
          exact Int.natCast_dvd_natCast.1 this
        have HM := Lib.hid hm'
        clear hm'
        have HW := Lib.hid HB.out.2
        clear HB
        go_wp2
        all_goals go_ret
        all_goals first
          | exact ⟨false, rfl, (fun h => (by cases h)), HW.out⟩
          | exact ⟨decide (L ≤ p), rfl, fun h => ⟨HNM.out, HM.out (by assumption), by omega, by omega, by omega, of_decide_eq_true h⟩, HW.out⟩
end Go.Proofs.YtpkhcncempoohaaGreatDoor

namespace Go.Proofs.YtpkhcncempoohaaGreatDoor
open Go.RowKit Zp
theorem FitsN.n {p n L : Nat} (h : FitsN p n L) : 4 ≤ n ∧ n ≤ 512 ∧ ∃ k, k ≤ 9 ∧ n = 2 ^ k := by
  have := h.1
  simp only [List.mem_cons, List.not_mem_nil, or_false] at this
  rcases this with rfl | rfl | rfl | rfl | rfl | rfl | rfl | rfl <;> refine ⟨by omega, by omega, ?_⟩
  all_goals first | exact ⟨2, by omega, rfl⟩ | exact ⟨3, by omega, rfl⟩ | exact ⟨4, by omega, rfl⟩ | exact ⟨5, by omega, rfl⟩ | exact ⟨6, by omega, rfl⟩ | exact ⟨7, by omega, rfl⟩ | exact ⟨8, by omega, rfl⟩ | exact ⟨9, by omega, rfl⟩
theorem FitsN.fit {p n L : Nat} [NeZero p] (hp : IsPrime p) (h : FitsN p n L) : FitN p n := ⟨hp, by have := h.n; omega, h.2.1, h.2.2.1⟩
theorem FitsN.size {p n L : Nat} (h : FitsN p n L) : SizeOk p n := by
  obtain ⟨_, _, k, hk, e⟩ := h.n
  exact ⟨⟨k, by omega, e⟩, Nat.dvd_trans ⟨8, by omega⟩ h.2.1⟩
theorem FitsN.size8 {p n L : Nat} (h : FitsN p n L) : SizeOk p (8 * n) := by
  obtain ⟨_, _, k, hk, e⟩ := h.n
  exact ⟨⟨k + 3, by omega, by rw [e, Nat.pow_add]; omega⟩, h.2.1⟩
structure PL (w : World) (P b p n : Nat) [NeZero p] (size : Int) (AI : Option Addr) (L cI : Nat) (E D : Nat) : Prop where
  blk : Blk w P 130 #[.pointer (some ⟨b, 0, none⟩), vi size, .slice AI L cI, vi n, .pointer (some ⟨E, 0, none⟩), .pointer (some ⟨D, 0, none⟩)]
  de : ∃ S, Dom w S E b p n 1
  dd : ∃ S, Dom w S D b p (8 * n) (genE p)
theorem PL.below {w w' : World} {P b p n : Nat} [NeZero p] {size : Int} {AI : Option Addr} {L cI E D : Nat} (h : PL w P b p n size AI L cI E D) (hb : Below w.heap.size w w') : PL w' P b p n size AI L cI E D := by
  obtain ⟨S, h1⟩ := h.de
  obtain ⟨S', h2⟩ := h.dd
  exact ⟨h.blk.below hb h.blk.lt, ⟨S, h1.below hb h1.le⟩, ⟨S', h2.below hb h2.le⟩⟩
def FitP (b p n : Nat) [NeZero p] (size : Int) (AI : Option Addr) (L cI : Nat) (w : World) (e : Ending) (w' : World) : Prop := ∃ P E D, e = .returned (.tuple #[.pointer (some ⟨P, 0, none⟩), .bool true]) ∧ PL w' P b p n size AI L cI E D ∧ Below w.heap.size w w' ∧ w.heap.size ≤ P
set_option maxHeartbeats 4000000 in
theorem fit_any (S b p n : Nat) [NeZero p] (size : Int) (AI : Option Addr) (L cI : Nat) (hf : FitsN p n L) (w : World) (F : Fld w S b p) :
    Calls Tryz.prog 27 #[.pointer (some ⟨b, 0, none⟩), .agg #[vi size, .slice AI L cI], vi n] w (FitP b p n size AI L cI w) := by
  have hN := hf.n
  have hFit := hf.fit F.prime
  have hp2 := F.max
  have hp3 := F.three
  obtain ⟨t1, t2', _, _⟩ := sizeTests (by omega) hf.size
  obtain ⟨_, t2, _, _⟩ := sizeTests (by omega) hf.size8
  have e8 : ((8 * n : Nat) : Int) = 8 * (n : Int) := by omega
  rw [e8] at t2
  have t3 : (8 : Int) * (n : Int) < (p : Int) - 1 := by have := hf.2.2.1; omega
  have hL : 1 ≤ L ∧ L ≤ 64 ∧ L ≤ p := hf.2.2.2
  have n4 : (4 : Int) ≤ (n : Int) := by omega
  have n5 : (n : Int) ≤ 512 := by omega
  have l1 : (1 : Int) ≤ (L : Int) := by omega
  have l2 : (L : Int) ≤ 64 := by omega
  have l3 : (L : Int) ≤ (p : Int) := by omega
  have n0 : ((8 : Int) * (n : Int)) ≠ 0 := by omega
  have w1 : IntKind.i64.wrap ((n : Int) - 1) = (n : Int) - 1 := IntWalk.i64_in _ (by constructor <;> omega)
  have w2 : IntKind.i64.wrap ((p : Int) - 1) = (p : Int) - 1 := IntWalk.i64_in _ (by constructor <;> omega)
  have w3 : IntKind.i64.wrap (8 * (n : Int)) = 8 * (n : Int) := IntWalk.i64_in _ (by constructor <;> omega)
  have hg := genN_lt F.prime
  have HF := Lib.hid (And.intro hf hFit)
  have F0 := F.alloc (.cells #[vi size, .slice AI L cI] 24)
  have hb0 : Below w.heap.size w (w.alloc (.cells #[vi size, .slice AI L cI] 24)) := (Below.refl _ _).alloc (Nat.le_refl _) _
  have hB0 := Blk.new w 24 #[vi size, .slice AI L cI]
  obtain ⟨K0, hK0⟩ : ∃ K, K = w.heap.size := ⟨_, rfl⟩
  rw [← hK0] at hB0
  obtain ⟨W0, hW0⟩ : ∃ W0, W0 = w.alloc (.cells #[vi size, .slice AI L cI] 24) := ⟨_, rfl⟩
  rw [← hW0] at hb0 hB0 F0
  have c1 := (hB0.cell 1).trans (show _ = some (Value.slice AI L cI) from rfl)
  have cb := F0.c0
  have H0 := Lib.hid (And.intro hb0 (And.intro hB0 F0))
  have HW0 := Lib.hid hW0
  have HK0 := Lib.hid hK0
  clear hb0 hB0 hW0 F F0 hK0 hf hFit t2' hN hL
  go_enter Tryz.func27, Tryz.ntmps27
  go_upto_region 1 with (fail)
  rw [← HW0.out, ← HK0.out]
  go_upto_region 4 with (go_at_call 24; refine (p_any p b _ cb).mono ?_; rintro e w' ⟨rfl, rfl⟩)
  have i81 : I64 (1 : Int) := by constructor <;> omega
  have i8g : I64 ((genN p : Nat) : Int) := by constructor <;> omega
  have e1 : el p 1 ≠ 0 := by rw [el_one]; exact one_ne HF.out.2
  have HD1 := Lib.hid (dnew_ok p S b n 1 i81 HF.out.1.size e1 W0 H0.out.2.2)
  have HD2 := Lib.hid (fun (W : World) (FW : Fld W S b p) => (e8 ▸ dnew_ok p S b (8 * n) ((genN p : Nat) : Int) i8g HF.out.1.size8 HF.out.2.g0 W FW : Calls Tryz.prog 10 #[.pointer (some ⟨b, 0, none⟩), vi (8 * (n : Int)), vi ((genN p : Nat) : Int)] W fun e w' => MadeDom p b (8 * n) ((genN p : Nat) : Int) W e w'))
  clear e1 e8
  go_wp2_with fail
  refine HD1.out.mono ?_
  rintro _ wa ⟨E, rfl, hE, hba, hEl⟩
  have HA := Lib.hid (And.intro hE (And.intro hba hEl))
  have hFa := H0.out.2.2.below hba H0.out.2.2.le
  have c2 := hFa.c2
  have HFa := Lib.hid hFa
  clear hE hba hEl hFa cb c1
  go_wp2_with fail
  refine (generator_any _ b _ c2).mono ?_
  rintro _ _ ⟨rfl, rfl⟩
  go_wp2_with fail
  refine (HD2.out _ HFa.out).mono ?_
  rintro _ wb ⟨D, rfl, hD, hbb, hDl⟩
  have hB2 : Blk wb K0 24 #[vi size, .slice AI L cI] := (H0.out.2.1.below HA.out.2.1 H0.out.2.1.lt).below hbb (Nat.lt_of_lt_of_le H0.out.2.1.lt HA.out.2.1.size)
  have d0 := (hB2.cell 0).trans (show _ = some (vi size) from rfl)
  have d1 := (hB2.cell 1).trans (show _ = some (Value.slice AI L cI) from rfl)
  have HBb := Lib.hid (And.intro hD (And.intro hbb hDl))
  clear hD hbb hDl hB2 c2
  go_wp2
  have hE1 : Dom wa wa.heap.size E b p n 1 := by
    have := HA.out.1
    rwa [el_one] at this
  have hbw : Below w.heap.size w wb := H0.out.1.trans (HA.out.2.1.trans (HBb.out.2.1.mono HA.out.2.1.size) |>.mono H0.out.1.size)
  exact bodyPost_ret (v := .tuple #[.pointer (some ⟨wb.heap.size, 0, none⟩), .bool true]) (by simp [results, Tryz.results27, go_sem]) rfl ⟨wb.heap.size, E, D, rfl, ⟨Blk.new wb _ _, ⟨_, (hE1.below HBb.out.2.1 (Nat.le_refl _)).alloc _⟩, ⟨_, HBb.out.1.alloc _⟩⟩, hbw.alloc hbw.size _, hbw.size⟩
end Go.Proofs.YtpkhcncempoohaaGreatDoor
