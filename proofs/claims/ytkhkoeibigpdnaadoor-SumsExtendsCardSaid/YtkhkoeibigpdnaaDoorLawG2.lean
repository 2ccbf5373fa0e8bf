/- The walk of the law SumsExtends. -/
import Derived.Test.YtkhkoeibigpdnaaDoorSame
import Derived.Test.YtkhkoeibigpdnaaDoorQs
import Derived.Test.YtkhkoeibigpdnaaDoorArg
set_option linter.unusedVariables false
namespace Go.Proofs.YtkhkoeibigpdnaaDoor
open Go.RowKit Zp

theorem ints_sameG (A B : Option Addr) (n c m d : Nat) (xs ys : List Int) (hnx : xs.length = n) (hmy : ys.length = m) (he : xs = ys) (hn : n ≤ 9223372036854775807) (w : World) (hsx : SL w A xs) (hsy : SL w B ys) :
    Calls Tryd.prog 21 #[.slice A n c, .slice B m d] w fun e w' => e = .returned (.bool true) ∧ ∃ k, w' = w.drewN k := by
  subst hnx hmy
  have h := ints_any A B c d xs ys hn (by rw [← he]; exact hn) w hsx hsy
  rw [eqB_true he] at h
  exact h
theorem err_nil (w : World) (hg : Typed w) : Calls Tryd.prog 28 #[.nilIface, vi 0] w fun x w' => SaysW (.bool true) w x w' := error_any 0 0 w hg
theorem err_is (k : Int) (h : k ≠ 0) (w : World) (hg : Typed w) : Calls Tryd.prog 28 #[.iface 107 (.int .i64 k), vi k] w fun x w' => SaysW (.bool true) w x w' := by
  have h1 := error_any k k w hg
  rw [errV_ne h, show (k == k) = true from by simp] at h1
  exact h1

set_option maxRecDepth 100000 in
set_option maxHeartbeats 2000000 in
theorem ext_c0 (w : World) (q : Nat) [NeZero q] (h3 : 3 ≤ q) (hqm : q ≤ 2147483647) (hpr : IsPrime q) (A : Option Addr) (na ca : Nat) (xs : List Int) (ha : ArgS w A na ca xs) (B : Option Addr) (hno0 : ¬ IsCube na) (nb : Nat) (cb : Nat) (ys : List Int) (hb : ArgS w B nb cb ys) (r : Int) (hr : I64 r) (hT : Typed w) :
    Calls Tryd.prog 10 #[vi q, .slice A na ca, .slice B nb cb, vi r] w fun e w' => SaysW (.bool true) w e w' := by
  have hq2 : 2 ≤ q := by omega
  have hra := ha.r8
  have hrb := hb.r8
  rw [ha.len] at hra
  rw [hb.len] at hrb
  have HLA := Lib.hid ha.len
  have HLB := Lib.hid hb.len
  have HF := Lib.hid (sfield_yes q h3 hqm hpr w hT)
  have hvv := fun w => rvars_n A na ca (by omega) w
  rw [varsI_no hno0] at hvv
  have hno : ¬ Cube na nb := fun h => hno0 ⟨_, h⟩
  have hnf : ∀ v, ¬ Cube na (v + 1) := fun v h => hno0 ⟨_, h⟩
  have HV := Lib.hid hvv
  have HX1 := Lib.hid (fun b A2 c2 W => extend_no b A2 B na c2 nb cb (by omega) (by omega) hno W)
  have HF1 := Lib.hid (fun b A2 c2 W => fix_no b A2 na c2 (by omega) hnf r W)
  clear hpr hvv
  go_enter Tryd.func10, Tryd.ntmps10
  go_wp2_with fail
  refine (HF.out).mono ?_
  rintro e w1 ⟨b, rfl, F1, hb1⟩
  have hT1 := hT.below hb1
  have sa1 := ha.sl.below hb1
  have sb1 := hb.sl.below hb1
  have hba1 : Below w1.heap.size w1 (w1.alloc (.cells #[] 3)) := (Below.refl _ _).alloc (Nat.le_refl _) _
  have ho1 := own_empty w1 w1.heap.size (Nat.le_refl _)
  have sa1' := sa1.below hba1
  go_wp2_with (at_builtin; refine wpList_appA _ rfl _ _ rfl w1.heap.size _ [] A na ca xs rfl rfl HLA.out ho1 sa1' (by simp; omega) (by simp) ?_; intro v' w2 hg; have hown := hg.own; have hb2 := hg.below hba1 ho1 (Nat.le_refl _) (by simp); rw [List.nil_append] at hown; clear hg; obtain ⟨AX, n2, cX, rfl, hl2, hcX, _, sx2⟩ := hown.shapeN; rw [HLA.out] at hl2; subst hl2; clear hown)
  have F2 := F1.below hb2 F1.le
  have hT2 := hT1.below hb2
  have sa2 := sa1.below hb2
  have sb2 := sb1.below hb2
  have bw2 := hb1.trans (hb2.mono hb1.size)
  clear sa1 sb1 sa1' hba1 ho1 F1 hT1 hb1 hb2
  refine (HX1.out b AX cX _).mono ?_
  rintro e w' ⟨rfl, rfl⟩
  go_wp2_with fail
  refine (HV.out _).mono ?_
  rintro e w' ⟨rfl, rfl⟩
  go_wp2_with fail
  refine (err_is 2 (by decide) _ hT2).mono ?_
  rintro e w3 ⟨rfl, hb3⟩
  have F3 := F2.below hb3 F2.le
  have hT3 := hT2.below hb3
  have sa3 := sa2.below hb3
  have sb3 := sb2.below hb3
  have sx3 := sx2.below hb3
  have bw3 := bw2.trans (hb3.mono bw2.size)
  clear F2 hT2 sa2 sb2 sx2 bw2
  go_wp2_with fail
  refine (HF1.out b AX cX _).mono ?_
  rintro e w' ⟨rfl, rfl⟩
  go_wp2_with fail
  refine (err_is 2 (by decide) _ hT3).mono ?_
  rintro e w4 ⟨rfl, hb4⟩
  have F4 := F3.below hb4 F3.le
  have hT4 := hT3.below hb4
  have sa4 := sa3.below hb4
  have sb4 := sb3.below hb4
  have sx4 := sx3.below hb4
  have bw4 := bw3.trans (hb4.mono bw3.size)
  clear F3 hT3 sa3 sb3 sx3 bw3
  go_wp2_with fail
  refine (ints_sameG none none 0 0 0 0 [] [] rfl rfl rfl (by omega) _ SL.nil SL.nil).mono ?_
  rintro e w' ⟨rfl, k1, rfl⟩
  go_wp2_with fail
  refine (ints_sameG AX A na cX na ca xs xs HLA.out HLA.out rfl (by omega) _ (by exact sx4) (by exact sa4)).mono ?_
  rintro e w' ⟨rfl, k2, rfl⟩
  go_wp2
  go_ret
  exact ⟨rfl, below_drewN bw4 _⟩

set_option maxRecDepth 100000 in
set_option maxHeartbeats 2000000 in
theorem ext_c1 (w : World) (q : Nat) [NeZero q] (h3 : 3 ≤ q) (hqm : q ≤ 2147483647) (hpr : IsPrime q) (A : Option Addr) (na ca : Nat) (xs : List Int) (ha : ArgS w A na ca xs) (B : Option Addr) (hcu : Cube na 0) (cb : Nat) (ys : List Int) (hb : ArgS w B 0 cb ys) (r : Int) (hr : I64 r) (hT : Typed w) :
    Calls Tryd.prog 10 #[vi q, .slice A na ca, .slice B 0 cb, vi r] w fun e w' => SaysW (.bool true) w e w' := by
  have hq2 : 2 ≤ q := by omega
  have hra := ha.r8
  have hrb := hb.r8
  rw [ha.len] at hra
  rw [hb.len] at hrb
  have HLA := Lib.hid ha.len
  have HLB := Lib.hid hb.len
  have HF := Lib.hid (sfield_yes q h3 hqm hpr w hT)
  have hvv := fun w => rvars_n A na ca (by omega) w
  rw [varsI_of hcu] at hvv
  have hnf : ∀ v, ¬ Cube na (v + 1) := fun v h => by have := hcu.inj h; omega
  have HV := Lib.hid hvv
  have hx1 := fun S b A2 c2 W F hs hsr => extend_any q S b na 0 hcu A2 c2 xs HLA.out ha.i64 B cb ys HLB.out hb.i64 W F hs hsr
  have hx2 := fun W hs hsr => rextend_n q hq2 hqm na 0 hcu A ca xs HLA.out ha.i64 B cb ys HLB.out hb.i64 W hs hsr
  generalize fv (co (extL (els q xs) (els q ys)) 0) = Y at hx1 hx2
  have HX1 := Lib.hid hx1
  have HX2 := Lib.hid hx2
  clear hx1 hx2
  have HF1 := Lib.hid (fun b A2 c2 W => fix_no b A2 na c2 (by omega) hnf r W)
  clear hpr hvv
  go_enter Tryd.func10, Tryd.ntmps10
  go_wp2_with fail
  refine (HF.out).mono ?_
  rintro e w1 ⟨b, rfl, F1, hb1⟩
  have hT1 := hT.below hb1
  have sa1 := ha.sl.below hb1
  have sb1 := hb.sl.below hb1
  have hba1 : Below w1.heap.size w1 (w1.alloc (.cells #[] 3)) := (Below.refl _ _).alloc (Nat.le_refl _) _
  have ho1 := own_empty w1 w1.heap.size (Nat.le_refl _)
  have sa1' := sa1.below hba1
  go_wp2_with (at_builtin; refine wpList_appA _ rfl _ _ rfl w1.heap.size _ [] A na ca xs rfl rfl HLA.out ho1 sa1' (by simp; omega) (by simp) ?_; intro v' w2 hg; have hown := hg.own; have hb2 := hg.below hba1 ho1 (Nat.le_refl _) (by simp); rw [List.nil_append] at hown; clear hg; obtain ⟨AX, n2, cX, rfl, hl2, hcX, _, sx2⟩ := hown.shapeN; rw [HLA.out] at hl2; subst hl2; clear hown)
  have F2 := F1.below hb2 F1.le
  have hT2 := hT1.below hb2
  have sa2 := sa1.below hb2
  have sb2 := sb1.below hb2
  have bw2 := hb1.trans (hb2.mono hb1.size)
  clear sa1 sb1 sa1' hba1 ho1 F1 hT1 hb1 hb2
  refine (HX1.out _ b AX cX _ F2 sx2 sb2).mono ?_
  rintro e w3 ⟨rfl, hb3⟩
  have F3 := F2.below hb3 F2.le
  have hT3 := hT2.below hb3
  have sa3 := sa2.below hb3
  have sb3 := sb2.below hb3
  have sx3 := sx2.below hb3
  have bw3 := bw2.trans (hb3.mono bw2.size)
  clear F2 hT2 sa2 sb2 sx2 bw2
  go_wp2_with fail
  refine (HV.out _).mono ?_
  rintro e w' ⟨rfl, rfl⟩
  go_wp2_with fail
  refine (HX2.out _ sa3 sb3).mono ?_
  rintro e w' ⟨rfl, rfl⟩
  go_wp2_with fail
  refine (err_nil _ hT3).mono ?_
  rintro e w4 ⟨rfl, hb4⟩
  have F4 := F3.below hb4 F3.le
  have hT4 := hT3.below hb4
  have sa4 := sa3.below hb4
  have sb4 := sb3.below hb4
  have sx4 := sx3.below hb4
  have bw4 := bw3.trans (hb4.mono bw3.size)
  clear F3 hT3 sa3 sb3 sx3 bw3
  go_wp2_with fail
  refine (HF1.out b AX cX _).mono ?_
  rintro e w' ⟨rfl, rfl⟩
  go_wp2_with fail
  refine (err_is 2 (by decide) _ hT4).mono ?_
  rintro e w5 ⟨rfl, hb5⟩
  have F5 := F4.below hb5 F4.le
  have hT5 := hT4.below hb5
  have sa5 := sa4.below hb5
  have sb5 := sb4.below hb5
  have sx5 := sx4.below hb5
  have bw5 := bw4.trans (hb5.mono bw4.size)
  clear F4 hT4 sa4 sb4 sx4 bw4
  go_wp2_with fail
  refine (ints_sameG none none 0 0 0 0 [] [] rfl rfl rfl (by omega) _ SL.nil SL.nil).mono ?_
  rintro e w' ⟨rfl, k1, rfl⟩
  go_wp2_with fail
  refine (ints_sameG AX A na cX na ca xs xs HLA.out HLA.out rfl (by omega) _ (by exact sx5) (by exact sa5)).mono ?_
  rintro e w' ⟨rfl, k2, rfl⟩
  go_wp2
  go_ret
  exact ⟨rfl, below_drewN bw5 _⟩

set_option maxRecDepth 100000 in
set_option maxHeartbeats 2000000 in
theorem ext_c2 (w : World) (q : Nat) [NeZero q] (h3 : 3 ≤ q) (hqm : q ≤ 2147483647) (hpr : IsPrime q) (A : Option Addr) (na ca : Nat) (xs : List Int) (ha : ArgS w A na ca xs) (B : Option Addr) (hcu : Cube na 0) (nb : Nat) (hne : nb ≠ 0) (cb : Nat) (ys : List Int) (hb : ArgS w B nb cb ys) (r : Int) (hr : I64 r) (hT : Typed w) :
    Calls Tryd.prog 10 #[vi q, .slice A na ca, .slice B nb cb, vi r] w fun e w' => SaysW (.bool true) w e w' := by
  have hq2 : 2 ≤ q := by omega
  have hra := ha.r8
  have hrb := hb.r8
  rw [ha.len] at hra
  rw [hb.len] at hrb
  have HLA := Lib.hid ha.len
  have HLB := Lib.hid hb.len
  have HF := Lib.hid (sfield_yes q h3 hqm hpr w hT)
  have hvv := fun w => rvars_n A na ca (by omega) w
  rw [varsI_of hcu] at hvv
  have hnf : ∀ v, ¬ Cube na (v + 1) := fun v h => by have := hcu.inj h; omega
  have hno : ¬ Cube na nb := fun h => by have := hcu.inj h; omega
  have t9 : ((0 : Int) != (nb : Int)) = true := by rw [bne_iff_ne]; omega
  clear hne
  have HV := Lib.hid hvv
  have HX1 := Lib.hid (fun b A2 c2 W => extend_no b A2 B na c2 nb cb (by omega) (by omega) hno W)
  have HF1 := Lib.hid (fun b A2 c2 W => fix_no b A2 na c2 (by omega) hnf r W)
  clear hpr hvv
  go_enter Tryd.func10, Tryd.ntmps10
  go_wp2_with fail
  refine (HF.out).mono ?_
  rintro e w1 ⟨b, rfl, F1, hb1⟩
  have hT1 := hT.below hb1
  have sa1 := ha.sl.below hb1
  have sb1 := hb.sl.below hb1
  have hba1 : Below w1.heap.size w1 (w1.alloc (.cells #[] 3)) := (Below.refl _ _).alloc (Nat.le_refl _) _
  have ho1 := own_empty w1 w1.heap.size (Nat.le_refl _)
  have sa1' := sa1.below hba1
  go_wp2_with (at_builtin; refine wpList_appA _ rfl _ _ rfl w1.heap.size _ [] A na ca xs rfl rfl HLA.out ho1 sa1' (by simp; omega) (by simp) ?_; intro v' w2 hg; have hown := hg.own; have hb2 := hg.below hba1 ho1 (Nat.le_refl _) (by simp); rw [List.nil_append] at hown; clear hg; obtain ⟨AX, n2, cX, rfl, hl2, hcX, _, sx2⟩ := hown.shapeN; rw [HLA.out] at hl2; subst hl2; clear hown)
  have F2 := F1.below hb2 F1.le
  have hT2 := hT1.below hb2
  have sa2 := sa1.below hb2
  have sb2 := sb1.below hb2
  have bw2 := hb1.trans (hb2.mono hb1.size)
  clear sa1 sb1 sa1' hba1 ho1 F1 hT1 hb1 hb2
  refine (HX1.out b AX cX _).mono ?_
  rintro e w' ⟨rfl, rfl⟩
  go_wp2_with fail
  refine (HV.out _).mono ?_
  rintro e w' ⟨rfl, rfl⟩
  go_wp2_with fail
  refine (err_is 2 (by decide) _ hT2).mono ?_
  rintro e w3 ⟨rfl, hb3⟩
  have F3 := F2.below hb3 F2.le
  have hT3 := hT2.below hb3
  have sa3 := sa2.below hb3
  have sb3 := sb2.below hb3
  have sx3 := sx2.below hb3
  have bw3 := bw2.trans (hb3.mono bw2.size)
  clear F2 hT2 sa2 sb2 sx2 bw2
  go_wp2_with fail
  refine (HF1.out b AX cX _).mono ?_
  rintro e w' ⟨rfl, rfl⟩
  go_wp2_with fail
  refine (err_is 2 (by decide) _ hT3).mono ?_
  rintro e w4 ⟨rfl, hb4⟩
  have F4 := F3.below hb4 F3.le
  have hT4 := hT3.below hb4
  have sa4 := sa3.below hb4
  have sb4 := sb3.below hb4
  have sx4 := sx3.below hb4
  have bw4 := bw3.trans (hb4.mono bw3.size)
  clear F3 hT3 sa3 sb3 sx3 bw3
  go_wp2_with fail
  refine (ints_sameG none none 0 0 0 0 [] [] rfl rfl rfl (by omega) _ SL.nil SL.nil).mono ?_
  rintro e w' ⟨rfl, k1, rfl⟩
  go_wp2_with fail
  refine (ints_sameG AX A na cX na ca xs xs HLA.out HLA.out rfl (by omega) _ (by exact sx4) (by exact sa4)).mono ?_
  rintro e w' ⟨rfl, k2, rfl⟩
  go_wp2
  go_ret
  exact ⟨rfl, below_drewN bw4 _⟩

set_option maxRecDepth 100000 in
set_option maxHeartbeats 2000000 in
theorem ext_c3 (w : World) (q : Nat) [NeZero q] (h3 : 3 ≤ q) (hqm : q ≤ 2147483647) (hpr : IsPrime q) (A : Option Addr) (na ca : Nat) (xs : List Int) (ha : ArgS w A na ca xs) (B : Option Addr) (v u h : Nat) (hvu : v = u + 1) (hcu : Cube na v) (hcf : Cube na (u + 1)) (hnh : na = 2 * h) (cb : Nat) (ys : List Int) (hb : ArgS w B v cb ys) (r : Int) (hr : I64 r) (hT : Typed w) :
    Calls Tryd.prog 10 #[vi q, .slice A na ca, .slice B v cb, vi r] w fun e w' => SaysW (.bool true) w e w' := by
  have hq2 : 2 ≤ q := by omega
  have hra := ha.r8
  have hrb := hb.r8
  rw [ha.len] at hra
  rw [hb.len] at hrb
  have HLA := Lib.hid ha.len
  have HLB := Lib.hid hb.len
  have HF := Lib.hid (sfield_yes q h3 hqm hpr w hT)
  have hvv := fun w => rvars_n A na ca (by omega) w
  rw [varsI_of hcu] at hvv
  have hv1 : 1 ≤ v := by omega
  clear hvu
  have HV := Lib.hid hvv
  have hx1 := fun S b A2 c2 W F hs hsr => extend_any q S b na v hcu A2 c2 xs HLA.out ha.i64 B cb ys HLB.out hb.i64 W F hs hsr
  have hx2 := fun W hs hsr => rextend_n q hq2 hqm na v hcu A ca xs HLA.out ha.i64 B cb ys HLB.out hb.i64 W hs hsr
  generalize fv (co (extL (els q xs) (els q ys)) 0) = Y at hx1 hx2
  have HX1 := Lib.hid hx1
  have HX2 := Lib.hid hx2
  clear hx1 hx2
  have hle := hcf.le
  have hf1 := fun S b A2 c2 W F hs => fix_any q S b na u h hcf hnh A2 c2 xs HLA.out ha.i64 r hr W F hs
  have hf2 := fun W hs => rfix_n q hqm na h hnh (by omega) A ca xs HLA.out ha.i64 r hr W hs
  generalize fixL h (els q xs) (el q r) = L at hf1 hf2
  have HF1 := Lib.hid hf1
  have HF2 := Lib.hid hf2
  clear hf1 hf2 hnh
  clear hpr hvv
  go_enter Tryd.func10, Tryd.ntmps10
  go_wp2_with fail
  refine (HF.out).mono ?_
  rintro e w1 ⟨b, rfl, F1, hb1⟩
  have hT1 := hT.below hb1
  have sa1 := ha.sl.below hb1
  have sb1 := hb.sl.below hb1
  have hba1 : Below w1.heap.size w1 (w1.alloc (.cells #[] 3)) := (Below.refl _ _).alloc (Nat.le_refl _) _
  have ho1 := own_empty w1 w1.heap.size (Nat.le_refl _)
  have sa1' := sa1.below hba1
  go_wp2_with (at_builtin; refine wpList_appA _ rfl _ _ rfl w1.heap.size _ [] A na ca xs rfl rfl HLA.out ho1 sa1' (by simp; omega) (by simp) ?_; intro v' w2 hg; have hown := hg.own; have hb2 := hg.below hba1 ho1 (Nat.le_refl _) (by simp); rw [List.nil_append] at hown; clear hg; obtain ⟨AX, n2, cX, rfl, hl2, hcX, _, sx2⟩ := hown.shapeN; rw [HLA.out] at hl2; subst hl2; clear hown)
  have F2 := F1.below hb2 F1.le
  have hT2 := hT1.below hb2
  have sa2 := sa1.below hb2
  have sb2 := sb1.below hb2
  have bw2 := hb1.trans (hb2.mono hb1.size)
  clear sa1 sb1 sa1' hba1 ho1 F1 hT1 hb1 hb2
  refine (HX1.out _ b AX cX _ F2 sx2 sb2).mono ?_
  rintro e w3 ⟨rfl, hb3⟩
  have F3 := F2.below hb3 F2.le
  have hT3 := hT2.below hb3
  have sa3 := sa2.below hb3
  have sb3 := sb2.below hb3
  have sx3 := sx2.below hb3
  have bw3 := bw2.trans (hb3.mono bw2.size)
  clear F2 hT2 sa2 sb2 sx2 bw2
  go_wp2_with fail
  refine (HV.out _).mono ?_
  rintro e w' ⟨rfl, rfl⟩
  go_wp2_with fail
  refine (HX2.out _ sa3 sb3).mono ?_
  rintro e w' ⟨rfl, rfl⟩
  go_wp2_with fail
  refine (err_nil _ hT3).mono ?_
  rintro e w4 ⟨rfl, hb4⟩
  have F4 := F3.below hb4 F3.le
  have hT4 := hT3.below hb4
  have sa4 := sa3.below hb4
  have sb4 := sb3.below hb4
  have sx4 := sx3.below hb4
  have bw4 := bw3.trans (hb4.mono bw3.size)
  clear F3 hT3 sa3 sb3 sx3 bw3
  go_wp2_with fail
  refine (HF1.out _ b AX cX _ F4 sx4).mono ?_
  rintro e w5 ⟨v5, rfl, own5, hb5⟩
  have F5 := F4.below hb5 F4.le
  have hT5 := hT4.below hb5
  have sa5 := sa4.below hb5
  have sb5 := sb4.below hb5
  have sx5 := sx4.below hb5
  have bw5 := bw4.trans (hb5.mono bw4.size)
  clear F4 hT4 sa4 sb4 sx4 bw4
  obtain ⟨AL, nL, cL, rfl, hlL, hcL, hmL, sl5⟩ := own5.shapeN
  have HLL := Lib.hid hlL
  have hnL : nL ≤ 9223372036854775807 := by simp only [maxLen] at hmL; omega
  clear own5 hlL hcL hmL
  go_wp2_with fail
  refine (HF2.out _ sa5).mono ?_
  rintro e w6 ⟨v6, rfl, own6, hb6⟩
  have F6 := F5.below hb6 F5.le
  have hT6 := hT5.below hb6
  have sa6 := sa5.below hb6
  have sb6 := sb5.below hb6
  have sx6 := sx5.below hb6
  have bw6 := bw5.trans (hb6.mono bw5.size)
  clear F5 hT5 sa5 sb5 sx5 bw5
  have sl6 := sl5.below hb6
  obtain ⟨AR, nR, cR, rfl, hlR, hcR, hmR, sr6⟩ := own6.shapeN
  have HLR := Lib.hid hlR
  clear own6 hlR hcR hmR sl5
  go_wp2_with fail
  refine (err_nil _ hT6).mono ?_
  rintro e w7 ⟨rfl, hb7⟩
  have F7 := F6.below hb7 F6.le
  have hT7 := hT6.below hb7
  have sa7 := sa6.below hb7
  have sb7 := sb6.below hb7
  have sx7 := sx6.below hb7
  have bw7 := bw6.trans (hb7.mono bw6.size)
  clear F6 hT6 sa6 sb6 sx6 bw6
  have sl7 := sl6.below hb7
  have sr7 := sr6.below hb7
  go_wp2_with fail
  refine (ints_sameG AL AR nL cL nR cR _ _ HLL.out HLR.out rfl hnL _ sl7 sr7).mono ?_
  rintro e w' ⟨rfl, k1, rfl⟩
  go_wp2_with fail
  refine (ints_sameG AX A na cX na ca xs xs HLA.out HLA.out rfl (by omega) _ (by exact sx7) (by exact sa7)).mono ?_
  rintro e w' ⟨rfl, k2, rfl⟩
  go_wp2
  go_ret
  exact ⟨rfl, below_drewN bw7 _⟩

set_option maxRecDepth 100000 in
set_option maxHeartbeats 2000000 in
theorem ext_c4 (w : World) (q : Nat) [NeZero q] (h3 : 3 ≤ q) (hqm : q ≤ 2147483647) (hpr : IsPrime q) (A : Option Addr) (na ca : Nat) (xs : List Int) (ha : ArgS w A na ca xs) (B : Option Addr) (v u h : Nat) (hvu : v = u + 1) (hcu : Cube na v) (hcf : Cube na (u + 1)) (hnh : na = 2 * h) (nb : Nat) (hne : nb ≠ v) (cb : Nat) (ys : List Int) (hb : ArgS w B nb cb ys) (r : Int) (hr : I64 r) (hT : Typed w) :
    Calls Tryd.prog 10 #[vi q, .slice A na ca, .slice B nb cb, vi r] w fun e w' => SaysW (.bool true) w e w' := by
  have hq2 : 2 ≤ q := by omega
  have hra := ha.r8
  have hrb := hb.r8
  rw [ha.len] at hra
  rw [hb.len] at hrb
  have HLA := Lib.hid ha.len
  have HLB := Lib.hid hb.len
  have HF := Lib.hid (sfield_yes q h3 hqm hpr w hT)
  have hvv := fun w => rvars_n A na ca (by omega) w
  rw [varsI_of hcu] at hvv
  have hv1 : 1 ≤ v := by omega
  have hno : ¬ Cube na nb := fun h => hne (hcu.inj h).symm
  have t9 : ((v : Int) != (nb : Int)) = true := by rw [bne_iff_ne]; omega
  clear hvu hne
  have HV := Lib.hid hvv
  have HX1 := Lib.hid (fun b A2 c2 W => extend_no b A2 B na c2 nb cb (by omega) (by omega) hno W)
  have hle := hcf.le
  have hf1 := fun S b A2 c2 W F hs => fix_any q S b na u h hcf hnh A2 c2 xs HLA.out ha.i64 r hr W F hs
  have hf2 := fun W hs => rfix_n q hqm na h hnh (by omega) A ca xs HLA.out ha.i64 r hr W hs
  generalize fixL h (els q xs) (el q r) = L at hf1 hf2
  have HF1 := Lib.hid hf1
  have HF2 := Lib.hid hf2
  clear hf1 hf2 hnh
  clear hpr hvv
  go_enter Tryd.func10, Tryd.ntmps10
  go_wp2_with fail
  refine (HF.out).mono ?_
  rintro e w1 ⟨b, rfl, F1, hb1⟩
  have hT1 := hT.below hb1
  have sa1 := ha.sl.below hb1
  have sb1 := hb.sl.below hb1
  have hba1 : Below w1.heap.size w1 (w1.alloc (.cells #[] 3)) := (Below.refl _ _).alloc (Nat.le_refl _) _
  have ho1 := own_empty w1 w1.heap.size (Nat.le_refl _)
  have sa1' := sa1.below hba1
  go_wp2_with (at_builtin; refine wpList_appA _ rfl _ _ rfl w1.heap.size _ [] A na ca xs rfl rfl HLA.out ho1 sa1' (by simp; omega) (by simp) ?_; intro v' w2 hg; have hown := hg.own; have hb2 := hg.below hba1 ho1 (Nat.le_refl _) (by simp); rw [List.nil_append] at hown; clear hg; obtain ⟨AX, n2, cX, rfl, hl2, hcX, _, sx2⟩ := hown.shapeN; rw [HLA.out] at hl2; subst hl2; clear hown)
  have F2 := F1.below hb2 F1.le
  have hT2 := hT1.below hb2
  have sa2 := sa1.below hb2
  have sb2 := sb1.below hb2
  have bw2 := hb1.trans (hb2.mono hb1.size)
  clear sa1 sb1 sa1' hba1 ho1 F1 hT1 hb1 hb2
  refine (HX1.out b AX cX _).mono ?_
  rintro e w' ⟨rfl, rfl⟩
  go_wp2_with fail
  refine (HV.out _).mono ?_
  rintro e w' ⟨rfl, rfl⟩
  go_wp2_with fail
  refine (err_is 2 (by decide) _ hT2).mono ?_
  rintro e w3 ⟨rfl, hb3⟩
  have F3 := F2.below hb3 F2.le
  have hT3 := hT2.below hb3
  have sa3 := sa2.below hb3
  have sb3 := sb2.below hb3
  have sx3 := sx2.below hb3
  have bw3 := bw2.trans (hb3.mono bw2.size)
  clear F2 hT2 sa2 sb2 sx2 bw2
  go_wp2_with fail
  refine (HF1.out _ b AX cX _ F3 sx3).mono ?_
  rintro e w4 ⟨v4, rfl, own4, hb4⟩
  have F4 := F3.below hb4 F3.le
  have hT4 := hT3.below hb4
  have sa4 := sa3.below hb4
  have sb4 := sb3.below hb4
  have sx4 := sx3.below hb4
  have bw4 := bw3.trans (hb4.mono bw3.size)
  clear F3 hT3 sa3 sb3 sx3 bw3
  obtain ⟨AL, nL, cL, rfl, hlL, hcL, hmL, sl4⟩ := own4.shapeN
  have HLL := Lib.hid hlL
  have hnL : nL ≤ 9223372036854775807 := by simp only [maxLen] at hmL; omega
  clear own4 hlL hcL hmL
  go_wp2_with fail
  refine (HF2.out _ sa4).mono ?_
  rintro e w5 ⟨v5, rfl, own5, hb5⟩
  have F5 := F4.below hb5 F4.le
  have hT5 := hT4.below hb5
  have sa5 := sa4.below hb5
  have sb5 := sb4.below hb5
  have sx5 := sx4.below hb5
  have bw5 := bw4.trans (hb5.mono bw4.size)
  clear F4 hT4 sa4 sb4 sx4 bw4
  have sl5 := sl4.below hb5
  obtain ⟨AR, nR, cR, rfl, hlR, hcR, hmR, sr5⟩ := own5.shapeN
  have HLR := Lib.hid hlR
  clear own5 hlR hcR hmR sl4
  go_wp2_with fail
  refine (err_nil _ hT5).mono ?_
  rintro e w6 ⟨rfl, hb6⟩
  have F6 := F5.below hb6 F5.le
  have hT6 := hT5.below hb6
  have sa6 := sa5.below hb6
  have sb6 := sb5.below hb6
  have sx6 := sx5.below hb6
  have bw6 := bw5.trans (hb6.mono bw5.size)
  clear F5 hT5 sa5 sb5 sx5 bw5
  have sl6 := sl5.below hb6
  have sr6 := sr5.below hb6
  go_wp2_with fail
  refine (ints_sameG AL AR nL cL nR cR _ _ HLL.out HLR.out rfl hnL _ sl6 sr6).mono ?_
  rintro e w' ⟨rfl, k1, rfl⟩
  go_wp2_with fail
  refine (ints_sameG AX A na cX na ca xs xs HLA.out HLA.out rfl (by omega) _ (by exact sx6) (by exact sa6)).mono ?_
  rintro e w' ⟨rfl, k2, rfl⟩
  go_wp2
  go_ret
  exact ⟨rfl, below_drewN bw6 _⟩

theorem extends_walk (w : World) (p : Int) (hp : I64 p) (A : Option Addr) (na ca : Nat) (xs : List Int) (ha : ArgS w A na ca xs) (B : Option Addr) (nb cb : Nat) (ys : List Int) (hb : ArgS w B nb cb ys) (r : Int) (hr : I64 r) (hT : Typed w) :
    Calls Tryd.prog 10 #[vi p, .slice A na ca, .slice B nb cb, vi r] w fun e w' => SaysW (.bool true) w e w' := by
  by_cases hF : HasField p
  · obtain ⟨h3, hm, hpr⟩ := hF
    obtain ⟨q, rfl⟩ := Int.eq_ofNat_of_zero_le (a := p) (by omega)
    rw [Int.toNat_natCast] at hpr
    haveI := hpr.ne
    by_cases hi : IsCube na
    · obtain ⟨v, hv⟩ := hi
      rcases v with _ | u
      · by_cases h0 : nb = 0
        · subst h0
          exact ext_c1 w q (by omega) (by omega) hpr A na ca xs ha B hv cb ys hb r hr hT
        · exact ext_c2 w q (by omega) (by omega) hpr A na ca xs ha B hv nb h0 cb ys hb r hr hT
      · obtain ⟨hh, hn⟩ := hv.half rfl
        by_cases h0 : nb = u + 1
        · subst h0
          exact ext_c3 w q (by omega) (by omega) hpr A na ca xs ha B (u + 1) u _ rfl hv hv hn cb ys hb r hr hT
        · exact ext_c4 w q (by omega) (by omega) hpr A na ca xs ha B (u + 1) u _ rfl hv hv hn nb h0 cb ys hb r hr hT
    · exact ext_c0 w q (by omega) (by omega) hpr A na ca xs ha B hi nb cb ys hb r hr hT
  · have HN := Lib.hid (sfield_no p hp hF w hT)
    clear hF
    go_enter Tryd.func10, Tryd.ntmps10
    go_wp2_with fail
    refine (HN.out).mono ?_
    rintro e w1 ⟨rfl, hb1⟩
    go_wp2
    go_ret
    exact ⟨rfl, hb1⟩
end Go.Proofs.YtkhkoeibigpdnaaDoor
