/- Walks: same.Spoil; the law PolyAdds. -/
import Derived.Test.YtbafkfnceednlaaDoorLawF4
import Derived.Test.YtbafkfnceednlaaDoorEach
import Derived.Test.YtbafkfnceednlaaDoorArgU
set_option linter.unusedVariables false
namespace Go.Proofs.YtbafkfnceednlaaDoor
open Go.RowKit Zp

theorem pmul_n' (p : Nat) [NeZero p] (hp2 : p ≤ 2147483647) (b : Nat) (A B : Option Addr) (na ca nb cb : Nat) (xs ys : List Int) (hna : xs.length = na) (hnb : ys.length = nb) (hxs : ∀ n ∈ xs, I64 n) (hys : ∀ n ∈ ys, I64 n) (hrx : na * 8 ≤ 140737488351232) (hry : nb * 8 ≤ 140737488351232) (hcx : na ≤ ca) (hcy : nb ≤ cb)
    (w : World) (hc : w.cell? ⟨b, 0, none⟩ = some (vi p)) (hsx : SL w A xs) (hsy : SL w B ys) :
    Calls Tryd.prog 50 #[.pointer (some ⟨b, 0, none⟩), .slice A na ca, .slice B nb cb] w fun e w' => Made (fvs (trimL (mulL (els p xs) (els p ys)))) w e w' := by
  subst hna hnb
  exact pmul_any p hp2 b A B ca cb xs ys hxs hys hrx hry hcx hcy w hc hsx hsy
theorem degree_n' (p : Nat) [NeZero p] (hp2 : p ≤ 2147483647) (b : Nat) (A : Option Addr) (n cap : Nat) (xs : List Int) (hn : xs.length = n) (hxs : ∀ n ∈ xs, I64 n) (hreach : n * 8 ≤ 281474976710656) (w : World) (hc : w.cell? ⟨b, 0, none⟩ = some (vi p)) (hs : SL w A xs) :
    Calls Tryd.prog 52 #[.pointer (some ⟨b, 0, none⟩), .slice A n cap] w fun e w' => e = .returned (vi (degL (els p xs))) ∧ w = w' := by
  subst hn
  exact degree_any p hp2 b A cap xs hxs hreach w hc hs

/-- all that lay below a block lies as it did -/
def Spoils (base : Nat) (w : World) (e : Ending) (w' : World) : Prop := (∃ v, e = .returned v) ∧ Below base w w'
set_option maxHeartbeats 1000000 in
theorem spoil_any (base : Nat) (v : Value) (n : Nat) (xs : List Int) (hml : xs.length = n) (hn : n ≤ 8388608) (w : World) (hbase : base ≤ w.heap.size) (hown : Own w base v xs) :
    Calls Tryd.prog 56 #[v] w fun e w' => Spoils base w e w' := by
  have hrep : ∃ ys : List Int, ys.length = n ∧ Own w base v ys := ⟨xs, hml, hown⟩
  obtain ⟨A, n1, c, rfl, hl, hc, hcm, _⟩ := hown.shapeN
  rw [hml] at hl
  subst hl
  have hg : 0 < n → ∃ g, A = some ⟨g, 0, none⟩ := fun h0 => by
    obtain ⟨g, cap, e, _⟩ := hown.block (by omega)
    injection e with e1
    exact ⟨g, e1⟩
  have HREP := Lib.hid hrep
  have HG := Lib.hid hg
  clear hrep hml hown hcm hg
  go_enter Tryd.func56, Tryd.ntmps56
  go_wp2
  go_loopw [2] (fun i wr => ∃ k : Nat, k ≤ n ∧ i = vi k ∧ (∃ ys : List Int, ys.length = n ∧ Own wr base (.slice A n c) ys) ∧ Below base w wr) (fun i _ => n - (intOf i).toNat)
  case atStart => exact ⟨0, Nat.zero_le _, rfl, HREP.out, Below.refl _ _⟩
  case round =>
    obtain ⟨k, hk, rfl, ⟨ys, hyl, hown⟩, hb⟩ := hrel
    have HYL := Lib.hid hyl
    clear hyl
    by_cases hkn : k < n
    · obtain ⟨g, rfl⟩ := HG.out (by omega)
      have hat := hown.at_ HYL.out.symm k (by rw [HYL.out]; exact hkn)
      have hfz := hown.frozen_ HYL.out.symm k
      have hst := hown.store HYL.out.symm k (-77)
      have hgl := (hown.lt g rfl).1
      generalize ys[k]'(by rw [HYL.out]; exact hkn) = y at hat
      have HST := Lib.hid hst
      clear hst hown
      go_wp2
      go_roundw
      case rel => exact ⟨k + 1, by omega, by go_num, ⟨ys.set k (-77), by rw [List.length_set]; exact HYL.out, HST.out⟩, hb.setCell (by simpa using hgl) _⟩
      case measure => simp [intOf]; omega
    · obtain rfl : k = n := by omega
      have hlit := sl_lit' wr [-78, -79]
      have hba : Below wr.heap.size wr (wr.alloc (.cells #[vi (-78), vi (-79)] 3)) := (Below.refl _ _).alloc (Nat.le_refl _) _
      have hown' := hown.below hba
      have hba2 : Below base w (wr.alloc (.cells #[vi (-78), vi (-79)] 3)) := hb.trans (hba.mono (Nat.le_trans hbase hb.size))
      have hsz : base ≤ (wr.alloc (.cells #[vi (-78), vi (-79)] 3)).heap.size := Nat.le_trans (Nat.le_trans hbase hb.size) hba.size
      go_wp2_with (at_builtin; refine wpList_appA _ rfl _ _ rfl base _ ys _ 2 2 [-78, -79] rfl rfl rfl hown' hlit (by rw [HYL.out]; omega) hsz ?_; intro v' w2 hg)
      go_end0
      exact ⟨⟨_, rfl⟩, hg.below hba2 hown' (Nat.le_refl _) hsz⟩

set_option maxRecDepth 100000 in
set_option maxHeartbeats 4000000 in
theorem adds_walk (w : World) (p : Int) (hp : I64 p) (A : Option Addr) (na ca : Nat) (xs : List Int) (ha : ArgU w A na ca xs) (B : Option Addr) (nb cb : Nat) (ys : List Int) (hb : ArgU w B nb cb ys) (hT : Typed w) :
    Calls Tryd.prog 11 #[vi p, .slice A na ca, .slice B nb cb] w fun e w' => SaysW (.bool true) w e w' := by
  obtain ⟨ha, hca⟩ := ha
  obtain ⟨hb, hcb⟩ := hb
  have hna := ha.cap
  have hnb := hb.cap
  have HLA := Lib.hid ha.len
  have HLB := Lib.hid hb.len
  by_cases hF : HasField p
  · obtain ⟨h3, hm, hpr⟩ := hF
    obtain ⟨q, rfl⟩ := Int.eq_ofNat_of_zero_le (a := p) (by omega)
    rw [Int.toNat_natCast] at hpr
    haveI := hpr.ne
    have hqm : q ≤ 2147483647 := by omega
    have hq2 : 2 ≤ q := by omega
    have HF := Lib.hid (sfield_yes q (by omega) hqm hpr w hT)
    have h1 := fun b A2 B2 c2 c3 w hc hsx hsy => padd_any q hqm b A2 B2 na c2 nb c3 xs ys HLA.out HLB.out ha.i64 hb.i64 (by omega) (by omega) w hc hsx hsy
    have h2 := fun w hsx hsy => rplus_n q hqm A B na ca nb cb xs ys HLA.out HLB.out ha.i64 hb.i64 (by omega) (by omega) w hsx hsy
    generalize trimL (addL (els q xs) (els q ys)) = S at h1 h2
    have h3' := fun b A2 B2 c2 c3 w hc hsx hsy => psub_any q hqm b A2 B2 na c2 nb c3 xs ys HLA.out HLB.out ha.i64 hb.i64 (by omega) (by omega) w hc hsx hsy
    have h4 := fun w hsx hsy => rminus_n q hqm A B na ca nb cb xs ys HLA.out HLB.out ha.i64 hb.i64 (by omega) (by omega) w hsx hsy
    generalize trimL (subL (els q xs) (els q ys)) = D at h3' h4
    have h5 := fun b A2 B2 c2 c3 hc2 hc3 w hc hsx hsy => pmul_n' q hqm b A2 B2 na c2 nb c3 xs ys HLA.out HLB.out ha.i64 hb.i64 (by omega) (by omega) hc2 hc3 w hc hsx hsy
    have h6 := fun w hsx hsy => rtimes_n q hqm A B na ca nb cb xs ys HLA.out HLB.out ha.i64 hb.i64 (by omega) w hsx hsy
    generalize trimL (mulL (els q xs) (els q ys)) = M at h5 h6
    have h7 := fun b A2 c2 hc2 w hc hsx => trim_n q hqm b A2 na c2 xs HLA.out ha.i64 (by omega) hc2 w hc hsx
    have h8 := fun w hsx => rtrim_n q hqm A na ca xs HLA.out ha.i64 (by omega) hna w hsx
    have hTl := trimL_length_le (els q xs)
    rw [List.length_map, HLA.out] at hTl
    generalize trimL (els q xs) = T at h7 h8 hTl
    have h9 := fun b A2 c2 w hc hsx => degree_n' q hqm b A2 na c2 xs HLA.out ha.i64 (by omega) w hc hsx
    have h10 := fun w hsx => rdegree_n q hqm A na ca xs HLA.out ha.i64 (by omega) w hsx
    generalize degL (els q xs) = G at h9 h10
    have H1 := Lib.hid h1
    have H2 := Lib.hid h2
    have H3 := Lib.hid h3'
    have H4 := Lib.hid h4
    have H5 := Lib.hid h5
    have H6 := Lib.hid h6
    have H7 := Lib.hid h7
    have H8 := Lib.hid h8
    have H9 := Lib.hid h9
    have H10 := Lib.hid h10
    clear hpr h1 h2 h3' h4 h5 h6 h7 h8 h9 h10
    go_enter Tryd.func11, Tryd.ntmps11
    go_wp2_with fail
    refine (HF.out).mono ?_
    rintro e w1 ⟨b, rfl, F1, hb1⟩
    have sa1 := ha.sl.below hb1
    have sb1 := hb.sl.below hb1
    have hba1 : Below w1.heap.size w1 (w1.alloc (.cells #[] 3)) := (Below.refl _ _).alloc (Nat.le_refl _) _
    have ho1 := own_empty w1 w1.heap.size (Nat.le_refl _)
    have sa1' := sa1.below hba1
    go_wp2_with (first | (at_builtin; refine wpList_appA _ rfl _ _ rfl w1.heap.size _ [] A na ca xs rfl rfl HLA.out ho1 sa1' (by simp; omega) (by simp) ?_; intro v' w2 hg; have hown := hg.own; have hb2 := hg.below hba1 ho1 (Nat.le_refl _) (by simp); rw [List.nil_append] at hown; clear hg; obtain ⟨AX, n2, cX, rfl, hl2, hcX, _, sx2⟩ := hown.shapeN; rw [HLA.out] at hl2; subst hl2; clear hown; have F2 := F1.below hb2 F1.le; have hbw2 := hb1.trans (hb2.mono hb1.size); have sb2 := sb1.below hb2; have hba2 : Below w2.heap.size w2 (w2.alloc (.cells #[] 3)) := (Below.refl _ _).alloc (Nat.le_refl _) _; have ho2 := own_empty w2 w2.heap.size (Nat.le_refl _); have sb2' := sb2.below hba2) | (at_builtin; refine wpList_appA _ rfl _ _ rfl w2.heap.size _ [] B nb cb ys rfl rfl HLB.out ho2 sb2' (by simp; omega) (by simp) ?_; intro v' w3 hg; have hown := hg.own; have hb3 := hg.below hba2 ho2 (Nat.le_refl _) (by simp); rw [List.nil_append] at hown; clear hg; obtain ⟨AY, n3, cY, rfl, hl3, hcY, _, sy3⟩ := hown.shapeN; rw [HLB.out] at hl3; subst hl3; clear hown))
    have F3 := F2.below hb3 F2.le
    have sa3 := (sa1.below hb2).below hb3
    have sb3 := sb2.below hb3
    have sx3 := sx2.below hb3
    have bw3 := hbw2.trans (hb3.mono hbw2.size)
    have hcb3 := F3.c0
    clear sa1 sa1' sb1 sb2 sb2' sx2 F1 F2 ho1 ho2 hba1 hba2 hb2 hb3 hbw2
    refine (H1.out b AX AY cX cY _ hcb3 sx3 sy3).mono ?_
    rintro e w4 ⟨v4, rfl, own4, hb4⟩
    have F4 := F3.below hb4 F3.le
    have hcb4 := F4.c0
    have sa4 := sa3.below hb4
    have sb4 := sb3.below hb4
    have sx4 := sx3.below hb4
    have sy4 := sy3.below hb4
    have bw4 := bw3.trans (hb4.mono bw3.size)
    obtain ⟨A4, n4, c4, rfl, hl4, hc4, hm4, ss4⟩ := own4.shapeN
    have HL4 := Lib.hid hl4
    have hn4 : n4 ≤ 9223372036854775807 := by simp only [maxLen] at hm4; omega
    clear own4 hl4 hm4 hc4 F3 hcb3 sa3 sb3 sx3 sy3
    go_wp2_with fail
    refine (H3.out b AX AY cX cY _ hcb4 sx4 sy4).mono ?_
    rintro e w5 ⟨v5, rfl, own5, hb5⟩
    have F5 := F4.below hb5 F4.le
    have hcb5 := F5.c0
    have sa5 := sa4.below hb5
    have sb5 := sb4.below hb5
    have sx5 := sx4.below hb5
    have sy5 := sy4.below hb5
    have ss5 := ss4.below hb5
    have bw5 := bw4.trans (hb5.mono bw4.size)
    obtain ⟨A5, n5, c5, rfl, hl5, hc5, hm5, sd5⟩ := own5.shapeN
    have HL5 := Lib.hid hl5
    have hn5 : n5 ≤ 9223372036854775807 := by simp only [maxLen] at hm5; omega
    clear own5 hl5 hm5 hc5 F4 hcb4 sa4 sb4 sx4 sy4 ss4
    go_wp2_with fail
    refine (H5.out b AX AY cX cY hcX hcY _ hcb5 sx5 sy5).mono ?_
    rintro e w6 ⟨v6, rfl, own6, hb6⟩
    have F6 := F5.below hb6 F5.le
    have hcb6 := F6.c0
    have sa6 := sa5.below hb6
    have sb6 := sb5.below hb6
    have sx6 := sx5.below hb6
    have sy6 := sy5.below hb6
    have ss6 := ss5.below hb6
    have sd6 := sd5.below hb6
    have bw6 := bw5.trans (hb6.mono bw5.size)
    obtain ⟨A6, n6, c6, rfl, hl6, hc6, hm6, sm6⟩ := own6.shapeN
    have HL6 := Lib.hid hl6
    have hn6 : n6 ≤ 9223372036854775807 := by simp only [maxLen] at hm6; omega
    clear own6 hl6 hm6 hc6 F5 hcb5 sa5 sb5 sx5 sy5 ss5 sd5
    go_wp2_with fail
    refine (H7.out b AX cX hcX _ hcb6 sx6).mono ?_
    rintro e w7 ⟨v7, rfl, own7, hb7⟩
    have F7 := F6.below hb7 F6.le
    have hcb7 := F7.c0
    have sa7 := sa6.below hb7
    have sb7 := sb6.below hb7
    have sx7 := sx6.below hb7
    have sy7 := sy6.below hb7
    have ss7 := ss6.below hb7
    have sd7 := sd6.below hb7
    have sm7 := sm6.below hb7
    have bw7 := bw6.trans (hb7.mono bw6.size)
    obtain ⟨A7, n7, c7, rfl, hl7, hc7, hm7, st7⟩ := own7.shapeN
    have HL7 := Lib.hid hl7
    have hn7 : n7 ≤ 9223372036854775807 := by simp only [maxLen] at hm7; omega
    have ownT7 := own7
    clear own7 hl7 hm7 hc7 F6 hcb6 
    go_wp2_with fail
    have bt7 := hb7
    refine (H9.out b AX cX _ hcb7 sx7).mono ?_
    rintro e w' ⟨rfl, rfl⟩
    go_wp2_with fail
    refine (H2.out _ sa7 sb7).mono ?_
    rintro e w8 ⟨v8, rfl, own8, hb8⟩
    have sa8 := sa7.below hb8
    have sb8 := sb7.below hb8
    have sx8 := sx7.below hb8
    have sy8 := sy7.below hb8
    have ss8 := ss7.below hb8
    have sd8 := sd7.below hb8
    have sm8 := sm7.below hb8
    have st8 := st7.below hb8
    have ownT8 := ownT7.below hb8
    have bt8 : Below w6.heap.size w6 w8 := bt7.trans (hb8.mono bt7.size)
    obtain ⟨A8, n8, c8, rfl, hl8, hc8, hm8, sS8⟩ := own8.shapeN
    have HL8 := Lib.hid hl8
    have hn8 : n8 ≤ 9223372036854775807 := by simp only [maxLen] at hm8; omega
    clear own8 hl8 hm8 hc8 sa7 sb7 sx7 sy7 ss7 sd7 sm7 st7 ownT7 bt7 hb8
    go_wp2_with fail
    refine (H4.out _ sa8 sb8).mono ?_
    rintro e w9 ⟨v9, rfl, own9, hb9⟩
    have sa9 := sa8.below hb9
    have sb9 := sb8.below hb9
    have sx9 := sx8.below hb9
    have sy9 := sy8.below hb9
    have ss9 := ss8.below hb9
    have sd9 := sd8.below hb9
    have sm9 := sm8.below hb9
    have st9 := st8.below hb9
    have sS9 := sS8.below hb9
    have ownT9 := ownT8.below hb9
    have bt9 : Below w6.heap.size w6 w9 := bt8.trans (hb9.mono bt8.size)
    obtain ⟨A9, n9, c9, rfl, hl9, hc9, hm9, sD9⟩ := own9.shapeN
    have HL9 := Lib.hid hl9
    have hn9 : n9 ≤ 9223372036854775807 := by simp only [maxLen] at hm9; omega
    clear own9 hl9 hm9 hc9 sa8 sb8 sx8 sy8 ss8 sd8 sm8 st8 sS8 ownT8 bt8 hb9
    go_wp2_with fail
    refine (H6.out _ sa9 sb9).mono ?_
    rintro e w10 ⟨v10, rfl, own10, hb10⟩
    have sa10 := sa9.below hb10
    have sb10 := sb9.below hb10
    have sx10 := sx9.below hb10
    have sy10 := sy9.below hb10
    have ss10 := ss9.below hb10
    have sd10 := sd9.below hb10
    have sm10 := sm9.below hb10
    have st10 := st9.below hb10
    have sS10 := sS9.below hb10
    have sD10 := sD9.below hb10
    have ownT10 := ownT9.below hb10
    have bt10 : Below w6.heap.size w6 w10 := bt9.trans (hb10.mono bt9.size)
    obtain ⟨A10, n10, c10, rfl, hl10, hc10, hm10, sM10⟩ := own10.shapeN
    have HL10 := Lib.hid hl10
    have hn10 : n10 ≤ 9223372036854775807 := by simp only [maxLen] at hm10; omega
    clear own10 hl10 hm10 hc10 sa9 sb9 sx9 sy9 ss9 sd9 sm9 st9 sS9 sD9 ownT9 bt9 hb10
    go_wp2_with fail
    refine (H8.out _ sa10).mono ?_
    rintro e w11 ⟨v11, rfl, own11, hb11⟩
    have sa11 := sa10.below hb11
    have sb11 := sb10.below hb11
    have sx11 := sx10.below hb11
    have sy11 := sy10.below hb11
    have ss11 := ss10.below hb11
    have sd11 := sd10.below hb11
    have sm11 := sm10.below hb11
    have st11 := st10.below hb11
    have sS11 := sS10.below hb11
    have sD11 := sD10.below hb11
    have sM11 := sM10.below hb11
    have ownT11 := ownT10.below hb11
    have bt11 : Below w6.heap.size w6 w11 := bt10.trans (hb11.mono bt10.size)
    obtain ⟨A11, n11, c11, rfl, hl11, hc11, hm11, sT11⟩ := own11.shapeN
    have HL11 := Lib.hid hl11
    have hn11 : n11 ≤ 9223372036854775807 := by simp only [maxLen] at hm11; omega
    clear own11 hl11 hm11 hc11 sa10 sb10 sx10 sy10 ss10 sd10 sm10 st10 sS10 sD10 sM10 ownT10 bt10 hb11
    go_wp2_with fail
    refine (H10.out _ sa11).mono ?_
    rintro e w' ⟨rfl, rfl⟩
    go_wp2_with fail
    refine (ints_same A4 A8 n4 c4 n8 c8 _ _ HL4.out HL8.out rfl hn4 _ (by exact ss11) (by exact sS11)).mono ?_
    rintro e w' ⟨rfl, q0, rfl⟩
    go_wp2_with fail
    refine (ints_same A5 A9 n5 c5 n9 c9 _ _ HL5.out HL9.out rfl hn5 _ (by exact sd11) (by exact sD11)).mono ?_
    rintro e w' ⟨rfl, q1, rfl⟩
    go_wp2_with fail
    refine (ints_same A6 A10 n6 c6 n10 c10 _ _ HL6.out HL10.out rfl hn6 _ (by exact sm11) (by exact sM11)).mono ?_
    rintro e w' ⟨rfl, q2, rfl⟩
    go_wp2_with fail
    refine (ints_same A7 A11 n7 c7 n11 c11 _ _ HL7.out HL11.out rfl hn7 _ (by exact st11) (by exact sT11)).mono ?_
    rintro e w' ⟨rfl, q3, rfl⟩
    go_wp2_with fail
    have hTn : n7 ≤ 8388608 := by have := HL7.out; rw [List.length_map] at this; omega
    have bsz : w6.heap.size ≤ w11.heap.size := bt11.size
    refine (spoil_any w6.heap.size _ n7 _ HL7.out hTn _ (by exact bsz) (by exact ownT11.drewN _)).mono ?_
    rintro e w12 ⟨⟨vv, rfl⟩, hb12⟩
    have bt12 := (below_drewN bt11 _).trans hb12
    have sa12 := sa6.below bt12
    have sb12 := sb6.below bt12
    have sx12 := sx6.below bt12
    have sy12 := sy6.below bt12
    have bw12 := bw6.trans (bt12.mono bw6.size)
    go_wp2_with fail
    refine (ints_same AX A na cX na ca xs xs HLA.out HLA.out rfl (by omega) _ sx12 sa12).mono ?_
    rintro e w' ⟨rfl, q4, rfl⟩
    go_wp2_with fail
    refine (ints_same AY B nb cY nb cb ys ys HLB.out HLB.out rfl (by omega) _ (by exact sy12) (by exact sb12)).mono ?_
    rintro e w' ⟨rfl, q5, rfl⟩
    go_wp2
    go_ret
    exact ⟨rfl, below_drewN bw12 _⟩
  · have HN := Lib.hid (sfield_no p hp hF w hT)
    clear hF
    go_enter Tryd.func11, Tryd.ntmps11
    go_wp2_with fail
    refine (HN.out).mono ?_
    rintro e w1 ⟨rfl, hb1⟩
    go_wp2
    go_ret
    exact ⟨rfl, hb1⟩
end Go.Proofs.YtbafkfnceednlaaDoor
