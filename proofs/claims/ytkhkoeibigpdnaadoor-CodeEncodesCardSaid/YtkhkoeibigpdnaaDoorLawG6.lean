/- The walk of the law CodeEncodes. -/
import Derived.Test.YtkhkoeibigpdnaaDoorLawG3
import Derived.Test.YtkhkoeibigpdnaaDoorQc
import Derived.Test.YtkhkoeibigpdnaaDoorLawG5
import Derived.Test.YtkhkoeibigpdnaaDoorLawG1
set_option linter.unusedVariables false
namespace Go.Proofs.YtkhkoeibigpdnaaDoor
open Go.RowKit Zp

set_option maxRecDepth 100000 in
set_option maxHeartbeats 4000000 in
theorem cencodes_walk (w : World) (p : Int) (hp : I64 p) (size : Int) (hs : I64 size) (t : Int) (ht : I64 t) (k : Int) (hk : I64 k) (A : Option Addr) (na ca : Nat) (xs : List Int) (ha : ArgS w A na ca xs) (B : Option Addr) (nb cb : Nat) (ys : List Int) (hb : ArgS w B nb cb ys) (hT : Typed w) :
    Calls Tryd.prog 7 #[vi p, vi size, vi t, vi k, .slice A na ca, .slice B nb cb] w fun e w' => SaysW (.bool true) w e w' := by
  have hra := ha.r8
  rw [ha.len] at hra
  by_cases hD : HasDom2 p size t
  · obtain ⟨⟨h3, hm, hpr⟩, n, rfl, hsz, h0⟩ := hD
    obtain ⟨q, rfl⟩ := Int.eq_ofNat_of_zero_le (a := p) (by omega)
    rw [Int.toNat_natCast] at hpr hsz
    haveI := hpr.ne
    have hqm : q ≤ 2147483647 := by omega
    have hq2 : 2 ≤ q := by omega
    have HM := Lib.hid (made2_yes q n (by omega) hqm hpr t ht hsz h0 w hT)
    have hn := hsz.le
    have hn1 := hsz.pos
    obtain ⟨s, hsE⟩ : ∃ s, s = el q t := ⟨_, rfl⟩
    obtain ⟨r, hrE⟩ : ∃ r, r = rootI q (n : Int) := ⟨_, rfl⟩
    have hMT : MadeTwo q n t = fun w e w' => ∃ b D : Nat, e = .returned (.tuple #[.pointer (some ⟨D, 0, none⟩), RDom q n (fv s) (fv r), .bool true]) ∧ Dom w' w'.heap.size D b q n s ∧ Below w.heap.size w w' := by rw [hsE, hrE]; rfl
    rw [hMT] at HM
    have hE1 := fun (h : ¬ (1 ≤ k ∧ k ≤ n)) S D b W (hD : Dom W S D b q n s) => encode_range D n k h (.slice A na ca) W hD.c1
    have hE2 := fun (h : 1 ≤ k ∧ k ≤ n) (hd : k ≤ degL (els q xs)) S D b W (hD : Dom W S D b q n s) hsW => encode_size q S D b n s k h A na ca xs ha.len ha.i64 (by omega) W hD hsW hd
    have hE3 := fun (h : 1 ≤ k ∧ k ≤ n) (hd : degL (els q xs) < k) S D b W (hD : Dom W S D b q n s) hsW => encode_any q S D b n s k h A na ca xs ha.len ha.i64 (by omega) W hD hsW hd
    have hDG := fun W hsW => rdegree_n q hqm A na ca xs ha.len ha.i64 (by omega) W hsW
    have hV := fun W hsW => rvalues_any q hq2 hqm n hn1 hn s r A na ca xs ha.len ha.i64 (by omega) W hsW
    have hIS := fun S D b W hD hsW => is_any q S D b n s k B nb cb ys hb.len hb.i64 W hD hsW
    have hRI := fun W hsW => ris_any q hq2 hqm n hn1 hn s k hk B nb cb ys hb.len hb.i64 W hsW
    have hVl : (fvs (valL s r n (els q xs))).length = n := by rw [List.length_map, valL_length]
    rw [← hrE] at hE3 hRI
    have he3 := fun W hg => error_any 3 3 W hg
    rw [errV_ne (by decide), show ((3 : Int) == 3) = true from rfl] at he3
    have he2 := fun W hg => error_any 2 2 W hg
    rw [errV_ne (by decide), show ((2 : Int) == 2) = true from rfl] at he2
    have he0 := fun W hg => error_any 0 0 W hg
    rw [errV_zero, show ((0 : Int) == 0) = true from rfl] at he0
    generalize fvs (valL s r n (els q xs)) = V at hE3 hV hVl
    generalize degL (els q xs) = d at hE2 hE3 hDG
    generalize cwB q n s k ys = C at hIS hRI
    have HE1 := Lib.hid hE1
    have HE2 := Lib.hid hE2
    have HE3 := Lib.hid hE3
    have HDG := Lib.hid hDG
    have HV := Lib.hid hV
    have HIS := Lib.hid hIS
    have HRI := Lib.hid hRI
    have HVL := Lib.hid hVl
    have HR3 := Lib.hid he3
    have HR2 := Lib.hid he2
    have HR0 := Lib.hid he0
    clear h0 hpr hsz hsE hrE hMT hE1 hE2 hE3 hDG hV hIS hRI hVl he3 he2 he0
    by_cases h1 : 1 ≤ k ∧ k ≤ n
    · obtain ⟨h1a, h1b⟩ := h1
      have HK := Lib.hid (show 1 ≤ k ∧ k ≤ n from ⟨h1a, h1b⟩)
      by_cases h2 : d < k
      · have H2 := Lib.hid h2
        go_enter Tryd.func7, Tryd.ntmps7
        go_wp2_with fail
        refine (HM.out).mono ?_
        rintro e w1 ⟨b, D, rfl, hD, hb1⟩
        have hba : Below w1.heap.size w1 (w1.alloc (.cells #[vi q, vi n, vi (fv s), vi (fv r)] 31)) := (Below.refl _ _).alloc (Nat.le_refl _) _
        have hrd := RD.new w1 31 q n (fv s) (fv r)
        have hltB : w1.heap.size < (w1.alloc (.cells #[vi q, vi n, vi (fv s), vi (fv r)] 31)).heap.size := by simp
        have hD2 := hD.below hba hD.fld.le
        have bw2 := hb1.trans (hba.mono hb1.size)
        have sa2 := ha.sl.below bw2
        have sb2 := hb.sl.below bw2
        obtain ⟨B0, hB⟩ : ∃ B0, B0 = w1.heap.size := ⟨_, rfl⟩
        go_wp2_with fail
        rw [← hB] at hrd hltB hD2 ⊢
        clear hD hba hB hb1
        generalize w1.alloc (.cells #[vi q, vi n, vi (fv s), vi (fv r)] 31) = w2 at hrd hltB hD2 bw2 sa2 sb2 ⊢
        refine (HE3.out HK.out H2.out _ D b _ hD2 sa2).mono ?_
        rintro e w3 ⟨A3, c3, hl3, rfl, hc3, hm3, sl3, hb3⟩
        have hrd3 := hrd.below hb3 hltB
        have hlt3 := Nat.lt_of_lt_of_le hltB hb3.size
        have hD3 := hD2.below hb3 hD2.fld.le
        have sa3 := sa2.below hb3
        have sb3 := sb2.below hb3
        have bw3 := bw2.trans (hb3.mono bw2.size)
        clear hb3 hrd hD2 sa2 sb2 bw2 hl3
        go_wp2_with fail
        refine (HDG.out _ sa3).mono ?_
        rintro e w' ⟨rfl, rfl⟩
        go_wp2_with fail
        refine (HR0.out _ (hT.below bw3)).mono ?_
        rintro e w4 ⟨rfl, hb4⟩
        have hrd4 := hrd3.below hb4 hlt3
        have hlt4 := Nat.lt_of_lt_of_le hlt3 hb4.size
        have hD4 := hD3.below hb4 hD3.fld.le
        have sa4 := sa3.below hb4
        have sb4 := sb3.below hb4
        have sl4 := sl3.below hb4
        have bw4 := bw3.trans (hb4.mono bw3.size)
        have d0 := hrd4.c0
        have d1 := hrd4.c1
        have d2 := hrd4.c2
        have d3 := hrd4.c3
        clear hb4 hrd3 hD3 sa3 sb3 sl3 bw3
        go_wp2_with fail
        refine (HV.out _ sa4).mono ?_
        rintro e w5 ⟨v5, rfl, hown5, hb5⟩
        have hrd5 := hrd4.below hb5 hlt4
        have hlt5 := Nat.lt_of_lt_of_le hlt4 hb5.size
        have hD5 := hD4.below hb5 hD4.fld.le
        have sb5 := sb4.below hb5
        have sl5 := sl4.below hb5
        have bw5 := bw4.trans (hb5.mono bw4.size)
        obtain ⟨A5, n5, c5, rfl, hl5, hc5, _, sv5⟩ := hown5.shapeN
        rw [HVL.out] at hl5
        subst hl5
        clear hb5 hrd4 hD4 sa4 sb4 sl4 bw4 d0 d1 d2 d3 hown5
        go_wp2_with fail
        refine (ints_sameH A3 A5 n c3 n c5 V V HVL.out HVL.out rfl (by omega) _ sl5 sv5).mono ?_
        rintro e wz ⟨rfl, hkz⟩
        have hbz : Below w5.heap.size w5 wz := below_draws hkz
        have hDz := hD5.below hbz hD5.fld.le
        have hrdz := hrd5.below hbz hlt5
        have hltz := Nat.lt_of_lt_of_le hlt5 hbz.size
        have sbz := sb5.below hbz
        have bwz := bw5.trans (hbz.mono bw5.size)
        clear hbz hkz hD5 hrd5 sb5 bw5 sl5 sv5
        go_wp2_with fail
        refine (HIS.out _ D b _ hDz sbz).mono ?_
        rintro e wy ⟨rfl, hby⟩
        have hrdy := hrdz.below hby hltz
        have sby := sbz.below hby
        have bwy := bwz.trans (hby.mono bwz.size)
        have d0 := hrdy.c0
        have d1 := hrdy.c1
        have d2 := hrdy.c2
        have d3 := hrdy.c3
        clear hby hrdz sbz bwz hDz
        go_wp2_with fail
        refine (HRI.out _ sby).mono ?_
        rintro e wx ⟨rfl, hbx⟩
        have bwx := bwy.trans (hbx.mono bwy.size)
        clear d0 d1 d2 d3 hrdy
        go_wp2
        go_ret
        exact ⟨by first | rfl | simp, bwx⟩
      · have H2 := Lib.hid (show k ≤ d by omega)
        have t9 : k ≤ d := by omega
        clear h2
        go_enter Tryd.func7, Tryd.ntmps7
        go_wp2_with fail
        refine (HM.out).mono ?_
        rintro e w1 ⟨b, D, rfl, hD, hb1⟩
        have hba : Below w1.heap.size w1 (w1.alloc (.cells #[vi q, vi n, vi (fv s), vi (fv r)] 31)) := (Below.refl _ _).alloc (Nat.le_refl _) _
        have hrd := RD.new w1 31 q n (fv s) (fv r)
        have hltB : w1.heap.size < (w1.alloc (.cells #[vi q, vi n, vi (fv s), vi (fv r)] 31)).heap.size := by simp
        have hD2 := hD.below hba hD.fld.le
        have bw2 := hb1.trans (hba.mono hb1.size)
        have sa2 := ha.sl.below bw2
        have sb2 := hb.sl.below bw2
        obtain ⟨B0, hB⟩ : ∃ B0, B0 = w1.heap.size := ⟨_, rfl⟩
        go_wp2_with fail
        rw [← hB] at hrd hltB hD2 ⊢
        clear hD hba hB hb1
        generalize w1.alloc (.cells #[vi q, vi n, vi (fv s), vi (fv r)] 31) = w2 at hrd hltB hD2 bw2 sa2 sb2 ⊢
        refine (HE2.out HK.out H2.out _ D b _ hD2 sa2).mono ?_
        rintro e w' ⟨rfl, rfl⟩
        go_wp2_with fail
        refine (HDG.out _ sa2).mono ?_
        rintro e w' ⟨rfl, rfl⟩
        go_wp2_with fail
        refine (Hid.out HR2 _ (hT.below bw2)).mono ?_
        rintro e w4 ⟨rfl, hb4⟩
        have hrd4 := hrd.below hb4 hltB
        have hlt4 := Nat.lt_of_lt_of_le hltB hb4.size
        have hD4 := hD2.below hb4 (by omega)
        have sb4 := sb2.below hb4
        have bw4 := bw2.trans (hb4.mono bw2.size)
        clear hb4 hrd hD2 sa2 sb2 bw2
        go_wp2_with fail
        refine (ints_sameH none none 0 0 0 0 [] [] rfl rfl rfl (by omega) _ SL.nil SL.nil).mono ?_
        rintro e wz ⟨rfl, hkz⟩
        have hbz : Below w4.heap.size w4 wz := below_draws hkz
        have hDz := hD4.below hbz hD4.fld.le
        have hrdz := hrd4.below hbz hlt4
        have hltz := Nat.lt_of_lt_of_le hlt4 hbz.size
        have sbz := sb4.below hbz
        have bwz := bw4.trans (hbz.mono bw4.size)
        clear hbz hkz hD4 hrd4 sb4 bw4
        go_wp2_with fail
        refine (HIS.out _ D b _ hDz sbz).mono ?_
        rintro e wy ⟨rfl, hby⟩
        have hrdy := hrdz.below hby hltz
        have sby := sbz.below hby
        have bwy := bwz.trans (hby.mono bwz.size)
        have d0 := hrdy.c0
        have d1 := hrdy.c1
        have d2 := hrdy.c2
        have d3 := hrdy.c3
        clear hby hrdz sbz bwz hDz
        go_wp2_with fail
        refine (HRI.out _ sby).mono ?_
        rintro e wx ⟨rfl, hbx⟩
        have bwx := bwy.trans (hbx.mono bwy.size)
        clear d0 d1 d2 d3 hrdy
        go_wp2
        go_ret
        exact ⟨by first | rfl | simp, bwx⟩
    · have HK := Lib.hid h1
      by_cases h2 : k < 1
      · clear h1
        go_enter Tryd.func7, Tryd.ntmps7
        go_wp2_with fail
        refine (HM.out).mono ?_
        rintro e w1 ⟨b, D, rfl, hD, hb1⟩
        have hba : Below w1.heap.size w1 (w1.alloc (.cells #[vi q, vi n, vi (fv s), vi (fv r)] 31)) := (Below.refl _ _).alloc (Nat.le_refl _) _
        have hrd := RD.new w1 31 q n (fv s) (fv r)
        have hltB : w1.heap.size < (w1.alloc (.cells #[vi q, vi n, vi (fv s), vi (fv r)] 31)).heap.size := by simp
        have hD2 := hD.below hba hD.fld.le
        have bw2 := hb1.trans (hba.mono hb1.size)
        have sa2 := ha.sl.below bw2
        have sb2 := hb.sl.below bw2
        obtain ⟨B0, hB⟩ : ∃ B0, B0 = w1.heap.size := ⟨_, rfl⟩
        go_wp2_with fail
        rw [← hB] at hrd hltB hD2 ⊢
        clear hD hba hB hb1
        generalize w1.alloc (.cells #[vi q, vi n, vi (fv s), vi (fv r)] 31) = w2 at hrd hltB hD2 bw2 sa2 sb2 ⊢
        refine (HE1.out HK.out _ D b _ hD2).mono ?_
        rintro e w' ⟨rfl, rfl⟩
        go_wp2_with fail
        refine (HDG.out _ sa2).mono ?_
        rintro e w' ⟨rfl, rfl⟩
        go_wp2_with fail
        refine (Hid.out HR3 _ (hT.below bw2)).mono ?_
        rintro e w4 ⟨rfl, hb4⟩
        have hrd4 := hrd.below hb4 hltB
        have hlt4 := Nat.lt_of_lt_of_le hltB hb4.size
        have hD4 := hD2.below hb4 (by omega)
        have sb4 := sb2.below hb4
        have bw4 := bw2.trans (hb4.mono bw2.size)
        clear hb4 hrd hD2 sa2 sb2 bw2
        go_wp2_with fail
        refine (ints_sameH none none 0 0 0 0 [] [] rfl rfl rfl (by omega) _ SL.nil SL.nil).mono ?_
        rintro e wz ⟨rfl, hkz⟩
        have hbz : Below w4.heap.size w4 wz := below_draws hkz
        have hDz := hD4.below hbz hD4.fld.le
        have hrdz := hrd4.below hbz hlt4
        have hltz := Nat.lt_of_lt_of_le hlt4 hbz.size
        have sbz := sb4.below hbz
        have bwz := bw4.trans (hbz.mono bw4.size)
        clear hbz hkz hD4 hrd4 sb4 bw4
        go_wp2_with fail
        refine (HIS.out _ D b _ hDz sbz).mono ?_
        rintro e wy ⟨rfl, hby⟩
        have hrdy := hrdz.below hby hltz
        have sby := sbz.below hby
        have bwy := bwz.trans (hby.mono bwz.size)
        have d0 := hrdy.c0
        have d1 := hrdy.c1
        have d2 := hrdy.c2
        have d3 := hrdy.c3
        clear hby hrdz sbz bwz hDz
        go_wp2_with fail
        refine (HRI.out _ sby).mono ?_
        rintro e wx ⟨rfl, hbx⟩
        have bwx := bwy.trans (hbx.mono bwy.size)
        clear d0 d1 d2 d3 hrdy
        go_wp2
        go_ret
        exact ⟨by first | rfl | simp, bwx⟩
      · have h4 : (n : Int) < k := by omega
        clear h1
        go_enter Tryd.func7, Tryd.ntmps7
        go_wp2_with fail
        refine (HM.out).mono ?_
        rintro e w1 ⟨b, D, rfl, hD, hb1⟩
        have hba : Below w1.heap.size w1 (w1.alloc (.cells #[vi q, vi n, vi (fv s), vi (fv r)] 31)) := (Below.refl _ _).alloc (Nat.le_refl _) _
        have hrd := RD.new w1 31 q n (fv s) (fv r)
        have hltB : w1.heap.size < (w1.alloc (.cells #[vi q, vi n, vi (fv s), vi (fv r)] 31)).heap.size := by simp
        have hD2 := hD.below hba hD.fld.le
        have bw2 := hb1.trans (hba.mono hb1.size)
        have sa2 := ha.sl.below bw2
        have sb2 := hb.sl.below bw2
        obtain ⟨B0, hB⟩ : ∃ B0, B0 = w1.heap.size := ⟨_, rfl⟩
        go_wp2_with fail
        rw [← hB] at hrd hltB hD2 ⊢
        clear hD hba hB hb1
        generalize w1.alloc (.cells #[vi q, vi n, vi (fv s), vi (fv r)] 31) = w2 at hrd hltB hD2 bw2 sa2 sb2 ⊢
        refine (HE1.out HK.out _ D b _ hD2).mono ?_
        rintro e w' ⟨rfl, rfl⟩
        go_wp2_with fail
        refine (HDG.out _ sa2).mono ?_
        rintro e w' ⟨rfl, rfl⟩
        go_wp2_with fail
        refine (Hid.out HR3 _ (hT.below bw2)).mono ?_
        rintro e w4 ⟨rfl, hb4⟩
        have hrd4 := hrd.below hb4 hltB
        have hlt4 := Nat.lt_of_lt_of_le hltB hb4.size
        have hD4 := hD2.below hb4 (by omega)
        have sb4 := sb2.below hb4
        have bw4 := bw2.trans (hb4.mono bw2.size)
        clear hb4 hrd hD2 sa2 sb2 bw2
        go_wp2_with fail
        refine (ints_sameH none none 0 0 0 0 [] [] rfl rfl rfl (by omega) _ SL.nil SL.nil).mono ?_
        rintro e wz ⟨rfl, hkz⟩
        have hbz : Below w4.heap.size w4 wz := below_draws hkz
        have hDz := hD4.below hbz hD4.fld.le
        have hrdz := hrd4.below hbz hlt4
        have hltz := Nat.lt_of_lt_of_le hlt4 hbz.size
        have sbz := sb4.below hbz
        have bwz := bw4.trans (hbz.mono bw4.size)
        clear hbz hkz hD4 hrd4 sb4 bw4
        go_wp2_with fail
        refine (HIS.out _ D b _ hDz sbz).mono ?_
        rintro e wy ⟨rfl, hby⟩
        have hrdy := hrdz.below hby hltz
        have sby := sbz.below hby
        have bwy := bwz.trans (hby.mono bwz.size)
        have d0 := hrdy.c0
        have d1 := hrdy.c1
        have d2 := hrdy.c2
        have d3 := hrdy.c3
        clear hby hrdz sbz bwz hDz
        go_wp2_with fail
        refine (HRI.out _ sby).mono ?_
        rintro e wx ⟨rfl, hbx⟩
        have bwx := bwy.trans (hbx.mono bwy.size)
        clear d0 d1 d2 d3 hrdy
        go_wp2
        go_ret
        exact ⟨by first | rfl | simp, bwx⟩
  · have HN := Lib.hid (made2_no p size t hp hs ht hD w hT)
    clear hD
    go_enter Tryd.func7, Tryd.ntmps7
    go_wp2_with fail
    refine (HN.out).mono ?_
    rintro e w1 ⟨rfl, hb1⟩
    go_wp2
    go_ret
    exact ⟨rfl, hb1.alloc hb1.size _⟩
end Go.Proofs.YtkhkoeibigpdnaaDoor
