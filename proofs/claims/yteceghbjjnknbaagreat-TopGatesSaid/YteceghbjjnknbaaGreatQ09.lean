/- A bundle of texts: Fr, Co, Nh, Rwf, Gw9, Gw6, Gw11, Rp. -/
import Derived.Test.YteceghbjjnknbaaGreatQ08
import Derived.Test.YteceghbjjnknbaaGreatQ07
import Derived.Deep.DeepCutAuto
import Derived.Test.YteceghbjjnknbaaGreatQ02
import Derived.Test.YteceghbjjnknbaaGreatQ04
import Derived.Test.YteceghbjjnknbaaGreatQ05
import Derived.Test.YteceghbjjnknbaaGreatQ01
import Derived.Test.YteceghbjjnknbaaGreatQ06
import Derived.Test.YteceghbjjnknbaaGreatQ03
import Derived.Test.YteceghbjjnknbaaGreatQ00
set_option linter.unusedVariables false
set_option linter.unusedSimpArgs false
namespace Go.Proofs.YteceghbjjnknbaaGreat
open Go.RowKit Zp Go.MapKept Go.ChangeMaps
def FollowNo (w : World) (e : Ending) (w' : World) : Prop := e = .returned (.tuple #[.pointer none, .bool false]) ∧ Below w.heap.size w w'
def FollowIs (p k : Nat) [NeZero p] (l : List Int) (rs ns : List (List Int)) (top : List Int) (n : Int) (w : World) (e : Ending) (w' : World) : Prop :=
  ∃ v, e = .returned (.tuple #[v, .bool (takenB p k l rs ns top n)]) ∧ (takenB p k l rs ns top n = true → ∃ y bD bL, v = .pointer (some ⟨y, 0, none⟩) ∧ Way w' y bD bL (workE p k l rs ns n.toNat).1.1 (workE p k l rs ns n.toNat).1.2) ∧ Below w.heap.size w w'
theorem FollowNo.is {p k : Nat} [NeZero p] {l : List Int} {rs ns : List (List Int)} {top : List Int} {n : Int} (hn : ¬ TakenP p k l rs ns top n) {w w' : World} {e : Ending} (h : FollowNo w e w') : FollowIs p k l rs ns top n w e w' := by
  have hb := takenB_false hn
  refine ⟨.pointer none, by rw [hb]; exact h.1, fun h2 => ?_, h.2⟩
  rw [hb] at h2
  cases h2
set_option maxHeartbeats 1000000 in
theorem follow_no (s : Nat) (AT : Option Addr) (nT cT : Nat) (n : Int) (A0 : Option Addr) (n0 c0 : Nat) (AR : Option Addr) (nR cR : Nat) (v3 : Value) (hT : nT ≤ 9223372036854775807) (h0 : n0 ≤ 9223372036854775807) (hR : nR ≤ 9223372036854775807)
    (h : ¬ (1 ≤ n ∧ n ≤ 65536) ∨ nT ≠ 4 ∨ nR ≠ n0) (w : World) :
    Calls Tryz.prog 94 #[.pointer (some ⟨s, 0, none⟩), .slice AT nT cT, vi n, .agg #[.slice A0 n0 c0, .slice AR nR cR, v3]] w (FollowNo w) := by
  have hb0 : Below w.heap.size w (w.alloc (.cells #[.slice A0 n0 c0, .slice AR nR cR, v3] 51)) := (Below.refl _ _).alloc (Nat.le_refl _) _
  have hB7 := Blk.new w 51 #[.slice A0 n0 c0, .slice AR nR cR, v3]
  have d0 := (hB7.cell 0).trans (show _ = some (.slice A0 n0 c0) from rfl)
  have d1 := (hB7.cell 1).trans (show _ = some (.slice AR nR cR) from rfl)
  have HB0 := Lib.hid hb0
  have HR := Lib.hid (fun w => right_any n w)
  clear hb0 hB7
  by_cases h1 : 1 ≤ n ∧ n ≤ 65536
  · have HB := Lib.hid (show rightB n = true from decide_eq_true h1)
    by_cases h2 : nT = 4
    · have h3 : nR ≠ n0 := by
        rcases h with h | h | h
        · exact absurd h1 h
        · exact absurd h2 h
        · exact h
      have t1 : ((nR : Int) != (n0 : Int)) = true := by rw [bne_iff_ne]; omega
      subst h2
      clear h h1 h3
      go_enter Tryz.func94, Tryz.ntmps94
      go_wp2_with fail
      refine (HR.out _).mono ?_
      rintro _ _ ⟨rfl, rfl⟩
      rw [HB.out]
      go_wp2
      go_ret2
      exact ⟨rfl, HB0.out⟩
    · have t1 : ((nT : Int) != 4) = true := by rw [bne_iff_ne]; omega
      clear h h1 h2
      go_enter Tryz.func94, Tryz.ntmps94
      go_wp2_with fail
      refine (HR.out _).mono ?_
      rintro _ _ ⟨rfl, rfl⟩
      rw [HB.out]
      go_wp2
      go_ret2
      exact ⟨rfl, HB0.out⟩
  · have HB := Lib.hid (show rightB n = false from decide_eq_false h1)
    clear h h1
    go_enter Tryz.func94, Tryz.ntmps94
    go_wp2_with fail
    refine (HR.out _).mono ?_
    rintro _ _ ⟨rfl, rfl⟩
    rw [HB.out]
    go_wp2
    go_ret2
    exact ⟨rfl, HB0.out⟩
set_option maxRecDepth 100000 in
set_option maxHeartbeats 2000000 in
theorem follow_yes (p S b s k z : Nat) [NeZero p] (oo : Nat → Nat → Fin p) (AT : Option Addr) (cT : Nat) (top : List Int) (hT : top.length = 4) (hTI : ∀ x ∈ top, I64 x) (N : Nat) (hN1 : 1 ≤ N) (hN2 : N ≤ 65536)
    (A0 : Option Addr) (n0 c0 : Nat) (l : List Int) (hl : l.length = n0) (hn0 : n0 ≤ 281474976710656) (AR : Option Addr) (cR : Nat) (rs : List (List Int)) (hrs : rs.length = n0) (hR : ∀ x ∈ rs, x.length * 8 + 80 ≤ 140737488355328)
    (AN : Option Addr) (nN cN : Nat) (ns : List (List Int)) (hns : ns.length = nN) (hnN : nN ≤ cN) (hnN2 : nN ≤ 281474976710656)
    (w : World) (F : Fld w S b p) (G : Spg w s b k z oo) (sT : SL w AT top) (s0 : SL w A0 l) (tR : TB w AR rs) (tN : TB w AN ns) :
    Calls Tryz.prog 94 #[.pointer (some ⟨s, 0, none⟩), .slice AT 4 cT, vi N, .agg #[.slice A0 n0 c0, .slice AR n0 cR, .slice AN nN cN]] w (FollowIs p k l rs ns top N w) := by
  have hsl := block_lt_of_cell G.c0
  have hpm := F.max
  have hb0 : Below w.heap.size w (w.alloc (.cells #[.slice A0 n0 c0, .slice AR n0 cR, .slice AN nN cN] 51)) := (Below.refl _ _).alloc (Nat.le_refl _) _
  have hB7 := Blk.new w 51 #[.slice A0 n0 c0, .slice AR n0 cR, .slice AN nN cN]
  have d0 := (hB7.cell 0).trans (show _ = some (.slice A0 n0 c0) from rfl)
  have d1 := (hB7.cell 1).trans (show _ = some (.slice AR n0 cR) from rfl)
  have HB0 := Lib.hid hb0
  have HB7 := Lib.hid hB7
  have HRT := Lib.hid (fun w => right_any (N : Int) w)
  have HB := Lib.hid (show rightB (N : Int) = true from decide_eq_true ⟨by omega, by omega⟩)
  have HL := Lib.hid hl
  have HT := Lib.hid (And.intro hT hTI)
  have HRS := Lib.hid (And.intro hrs hR)
  have HNS := Lib.hid (And.intro hns hnN)
  have HF := Lib.hid F
  have HG := Lib.hid G
  have HST := Lib.hid sT
  have HS0 := Lib.hid s0
  have HTR := Lib.hid tR
  have HTN := Lib.hid tN
  clear hl hT hTI hrs hR hns hnN F G sT s0 tR tN hb0 hB7
  go_enter Tryz.func94, Tryz.ntmps94
  go_wp2_with fail
  refine (HRT.out _).mono ?_
  rintro _ _ ⟨rfl, rfl⟩
  rw [HB.out]
  go_wp2
  go_loop [34] (fun i => ∃ j : Nat, j ≤ n0 ∧ i = vi j ∧ PreOk l N j) (fun i => n0 - (intOf i).toNat)
  case atStart => exact ⟨0, Nat.zero_le _, rfl, PreOk.zero _ _⟩
  case round =>
    obtain ⟨j, hj, rfl, hok⟩ := hrel
    have HOK := Lib.hid hok
    clear hok
    by_cases hlt : j < n0
    · have hjl : j < l.length := by rw [HL.out]; exact hlt
      obtain ⟨ad, rfl, had, hcx⟩ := (HS0.out.below HB0.out).at_ hjl
      have j1 : (0 : Int) ≤ (j : Int) := by omega
      have j2 : (j : Int) < (n0 : Int) := by omega
      by_cases c1 : l[j] < 0
      · have HNO : Hid (¬ TakenP p k l rs ns top N) := Lib.hid (fun g => not_okP_low hjl c1 g.2.2.2.1)
        generalize l[j] = x at c1 hcx
        go_wp2
        go_ret2
        exact FollowNo.is HNO.out ⟨rfl, HB0.out⟩
      · by_cases c2 : (N : Int) ≤ l[j]
        · have HNO : Hid (¬ TakenP p k l rs ns top N) := Lib.hid (fun g => not_okP_high hjl c2 g.2.2.2.1)
          generalize l[j] = x at c1 c2 hcx
          go_wp2
          go_ret2
          exact FollowNo.is HNO.out ⟨rfl, HB0.out⟩
        · cases j with
          | zero =>
            have HOK2 := Lib.hid (HOK.out.first hjl ⟨by omega, by omega⟩)
            rw [show ad.add 0 = ad by simp [Addr.add]] at hcx
            generalize l[0] = x at c1 c2 hcx
            go_wp2
            go_round
            case rel => exact ⟨1, by omega, by go_num, HOK2.out⟩
            case measure => simp [intOf]; omega
          | succ j =>
            have hjl2 : j < l.length := by omega
            obtain ⟨ad2, e2, _, hcy⟩ := (HS0.out.below HB0.out).at_ hjl2
            injection e2 with e2
            subst e2
            rw [show ad.add (j + 1) = ⟨ad.block, ad.off + (j + 1), none⟩ by simp [Addr.add]] at hcx
            have j3 : (j : Int) < (n0 : Int) := by omega
            have j5 : (j : Int) + 1 ≤ 281474976710656 := by omega
            have j6 : (0 : Int) ≤ (j : Int) + 1 := by omega
            have j7 : (j : Int) + 1 < (n0 : Int) := by omega
            have j4 : (0 : Int) ≤ (j : Int) := by omega
            by_cases c3 : l[j + 1] ≤ l[j]
            · have HNO : Hid (¬ TakenP p k l rs ns top N) := Lib.hid (fun g => not_okP_step hjl c3 g.2.2.2.1)
              generalize l[j + 1] = x at c1 c2 c3 hcx
              generalize l[j] = x' at c3 hcy
              clear hjl hjl2 j1 j2 hj hlt
              go_wp2
              go_ret2
              exact FollowNo.is HNO.out ⟨rfl, HB0.out⟩
            · have HOK2 := Lib.hid (HOK.out.next hjl ⟨by omega, by omega⟩ (by omega))
              generalize l[j + 1] = x at c1 c2 c3 hcx
              generalize l[j] = x' at c3 hcy
              have HJ2 := Lib.hid (And.intro hjl (And.intro hj hlt))
              clear hjl hjl2 j1 j2 hj hlt
              go_wp2
              go_round
              case rel => exact ⟨j + 1 + 1, by have := HJ2.out; omega, by go_num, HOK2.out⟩
              case measure =>
                have := HJ2.out
                simp [intOf]; omega
    · obtain rfl : j = n0 := by omega
      have HUP := Lib.hid (HOK.out.done (by rw [HL.out]; exact Nat.le_refl _))
      have hlN := HUP.out.1.len HUP.out.2
      have hjN : j ≤ 65536 := by rw [← HL.out]; omega
      have hb2 : Below w.heap.size w ((w.alloc (.cells #[.slice A0 j c0, .slice AR j cR, .slice AN nN cN] 51)).alloc (.cells #[vi 0] 3)) := HB0.out.alloc HB0.out.size _
      have hB72 := HB7.out.alloc (.cells #[vi 0] 3)
      have hBn := Blk.new (w.alloc (.cells #[.slice A0 j c0, .slice AR j cR, .slice AN nN cN] 51)) 3 #[vi 0]
      rw [show (w.alloc (.cells #[.slice A0 j c0, .slice AR j cR, .slice AN nN cN] 51)).heap.size = w.heap.size + 1 by simp] at hBn
      obtain ⟨W2, hW2⟩ : ∃ W2, W2 = (w.alloc (.cells #[.slice A0 j c0, .slice AR j cR, .slice AN nN cN] 51)).alloc (.cells #[vi 0] 3) := ⟨_, rfl⟩
      rw [← hW2] at hb2 hB72 hBn
      have hid := hidden_any 116 (enters_of Tryz.func116 (by kernel_rfl) rfl) #[.pointer (some ⟨w.heap.size + 1, 0, none⟩)] (w.heap.size + 1) A0 j c0 l (by
          intro ad e hne
          obtain ⟨ad', e', hb', _⟩ := HS0.out.at_ (k := 0) (List.length_pos_iff.2 hne)
          rw [e] at e'
          injection e' with e'
          subst e'
          omega) HL.out hjN HUP.out.1
        (fun pre W' => Blk W' (w.heap.size + 1) 3 #[vi (IntKind.i64.wrap (pre.length : Int))]) (fun pre W1 W2 h hb => Blk.below h hb h.lt)
        (fun pre a m W' h _ _ => by
          refine (need_any a m (w.heap.size + 1) (pre.length : Int) W' h).mono fun e w' h => ⟨h.1, ?_, h.2.2⟩
          rw [List.length_append]
          simpa using h.2.1) N 0 hN1 (by omega) [] W2 (by
          rw [show IntKind.i64.wrap (([] : List (Nat × Nat)).length : Int) = 0 from by simp [IntKind.wrap_i64]]
          exact hBn) (HS0.out.below hb2) hBn.lt
      rw [show Gp 0 (0 + N) = .agg #[vi 0, vi (N : Int)] by simp [Gp], hW2] at hid
      have HID := Lib.hid hid
      have HB2 := Lib.hid hb2
      have HB72 := Lib.hid hB72
      have HW2 := Lib.hid hW2
      have hnd := hidL_le l N 0 hN1
      obtain ⟨nd, hndE⟩ : ∃ nd, nd = (hidL l 0 N).length := ⟨_, rfl⟩
      rw [← hndE] at hnd
      have HND := Lib.hid hndE
      have HLN := Lib.hid (And.intro hlN hjN)
      clear hid hb2 hB72 hBn hW2 hndE hlN hj hlt
      go_wp2_with fail
      refine HID.out.mono ?_
      rintro _ w3 ⟨⟨r, rfl⟩, hB3, hg3⟩
      rw [← HW2.out] at hg3
      rw [List.nil_append, ← HND.out, IntWalk.i64_in _ ⟨by omega, by omega⟩] at hB3
      have hb3 : Below w.heap.size w w3 := HB2.out.grown hg3 HB2.out.size (fun x hx => by injection hx with hx; omega)
      have hB73 := Blk.grown HB72.out hg3 (by intro e; injection e with e; omega)
      have e2 := (hB73.cell 2).trans (show _ = some (.slice AN nN cN) from rfl)
      have en := (hB3.cell 0).trans (show _ = some (vi nd) from rfl)
      have HB3 := Lib.hid hb3
      have HB73 := Lib.hid hB73
      clear hB3 hB73 hb3 hg3
      by_cases c4 : nN = nd
      · subst c4
        have hcn := containsR_any 117 (enters_of Tryz.func117 (by kernel_rfl) rfl) (fun x => decide (x.length ≠ 4)) AN nN cN ns HNS.out.1 (by omega) w3 (fun A1 n1 c1 x hx hn _ => follow2_any A1 n1 c1 x hx hn w3) (HTN.out.below HB3.out)
        by_cases c5 : ∀ x ∈ ns, x.length = 4
        · rw [show (ns.any fun x => decide (x.length ≠ 4)) = false by rw [List.any_eq_false]; intro x hx; simpa using c5 x hx] at hcn
          have HCN := Lib.hid hcn
          have HC5 := Lib.hid c5
          have hmm := @run_makeMap Tryz.prog
          clear hcn c5
          go_wp2_with fail
          refine HCN.out.mono ?_
          rintro _ _ ⟨rfl, rfl⟩
          clear en e2
          have hq := HB3.out.size
          have hm1 := MapIs.made Tryz.prog 139 w3
          have hm2 := MapIs.made Tryz.prog 139 (w3.alloc (.map #[] 0))
          have hb35 : Below w3.heap.size w3 (((w3.alloc (.map #[] 0)).alloc (.map #[] 0)).alloc (.cells #[.map (some w3.heap.size), .map (some (w3.heap.size + 1))] 169)) := (((Below.refl _ _).alloc (Nat.le_refl _) _).alloc (by simp) _).alloc (by simp; omega) _
          have hBy := Blk.new ((w3.alloc (.map #[] 0)).alloc (.map #[] 0)) 169 #[.map (some w3.heap.size), .map (some (w3.heap.size + 1))]
          rw [show ((w3.alloc (.map #[] 0)).alloc (.map #[] 0)).heap.size = w3.heap.size + 1 + 1 by simp] at hBy
          rw [show (w3.alloc (.map #[] 0)).heap.size = w3.heap.size + 1 by simp] at hm2
          have hm1' := hm1.same (w' := ((w3.alloc (.map #[] 0)).alloc (.map #[] 0)).alloc (.cells #[.map (some w3.heap.size), .map (some (w3.heap.size + 1))] 169)) ((((Below.refl _ _).alloc (Nat.le_refl _) _).alloc (by simp) _ : Below (w3.alloc (.map #[] 0)).heap.size _ _).block _ (by simp))
          have hm2' := hm2.same (w' := ((w3.alloc (.map #[] 0)).alloc (.map #[] 0)).alloc (.cells #[.map (some w3.heap.size), .map (some (w3.heap.size + 1))] 169)) (((Below.refl _ _).alloc (Nat.le_refl _) _ : Below ((w3.alloc (.map #[] 0)).alloc (.map #[] 0)).heap.size _ _).block _ (by simp))
          have hwy : Way (((w3.alloc (.map #[] 0)).alloc (.map #[] 0)).alloc (.cells #[.map (some w3.heap.size), .map (some (w3.heap.size + 1))] 169)) (w3.heap.size + 1 + 1) w3.heap.size (w3.heap.size + 1) (fun _ _ => none) (fun _ _ => none) :=
            ⟨hBy, ⟨_, hm1', fun _ _ _ _ => rfl⟩, ⟨_, hm2', fun _ _ _ _ => trivial⟩, by omega⟩
          have hb05 := HB3.out.trans (hb35.mono HB3.out.size)
          have hB75 := Blk.below HB73.out hb35 HB73.out.lt
          have f0 := (hB75.cell 0).trans (show _ = some (.slice A0 j c0) from rfl)
          have f1 := (hB75.cell 1).trans (show _ = some (.slice AR j cR) from rfl)
          have f2 := (hB75.cell 2).trans (show _ = some (.slice AN nN cN) from rfl)
          have hwk := work_any p S b s k z (w3.heap.size + 1 + 1) w3.heap.size (w3.heap.size + 1) oo A0 j c0 l HL.out (HLN.out.2) HUP.out.1 AR cR rs HRS.out.1 HRS.out.2 (.slice AN nN cN) (by have := HF.out.le; omega) (by have := HF.out.le; omega) (by omega) (by omega) N 0 hN1 (by omega) ns AN nN cN HNS.out.1 HNS.out.2 HC5.out (by rw [HNS.out.1, ← HND.out]; exact Nat.le_refl _) (fun _ _ => none) (fun _ _ => none) (fun _ _ _ h => by cases h) _ (HF.out.below hb05 HF.out.le) (HG.out.below hb05 hsl) hwy (HS0.out.below hb05) (HTR.out.below hb05) (HTN.out.below hb05)
          rw [show Gp 0 (0 + N) = .agg #[vi 0, vi (N : Int)] by simp [Gp]] at hwk
          have HWK := Lib.hid hwk
          have HB05 := Lib.hid hb05
          clear hwk hb05 hB75 hwy hm1' hm2' hBy hb35 hm1 hm2
          go_wp2_with fail
          refine HWK.out.mono ?_
          rintro _ w6 ⟨A6, n6, c6, rfl, _, _, _, hY6, hg6⟩
          have hb6 : Below w.heap.size w w6 := HB05.out.trans (hg6.below HB05.out.size (by omega) (by omega))
          have hcl := workW_climb (digL p k) (fun x => fvs (els p x)) (fun i => fvs (els p (rowAt l rs i))) l N 0 (fun _ _ => none, fun _ _ => none) ns hN1
          have hc4 := climb_four (digL p k) (fun x => fvs (els p x)) (fun i => fvs (els p (rowAt l rs i))) l (fun l => digL_len _ _) (fun x hx => by simp [fvs, els, hx]) N 0 ns hN1 HC5.out (by rw [HNS.out.1, ← HND.out]; exact Nat.le_refl _)
          obtain ⟨cl, hcle⟩ : ∃ cl, cl = (climbD (digL p k) (fun x => fvs (els p x)) (fun i => fvs (els p (rowAt l rs i))) l 0 N ns).1 := ⟨_, rfl⟩
          have ht4 : (fvs (els p top)).length = 4 := by simp [fvs, els, HT.out.1]
          obtain ⟨tp, htp⟩ : ∃ tp, tp = fvs (els p top) := ⟨_, rfl⟩
          rw [← hcle] at hcl hc4
          rw [← htp] at ht4
          have hfin : takenB p k l rs ns top N = decide (cl = tp) := by
            rw [Bool.eq_iff_iff, takenB_iff, decide_eq_true_iff]
            constructor
            · intro h
              have := h.2.2.2.2.2.2
              rw [Int.toNat_natCast] at this
              rw [hcle, this, htp]
            · intro h
              refine ⟨⟨by omega, by omega⟩, HT.out.1, by rw [HRS.out.1, HL.out], HUP.out, by rw [Int.toNat_natCast, HNS.out.1, ← HND.out], HC5.out, ?_⟩
              rw [Int.toNat_natCast, ← hcle, h, htp]
          have hlk := hcl.1
          obtain ⟨c0', c1', c2', c3', ecl⟩ := four_of hc4
          obtain ⟨t0, t1, t2, t3, etp⟩ := four_of ht4
          rw [ecl] at hlk
          have hel := fun W' (hs : SL W' AT top) hc => elements_any p b hpm AT 4 cT top HT.out.1 HT.out.2 (by omega) W' hs hc
          rw [← htp, etp] at hel
          have hfin2 : takenB p k l rs ns top N = decide ([c0', c1', c2', c3'] = [t0, t1, t2, t3]) := by rw [hfin, ecl, etp]
          have HEL := Lib.hid hel
          have HFI := Lib.hid hfin2
          have HW6 := Lib.hid (show Way w6 (w3.heap.size + 1 + 1) w3.heap.size (w3.heap.size + 1) (workE p k l rs ns N).1.1 (workE p k l rs ns N).1.2 from hY6)
          have HLK := Lib.hid (show (workE p k l rs ns N).1.1 0 N = some [c0', c1', c2', c3'] from hlk)
          have HB6 := Lib.hid hb6
          have HSF := Lib.hid (fun W' (G : Spg W' s b k z oo) => sfield_s s b k z oo W' G)
          have hta := fun (W : World) (g c : Nat) => run_arrayAt (P := Tryz.prog) (w := W) 171 3 4 (some ⟨g, 0, none⟩) 4 c Tryz.underlying171 (Nat.le_refl _)
          have heq := equal_four c0' c1' c2' c3' t0 t1 t2 t3
          obtain ⟨bq, hbq⟩ : ∃ bq, bq = decide ([c0', c1', c2', c3'] = [t0, t1, t2, t3]) := ⟨_, rfl⟩
          rw [← hbq] at heq HFI
          clear hcl hc4 hcle ht4 htp hfin hlk ecl etp hel hfin2 hY6 hg6 hb6 hbq f0 f1 f2
          have hb66 : Below w6.heap.size w6 w6.drew := below_drewN (Below.refl _ _) 1
          have KX : Hid (∀ W', Below w6.heap.size w6 W' → Fld W' S b p ∧ Spg W' s b k z oo ∧ SL W' AT top ∧ Way W' (w3.heap.size + 1 + 1) w3.heap.size (w3.heap.size + 1) (workE p k l rs ns N).1.1 (workE p k l rs ns N).1.2 ∧ Below w.heap.size w W') := Lib.hid fun W' hb => by
            have hb' := HB6.out.trans (hb.mono HB6.out.size)
            exact ⟨HF.out.below hb' HF.out.le, HG.out.below hb' hsl, HST.out.below hb', HW6.out.below hb, hb'⟩
          have KS : Hid (∀ W', Below w6.heap.size w6 W' → W'.cell? ⟨w3.heap.size + 1 + 1, 0, none⟩ = some (.map (some w3.heap.size)) ∧
              (Instr.lookup 166 (.map (some w3.heap.size)) (.agg #[vi 0, vi (N : Int)]) false).run Tryz.prog W' = .ok (.agg #[vi c0', vi c1', vi c2', vi c3']) W') := Lib.hid fun W' hb => by
            have hY := (KX.out W' hb).2.2.2.1
            have l1 := hY.dig.look (a := 0) (m := N) hN1 (by omega) HLK.out
            rw [Nat.zero_add] at l1
            exact ⟨(hY.obj.cell 0).trans rfl, l1⟩
          go_wp2_with fail
          refine wp_region_held_drew (S := fun W' => W'.cell? ⟨w3.heap.size + 1 + 1, 0, none⟩ = some (.map (some w3.heap.size)) ∧
              (Instr.lookup 166 (.map (some w3.heap.size)) (.agg #[vi 0, vi (N : Int)]) false).run Tryz.prog W' = .ok (.agg #[vi c0', vi c1', vi c2', vi c3']) W') (by kernel_rfl) (KS.out _ hb66) (fun hHeld => ?_)
          refine tkH 0 ?_
          refine tkH 1 ?_
          refine tkH 2 ?_
          refine tkH 3 ?_
          refine tkH 4 ?_
          refine tkH 5 ?_
          refine tkH 6 ?_
          refine tkH 7 ?_
          refine tkH 8 ?_
          refine tkH 10 ?_
          refine stH 9 (fun K hK => ?_)
          go_simp
          refine (HSF.out _ (KX.out _ hb66).2.1).mono ?_
          rintro _ _ ⟨rfl, rfl⟩
          refine hK.out _ _ (by (first | exact KS.out _ (by assumption) | (simp only [Act.put]; exact KS.out _ (by assumption)))) (fun hHeld => ?_)
          clear hK K
          (try simp only [Act.put, List.setIfInBounds_toArray, List.set_cons_zero, List.set_cons_succ])
          refine stH 11 (fun K hK => ?_)
          go_simp
          refine (HEL.out _ (KX.out _ hb66).2.2.1 (KX.out _ hb66).1.c0).mono ?_
          rintro _ w7 ⟨v7, rfl, ho7, hb7⟩
          obtain ⟨g7, c7, rfl, hg71, hg72⟩ := ho7.block (by simp)
          have q0 := ho7.at_ rfl 0 (by simp)
          have q1 := ho7.at_ rfl 1 (by simp)
          have q2 := ho7.at_ rfl 2 (by simp)
          have q3 := ho7.at_ rfl 3 (by simp)
          simp only [List.length_cons, List.length_nil, List.getElem_cons_zero, List.getElem_cons_succ] at q0 q1 q2 q3 ⊢
          have hb67 := hb66.trans (hb7.mono hb66.size)
          clear ho7 hb7
          refine hK.out _ _ (by (first | exact KS.out _ (by assumption) | (simp only [Act.put]; exact KS.out _ (by assumption)))) (fun hHeld => ?_)
          clear hK K
          (try simp only [Act.put, List.setIfInBounds_toArray, List.set_cons_zero, List.set_cons_succ])
          refine tkH 15 ?_
          refine stH 12 (fun K hK => ?_)
          go_simp
          refine hK.out _ _ (by (first | exact KS.out _ (by assumption) | (simp only [Act.put]; exact KS.out _ (by assumption)))) (fun hHeld => ?_)
          clear hK K
          (try simp only [Act.put, List.setIfInBounds_toArray, List.set_cons_zero, List.set_cons_succ])
          refine stH 13 (fun K hK => ?_)
          go_simp
          refine hK.out _ _ (by (first | exact KS.out _ (by assumption) | (simp only [Act.put]; exact KS.out _ (by assumption)))) (fun hHeld => ?_)
          clear hK K
          (try simp only [Act.put, List.setIfInBounds_toArray, List.set_cons_zero, List.set_cons_succ])
          refine stH 14 (fun K hK => ?_)
          go_simp
          refine hK.out _ _ (by (first | exact KS.out _ (by assumption) | (simp only [Act.put]; exact KS.out _ (by assumption)))) (fun hHeld => ?_)
          clear hK K
          (try simp only [Act.put, List.setIfInBounds_toArray, List.set_cons_zero, List.set_cons_succ])
          refine stH 16 (fun K hK => ?_)
          go_simp
          refine hK.out _ _ (KS.out _ hb67) (fun hHeld => ?_)
          clear hK K
          (try simp only [Act.put, List.setIfInBounds_toArray, List.set_cons_zero, List.set_cons_succ])
          refine wpAnyH_done (by kernel_rfl) ?_ _
          clear hHeld KS q0 q1 q2 q3 heq
          have HX7 := Lib.hid (KX.out _ hb67)
          clear KX
          go_wp2
          go_ret2
          exact ⟨_, by rw [HFI.out]; rfl, fun _ => ⟨_, _, _, rfl, by rw [Int.toNat_natCast]; exact HX7.out.2.2.2.1⟩, HX7.out.2.2.2.2⟩
        · have HNO : Hid (¬ TakenP p k l rs ns top N) := Lib.hid (fun g => c5 g.2.2.2.2.2.1)
          rw [show (ns.any fun x => decide (x.length ≠ 4)) = true by
            rw [List.any_eq_true]
            refine Classical.byContradiction fun hno => c5 fun x hx => ?_
            refine Classical.byContradiction fun h4 => hno ⟨x, hx, by simpa using h4⟩] at hcn
          have HCN := Lib.hid hcn
          clear hcn c5
          go_wp2_with fail
          refine HCN.out.mono ?_
          rintro _ _ ⟨rfl, rfl⟩
          go_wp2
          go_ret2
          exact FollowNo.is HNO.out ⟨rfl, HB3.out⟩
      · have HNO : Hid (¬ TakenP p k l rs ns top N) := Lib.hid (fun g => c4 (by rw [HND.out, ← HNS.out.1]; exact g.2.2.2.2.1))
        have t4 : ((nN : Int) != (nd : Int)) = true := by rw [bne_iff_ne]; omega
        clear c4
        go_wp2
        go_ret2
        exact FollowNo.is HNO.out ⟨rfl, HB3.out⟩
end Go.Proofs.YteceghbjjnknbaaGreat

namespace Go.Proofs.YteceghbjjnknbaaGreat
open Go.RowKit Zp
structure OpnAt (w : World) (A0 : Option Addr) (n0 c0 : Nat) (l : List Int) (AR : Option Addr) (nR cR : Nat) (rs : List (List Int)) (AN : Option Addr) (nN cN : Nat) (ns : List (List Int)) : Prop where
  l0 : l.length = n0
  lR : rs.length = nR
  lN : ns.length = nN
  b0 : n0 * 8 ≤ 140737488351232
  bR : nR ≤ 5864062014805
  bN : nN ≤ 5864062014805
  hN : nN ≤ cN
  i0 : ∀ x ∈ l, I64 x
  rR : ∀ t ∈ rs, t.length * 8 ≤ 140737488351232
  rN : ∀ t ∈ ns, t.length * 8 ≤ 140737488351232
  s0 : SL w A0 l
  tR : TB w AR rs
  tN : TB w AN ns
theorem OpnAt.below {w w' : World} {A0 : Option Addr} {n0 c0 : Nat} {l : List Int} {AR : Option Addr} {nR cR : Nat} {rs : List (List Int)} {AN : Option Addr} {nN cN : Nat} {ns : List (List Int)} (h : OpnAt w A0 n0 c0 l AR nR cR rs AN nN cN ns) (hb : Below w.heap.size w w') : OpnAt w' A0 n0 c0 l AR nR cR rs AN nN cN ns :=
  ⟨h.l0, h.lR, h.lN, h.b0, h.bR, h.bN, h.hN, h.i0, h.rR, h.rN, h.s0.below hb, h.tR.below hb, h.tN.below hb⟩
theorem OpnAt.drewN {w : World} {A0 : Option Addr} {n0 c0 : Nat} {l : List Int} {AR : Option Addr} {nR cR : Nat} {rs : List (List Int)} {AN : Option Addr} {nN cN : Nat} {ns : List (List Int)} (h : OpnAt w A0 n0 c0 l AR nR cR rs AN nN cN ns) (k : Nat) : OpnAt (w.drewN k) A0 n0 c0 l AR nR cR rs AN nN cN ns := h.below (below_drewN (Below.refl _ _) k)
theorem MadeRows.tb {ls : List (List Int)} {w : World} {e : Ending} {w' : World} (h : MadeRows ls w e w') (hi : ∀ l ∈ ls, ∀ x ∈ l, I64 x) : ∃ A n c, e = .returned (.slice A n c) ∧ ls.length = n ∧ n ≤ c ∧ TB w' A ls ∧ Below w.heap.size w w' := by
  obtain ⟨v, us, rfl, ho, hr, hb⟩ := h
  obtain ⟨A, n, c, rfl, h1, h2⟩ := ownR_shape ho
  exact ⟨A, n, c, rfl, by rw [← hr.1]; exact h1, h2, tb_own ho hr hi, hb⟩
theorem own_past {w w' : World} {base r : Nat} {v : Value} {xs : List Int} (h : Own w base v xs) (hg : w.grownBy w' (some r)) (hr : r < base) : Own w' base v xs :=
  h.keep fun g hgv => hg.block g (h.lt g hgv).2 (fun e => by injection e with e; have := (h.lt g hgv).1; omega)
theorem ownR_past {w w' : World} {base r : Nat} {v : Value} {us : List Value} (h : OwnR w base v us) (hg : w.grownBy w' (some r)) (hr : r < base) : OwnR w' base v us :=
  World.ownsRow.kept h hg (by
    rcases hv : v.ownBlock with _ | g
    · exact .inl rfl
    · refine .inr fun e => ?_
      injection e with e
      have := (World.ownsRow.lt h g hv).1
      omega)
theorem rowsOwn_past {w w' : World} {base r : Nat} {us : List Value} {ls : List (List Int)} (h : RowsOwn w base us ls) (hg : w.grownBy w' (some r)) (hr : r < base) : RowsOwn w' base us ls := ⟨h.1, fun k h1 h2 => own_past (h.2 k h1 h2) hg hr⟩
theorem blk_set3 {w : World} {r : Nat} {t : TypeId} {a b c : Value} (h : Blk w r t #[a, b, c]) (x y z : Value) : Blk (((w.setCell ⟨r, 0, none⟩ x).setCell ⟨r, 1, none⟩ y).setCell ⟨r, 2, none⟩ z) r t #[x, y, z] ∧ w.grownBy (((w.setCell ⟨r, 0, none⟩ x).setCell ⟨r, 1, none⟩ y).setCell ⟨r, 2, none⟩ z) (some r) :=
  ⟨((h.set_ 0 x).set_ 1 y).set_ 2 z, grownBy_trans (grownBy_trans blk_grown blk_grown) blk_grown⟩
end Go.Proofs.YteceghbjjnknbaaGreat

namespace Go.Proofs.YteceghbjjnknbaaGreat
open Go.RowKit Zp
def openR (p : Nat) [NeZero p] (ls : List (List Int)) (l : List Int) : List (List Int) := l.map fun i => fvs (els p (rowF ls i.toNat))
theorem openR_len (p : Nat) [NeZero p] (ls : List (List Int)) (l : List Int) : (openR p ls l).length = l.length := by simp [openR]
theorem openR_take (p : Nat) [NeZero p] (ls : List (List Int)) (l : List Int) {k m : Nat} (hk : k < l.length) (hm : l[k] = (m : Int)) : (openR p ls l).take (k + 1) = (openR p ls l).take k ++ [fvs (els p (rowF ls m))] := by
  rw [List.take_succ_eq_append_getElem (by rw [openR_len]; exact hk)]
  simp [openR, hm]
theorem openR_i64 (p : Nat) [NeZero p] (hp : p ≤ 2147483647) (ls : List (List Int)) (l : List Int) : ∀ t ∈ openR p ls l, ∀ x ∈ t, I64 x := fun t ht => by
  obtain ⟨i, _, rfl⟩ := List.mem_map.1 ht
  exact fun x hx => by obtain ⟨y, _, rfl⟩ := List.mem_map.1 hx; exact i64_fv _ hp
theorem openR_r8 (p : Nat) [NeZero p] (ls : List (List Int)) (l : List Int) (h : ∀ t ∈ ls, t.length * 8 ≤ 140737488351232) : ∀ t ∈ openR p ls l, t.length * 8 ≤ 140737488351232 := fun t ht => by
  obtain ⟨i, _, rfl⟩ := List.mem_map.1 ht
  by_cases hi : i.toNat < ls.length
  · rw [rowF_at hi]
    have := h _ (List.getElem_mem hi)
    simpa [fvs, els] using this
  · simp [rowF, List.getD_eq_getElem?_getD, List.getElem?_eq_none (Nat.le_of_not_lt hi), fvs, els]
structure BldR (w : World) (B ob : Nat) (ov rv : Value) (us : List Value) (rs : List (List Int)) : Prop where
  blk : Blk w ob 51 #[ov, rv, .slice none 0 0]
  lo : ob < B
  sz : B ≤ w.heap.size
  ro : OwnR w B rv us
  rr : RowsOwn w B us rs
theorem BldR.below {w w' : World} {B ob : Nat} {ov rv : Value} {us : List Value} {rs : List (List Int)} (h : BldR w B ob ov rv us rs) (hb : Below w.heap.size w w') : BldR w' B ob ov rv us rs :=
  ⟨Blk.below h.blk hb h.blk.lt, h.lo, Nat.le_trans h.sz hb.size, OwnR.below h.ro hb, h.rr.below hb⟩
theorem BldR.push {w w' : World} {B ob : Nat} {ov rv u v' : Value} {us : List Value} {rs : List (List Int)} {l : List Int} (h : BldR w B ob ov rv us rs) (hu : Own w B u l) (hg : GrewR w w' B rv v' (us ++ [u])) :
    Blk w' ob 51 #[ov, rv, .slice none 0 0] ∧ BldR (w'.setCell ⟨ob, 1, none⟩ v') B ob ov v' (us ++ [u]) (rs ++ [l]) ∧ ∀ (C : Nat) (w0 : World), C ≤ ob → Below C w0 w → C ≤ w.heap.size → Below C w0 (w'.setCell ⟨ob, 1, none⟩ v') := by
  have hne : some ob ≠ rv.ownBlock := fun e => by
    have := (World.ownsRow.lt h.ro ob e.symm).1
    have := h.lo
    omega
  have hb := Blk.grown h.blk hg.grown hne
  have hr := (hg.rows h.ro h.rr).snoc (hu.grown hg.grown (own_ne hu h.ro))
  have hs : w'.grownBy (w'.setCell ⟨ob, 1, none⟩ v') (some ob) := blk_grown
  refine ⟨hb, ⟨hb.set_ 1 v', h.lo, Nat.le_trans h.sz (Nat.le_trans hg.grown.size hs.size), ownR_past hg.own hs h.lo, rowsOwn_past hr hs h.lo⟩, fun C w0 hC h0 hCs => ?_⟩
  have hCB : C ≤ B := Nat.le_trans hC (Nat.le_of_lt h.lo)
  exact (hg.below h0 h.ro hCB hCs).grown hs (Nat.le_trans hCs hg.grown.size) (fun x hx => by injection hx with hx; omega)
theorem rootD_len (p k : Nat) [NeZero p] (r : Nat → List Int) (a m : Nat) : (rootD (digL p k) r a m).length = 4 := by
  by_cases h : 2 ≤ m
  · rw [rootD_two _ _ _ h]; exact digL_len _ _
  · rw [rootD_one _ _ _ h]; exact digL_len _ _
def Safe (w w' : World) : Prop := w.heap.size ≤ w'.heap.size ∧ ∀ t, t = 3 ∨ t = 25 ∨ t = 66 → ∀ x cs, Blk w x t cs → w'.heap[x]? = w.heap[x]?
theorem Safe.refl (w : World) : Safe w w := ⟨Nat.le_refl _, fun _ _ _ _ _ => rfl⟩
theorem Safe.trans {a b c : World} (h : Safe a b) (g : Safe b c) : Safe a c := ⟨Nat.le_trans h.1 g.1, fun t ht x cs hx => by
  have h1 := h.2 t ht x cs hx
  exact (g.2 t ht x cs (h1.trans hx)).trans h1⟩
theorem Safe.of {w w' : World} (h : Below w.heap.size w w') : Safe w w' := ⟨h.size, fun t ht x cs hx => h.block x (Blk.lt hx)⟩
theorem Safe.one {w w' : World} {r : Nat} {t : TypeId} {cs : Array Value} (h : w.grownBy w' (some r)) (hr : Blk w r t cs) (ht : t ≠ 3 ∧ t ≠ 25 ∧ t ≠ 66) : Safe w w' :=
  ⟨h.size, fun u hu x cx hx => h.block x (Blk.lt hx) (fun e => by
    injection e with e
    exact Blk.ne_ hx hr (by rintro rfl; rcases hu with e' | e' | e' <;> first | exact ht.1 e' | exact ht.2.1 e' | exact ht.2.2 e') e)⟩
theorem Own.safe {w w' : World} {base : Nat} {v : Value} {xs : List Int} (h : Own w base v xs) (hs : Safe w w') : Own w' base v xs := h.keep fun g hg => by
  rcases h.2 with ⟨rfl, _⟩ | ⟨g', cap, cur, rfl, _, hh, _⟩
  · cases hg
  · injection hg with hg
    subst hg
    exact hs.2 _ (.inl rfl) g' cur hh
theorem OwnR.safe {w w' : World} {base : Nat} {v : Value} {us : List Value} (h : OwnR w base v us) (hs : Safe w w') : OwnR w' base v us := by
  refine ⟨h.1, ?_⟩
  rcases h.2 with h0 | ⟨g, cap, cur, hv, hg, hh, rest⟩
  · exact .inl h0
  · exact .inr ⟨g, cap, cur, hv, hg, (hs.2 _ (.inr (.inl rfl)) g cur hh).trans hh, rest⟩
theorem RowsOwn.safe {w w' : World} {base : Nat} {us : List Value} {ls : List (List Int)} (h : RowsOwn w base us ls) (hs : Safe w w') : RowsOwn w' base us ls := ⟨h.1, fun k h1 h2 => (h.2 k h1 h2).safe hs⟩
theorem UsAt.safe {w w' : World} {us : List Value} {ls : List (List Int)} (h : UsAt w us ls) (hs : Safe w w') : UsAt w' us ls := ⟨h.1, fun k h1 h2 => by
  obtain ⟨g, c, t, cs, e1, e2, e3, e4, e5, e6⟩ := h.2 k h1 h2
  have hb := hs.2 t (by rcases e4 with e | e <;> simp [e]) g cs e2
  refine ⟨g, c, t, cs, e1, hb.trans e2, e3, e4, ⟨e5.1, fun hn => ?_⟩, e6⟩
  obtain ⟨ad, e, hbl, hc⟩ := e5.2 hn
  injection e with e
  subst e
  exact ⟨_, rfl, Nat.lt_of_lt_of_le hbl hs.1, fun j u hu => (World.cell?_of_block (by rw [block_of_add]; exact hb)).trans (hc j u hu)⟩⟩
def OpenedUp (l : List Int) (rs ns : List (List Int)) (w : World) (e : Ending) (w' : World) : Prop :=
  ∃ A0 n0 c0 AR nR cR AN nN cN, e = .returned (.agg #[.slice A0 n0 c0, .slice AR nR cR, .slice AN nN cN]) ∧ OpnAt w' A0 n0 c0 l AR nR cR rs AN nN cN ns ∧ Below w.heap.size w w' ∧
    ∀ W' : World, Safe w' W' → OpnAt W' A0 n0 c0 l AR nR cR rs AN nN cN ns
theorem opened_fin {S : List Int} {rs ns : List (List Int)} {w w5 W6 : World} {q ob base1 baseR baseN : Nat} {A1 AR AN : Option Addr} {n1 c1 nR cR nN cN : Nat} {us vs : List Value} {cs : Array Value} {a b c : Value}
    (h0 : Own w5 base1 (.slice A1 n1 c1) S) (h0b : q < base1) (h0n : ∀ g, (Value.slice A1 n1 c1).ownBlock = some g → g ≠ ob)
    (hR : OwnR w5 baseR (.slice AR nR cR) us) (hRr : RowsOwn w5 baseR us rs) (hRb : ob < baseR)
    (hN : OwnR w5 baseN (.slice AN nN cN) vs) (hNu : UsAt w5 vs ns) (hNb : ob < baseN) (hqo : q < ob)
    (hO : Blk w5 ob 51 cs) (hQ : Blk w5 q 51 #[a, b, c]) (hg : w5.grownBy W6 (some ob)) (hqw : w.heap.size ≤ q) (hb : Below w.heap.size w w5)
    (c1' cR' cN' : Nat) (hcN : nN ≤ cN') (b0 : S.length * 8 ≤ 140737488351232) (bR : rs.length ≤ 65536) (bN : ns.length ≤ 65536) (i0 : ∀ x ∈ S, I64 x) (iR : ∀ t ∈ rs, ∀ x ∈ t, I64 x) (rR : ∀ t ∈ rs, t.length * 8 ≤ 140737488351232) (rN : ∀ t ∈ ns, t.length = 4) :
    OpenedUp S rs ns w (.returned (.agg #[.slice A1 n1 c1', .slice AR nR cR', .slice AN nN cN'])) (((W6.setCell ⟨q, 0, none⟩ (.slice A1 n1 c1')).setCell ⟨q, 1, none⟩ (.slice AR nR cR')).setCell ⟨q, 2, none⟩ (.slice AN nN cN')) := by
  have hQ6 := Blk.grown hQ hg (by intro e; injection e with e; omega)
  obtain ⟨hset, hgr⟩ := blk_set3 hQ6 (.slice A1 n1 c1') (.slice AR nR cR') (.slice AN nN cN')
  have h06 : Own W6 base1 (.slice A1 n1 c1) S := h0.keep fun g hgv => hg.block g (h0.lt g hgv).2 (fun e => by injection e with e; exact h0n g hgv e)
  have o1 := own_past h06 hgr h0b
  have r1 := ownR_past (ownR_past hR hg hRb) hgr (by omega)
  have r2 := rowsOwn_past (rowsOwn_past hRr hg hRb) hgr (by omega)
  have n2 := ownR_past (ownR_past hN hg hNb) hgr (by omega)
  have u2 := (hNu.far hO (.inr rfl) hg).far hQ6 (.inr rfl) hgr
  have hbf := (hb.grown hg hb.size (fun x hx => by injection hx with hx; omega)).grown hgr (Nat.le_trans hb.size hg.size) (fun x hx => by injection hx with hx; omega)
  have key : ∀ W', Own W' base1 (.slice A1 n1 c1) S → OwnR W' baseR (.slice AR nR cR) us → RowsOwn W' baseR us rs → OwnR W' baseN (.slice AN nN cN) vs → UsAt W' vs ns → OpnAt W' A1 n1 c1' S AR nR cR' rs AN nN cN' ns := fun W' o1 r1 r2 n2 u2 => by
    obtain ⟨A1', n1', c1'', ev, hl1, _, _, hsl⟩ := o1.shapeN
    injection ev with ev1 ev2 ev3
    subst ev1 ev2 ev3
    obtain ⟨_, _, _, e1, hnR, _⟩ := ownR_shape r1
    injection e1 with _ e1 _
    obtain ⟨_, _, _, e2, hnN, _⟩ := ownR_shape n2
    injection e2 with _ e2 _
    refine ⟨hl1, by rw [← r2.1, hnR, e1], by rw [← u2.1, hnN, e2], by omega, ?_, ?_, hcN, i0, rR, fun t ht => by rw [rN t ht]; omega, hsl, tb_own r1 r2 iR, tb_us n2 u2⟩
    · have := r2.1; omega
    · have := u2.1; omega
  exact ⟨A1, n1, c1', AR, nR, cR', AN, nN, cN', rfl, key _ o1 r1 r2 n2 u2, hbf, fun W' hs => key W' (o1.safe hs) (r1.safe hs) (r2.safe hs) (n2.safe hs) (u2.safe hs)⟩
end Go.Proofs.YteceghbjjnknbaaGreat

namespace Go.Proofs.YteceghbjjnknbaaGreat
open Go.RowKit Zp
theorem ownsRow_keep {w w' : World} {base sz n : Nat} {e : TypeId} {v : Value} {xs : List Value} (h : w.ownsRow base e sz v n xs) (hk : ∀ g, v.ownBlock = some g → w'.heap[g]? = w.heap[g]?) : w'.ownsRow base e sz v n xs := by
  refine ⟨h.1, ?_⟩
  rcases h.2 with h0 | ⟨g, cap, cur, hv, hg, hh, rest⟩
  · exact .inl h0
  · exact .inr ⟨g, cap, cur, hv, hg, by rw [hk g (by rw [hv]; rfl)]; exact hh, rest⟩
theorem row_blk {W : World} {base : Nat} {e : TypeId} {sz n : Nat} {v : Value} {xs : List Value} (h : W.ownsRow base e sz v n xs) {g : Nat} (hg : v.ownBlock = some g) : ∃ cs, Blk W g e cs := by
  rcases h.2 with ⟨rfl, _⟩ | ⟨g', cap, cur, rfl, _, hh, _⟩
  · cases hg
  · injection hg with hg
    subst hg
    exact ⟨cur, hh⟩
theorem row_far {W W' : World} {base : Nat} {e : TypeId} {sz n : Nat} {v : Value} {xs : List Value} (h : W.ownsRow base e sz v n xs) (hg : W.grownBy W' v.ownBlock) {x : Nat} {t : TypeId} {cs : Array Value} (hx : Blk W x t cs) (ht : t ≠ e) : Blk W' x t cs := by
  rcases hv : v.ownBlock with _ | g
  · rw [hv] at hg
    exact Blk.grown hx hg (by intro e; cases e)
  · obtain ⟨cs', hcs⟩ := row_blk h hv
    rw [hv] at hg
    exact Blk.grown hx hg (fun e' => by injection e' with e'; exact Blk.ne_ hx hcs (fun e2 => ht e2) e')
theorem row_stay {W W' : World} {base base2 : Nat} {e e2 : TypeId} {sz sz2 n n2 : Nat} {v u : Value} {xs ys : List Value} (h : W.ownsRow base e sz v n xs) (hg : W.grownBy W' v.ownBlock) (hu : W.ownsRow base2 e2 sz2 u n2 ys) (he : e2 ≠ e) : W'.ownsRow base2 e2 sz2 u n2 ys :=
  ownsRow_keep hu fun g hgu => by
    obtain ⟨cs, hcs⟩ := row_blk hu hgu
    have := row_far h hg hcs he
    exact (this : W'.heap[g]? = _).trans (hcs : W.heap[g]? = _).symm
theorem step_one {ops : Array Oper} {o : Oper} {a : Act} {K : Act → World → Prop} {Q : Exit → Act → World → Prop} {E : Prop} (w W : World) (n : Int) (hW : W = w.alloc (.cells #[vi n] 3)) (hgd : o.guard = none) (s x : Operand)
    (ho : o.op = .call { callee := .builtin .append, args := #[s, x], argTypes := #[25, 25] })
    (base : Nat) (v : Value) (xs : List Int) (hs : a.eval s = v) (hx : a.eval x = .slice (some ⟨w.heap.size, 0, none⟩) 1 1) (hown : Own w base v xs) (hlen : xs.length < 17592186044416) (hbase : base ≤ w.heap.size)
    (h : ∀ v' w', Grew w w' base v v' (xs ++ [n]) → K (a.put o.dst v') w') :
    if Region.wanted o (yielded ops a.tmps) = true then Oper.wp Tryz.prog o a W K Q else E := by
  have hw : Region.wanted o (yielded ops a.tmps) = true := by simp [Region.wanted, hgd]
  rw [if_pos hw]
  subst hW
  obtain ⟨v', w', hrun, hg⟩ := run_app1 w base v xs n hown hlen hbase o.type
  unfold Oper.wp execOp
  simp only [ho, resolve, invoke, builtin, Sem.run_bind, Sem.run_pure, Result.andThen_ok, List.map_toArray, List.map_cons, List.map_nil, hs, hx, hrun]
  exact h v' w' hg
end Go.Proofs.YteceghbjjnknbaaGreat

namespace Go.Proofs.YteceghbjjnknbaaGreat
open Go.RowKit Zp
def WkIs (p b : Nat) [NeZero p] (wide : Int) (AL : Option Addr) (nL cL : Nat) (inp : List Int) (Ls : List (List GateR)) (w : World) (e : Ending) (w' : World) : Prop :=
  ∃ (k : Nat) (AV : Option Addr) (nV cV : Nat) (us : List Value), e = .returned (.tuple #[.pointer (some ⟨k, 0, none⟩), .nilIface]) ∧ w.heap.size ≤ k ∧ Blk w' k 79 #[.pointer (some ⟨b, 0, none⟩), vi wide, .slice AL nL cL, .slice AV nV cV] ∧
    OwnR w' w.heap.size (.slice AV nV cV) us ∧ RowsOwn w' w.heap.size us (lvR p inp Ls (Ls.length + 1)) ∧ Below w.heap.size w w'
structure VS (w : World) (k base b : Nat) (wide : Int) (AL : Option Addr) (nL cL : Nat) (V : Value) (us : List Value) (rows : List (List Int)) : Prop where
  blk : Blk w k 79 #[.pointer (some ⟨b, 0, none⟩), vi wide, .slice AL nL cL, V]
  own : OwnR w base V us
  rows : RowsOwn w base us rows
theorem VS.below {w w' : World} {k base b : Nat} {wide : Int} {AL : Option Addr} {nL cL : Nat} {V : Value} {us : List Value} {rows : List (List Int)} (h : VS w k base b wide AL nL cL V us rows) (hb : Below w.heap.size w w') : VS w' k base b wide AL nL cL V us rows :=
  ⟨h.blk.below hb h.blk.lt, h.own.below hb, h.rows.below hb⟩
theorem VS.push {w w' : World} {k base b : Nat} {wide : Int} {AL : Option Addr} {nL cL : Nat} {V V' : Value} {us : List Value} {rows : List (List Int)} {A : Option Addr} {n c : Nat} {l : List Int} (h : VS w k base b wide AL nL cL V us rows) (ho : Own w base (.slice A n c) l) (hg : GrewR w w' base V V' (us ++ [.slice A n c])) :
    Blk w' k 79 #[.pointer (some ⟨b, 0, none⟩), vi wide, .slice AL nL cL, V] ∧ VS (w'.setCell ⟨k, 3, none⟩ V') k base b wide AL nL cL V' (us ++ [.slice A n c]) (rows ++ [l]) := by
  have h1 := row_far h.own hg.grown h.blk (by decide)
  have hs : Safe w' (w'.setCell ⟨k, 3, none⟩ V') := Safe.one blk_grown h1 ⟨by decide, by decide, by decide⟩
  have hr := (hg.rows h.own h.rows).snoc (ho.grown hg.grown (own_ne ho h.own))
  exact ⟨h1, h1.set_ 3 V', hg.own.safe hs, hr.safe hs⟩
abbrev NoWk (e : Ending) : Prop := ∃ j : Int, e = .returned (.tuple #[.pointer none, .iface 71 (vi j)])
set_option maxRecDepth 100000 in
set_option maxHeartbeats 4000000 in
theorem newwalker_no1 (b : Nat) (wide : Int) (hwI : I64 wide) (AL : Option Addr) (nL cL : Nat) (Ls : List (List GateR)) (hLn : Ls.length = nL) (hL2 : nL ≤ 5864062014805) (hno : ¬ CirR wide Ls) (A : Option Addr) (n c : Nat) (w : World) (hLT : LT w AL Ls) :
    Calls Tryz.prog 21 #[.pointer (some ⟨b, 0, none⟩), .agg #[vi wide, .slice AL nL cL], .slice A n c] w fun e w' => NoWk e ∧ Below w.heap.size w w' := by
  have hb0 : Below w.heap.size w (w.alloc (.cells #[vi wide, .slice AL nL cL] 24)) := (Below.refl _ _).alloc (Nat.le_refl _) _
  have HCK := Lib.hid (checked_any wide hwI AL nL cL Ls hLn hL2 _ (hLT.below hb0))
  have HB0 := Lib.hid hb0
  clear hLT hb0
  go_enter Tryz.func21, Tryz.ntmps21
  go_wp2_with fail
  refine HCK.out.mono ?_
  rintro _ w2 ⟨⟨h, -⟩ | ⟨-, j, rfl⟩, hb2⟩
  · exact absurd h hno
  · have hb := HB0.out.trans (hb2.mono HB0.out.size)
    go_wp2
    go_ret2
    exact ⟨⟨j, rfl⟩, hb⟩
set_option maxRecDepth 100000 in
set_option maxHeartbeats 4000000 in
theorem newwalker_no2 (b : Nat) (v : Nat) (AL : Option Addr) (nL cL : Nat) (Ls : List (List GateR)) (hLn : Ls.length = nL) (hL2 : nL ≤ 5864062014805) (hyes : CirR (v : Int) Ls) (A : Option Addr) (n c : Nat) (hn : n < 9223372036854775808) (hne : n ≠ 2 ^ v) (w : World) (hLT : LT w AL Ls) :
    Calls Tryz.prog 21 #[.pointer (some ⟨b, 0, none⟩), .agg #[vi (v : Int), .slice AL nL cL], .slice A n c] w fun e w' => NoWk e ∧ Below w.heap.size w w' := by
  have h6 := hyes.w6
  have hb0 : Below w.heap.size w (w.alloc (.cells #[vi (v : Int), .slice AL nL cL] 24)) := (Below.refl _ _).alloc (Nat.le_refl _) _
  have HCK := Lib.hid (checked_any (v : Int) (by constructor <;> omega) AL nL cL Ls hLn hL2 _ (hLT.below hb0))
  have HB0 := Lib.hid hb0
  obtain ⟨m, hm⟩ : ∃ m : Nat, m = 2 ^ v := ⟨_, rfl⟩
  have hm64 : m ≤ 64 := by rw [hm]; exact Nat.pow_le_pow_right (n := 2) (by omega) (show v ≤ 6 by omega)
  have hpw : ((2 : Int) ^ v) = (m : Int) := by rw [hm, Int.natCast_pow]; rfl
  have hmin : min v 64 = v := by omega
  have hwr : IntKind.i64.wrap (m : Int) = (m : Int) := IntWalk.i64_in _ (by constructor <;> omega)
  have t1 : ((n : Int) != (m : Int)) = true := by rw [bne_iff_ne]; omega
  have hQ := Blk.new w 24 #[vi (v : Int), .slice AL nL cL]
  have HQ := Lib.hid hQ
  have HYES := Lib.hid hyes
  clear hLT hb0 hm hne hQ hyes
  go_enter Tryz.func21, Tryz.ntmps21
  go_wp2_with fail
  refine HCK.out.mono ?_
  rintro _ w2 ⟨⟨-, rfl⟩ | ⟨h, -⟩, hb2⟩
  · have hb := HB0.out.trans (hb2.mono HB0.out.size)
    have hQ2 := HQ.out.below hb2 HQ.out.lt
    have q0 := (hQ2.cell 0).trans rfl
    have q1 := (hQ2.cell 1).trans rfl
    clear hQ2
    go_wp2
    go_ret2
    exact ⟨⟨_, rfl⟩, hb⟩
  · exact absurd HYES.out h
set_option maxRecDepth 100000 in
set_option maxHeartbeats 8000000 in
theorem newwalker_yes (p S b : Nat) [NeZero p] (v : Nat) (AL : Option Addr) (nL cL : Nat) (Ls : List (List GateR)) (hLn : Ls.length = nL) (hL2 : nL ≤ 5864062014805) (hyes : CirR (v : Int) Ls) (A : Option Addr) (n c : Nat) (inp : List Int) (hin : inp.length = n) (hI : ∀ x ∈ inp, I64 x) (hne : n = 2 ^ v) (w : World) (F : Fld w S b p) (hLT : LT w AL Ls) (hs : SL w A inp) :
    Calls Tryz.prog 21 #[.pointer (some ⟨b, 0, none⟩), .agg #[vi (v : Int), .slice AL nL cL], .slice A n c] w (WkIs p b (v : Int) AL nL cL inp Ls w) := by
  have hp1 := F.two
  have hp2 := F.max
  have h6 := hyes.w6
  have h8 := hyes.n8
  have hb0 : Below w.heap.size w (w.alloc (.cells #[vi (v : Int), .slice AL nL cL] 24)) := (Below.refl _ _).alloc (Nat.le_refl _) _
  have HCK := Lib.hid (checked_any (v : Int) (by constructor <;> omega) AL nL cL Ls hLn hL2 _ (hLT.below hb0))
  have HB0 := Lib.hid hb0
  have hm64 : n ≤ 64 := by rw [hne]; exact Nat.pow_le_pow_right (n := 2) (by omega) (show v ≤ 6 by omega)
  have hpw : ((2 : Int) ^ v) = (n : Int) := by rw [hne, Int.natCast_pow]; rfl
  have hmin : min v 64 = v := by omega
  have hwr : IntKind.i64.wrap (n : Int) = (n : Int) := IntWalk.i64_in _ (by constructor <;> omega)
  have t1 : ((n : Int) != (n : Int)) = false := by simp
  have hQ := Blk.new w 24 #[vi (v : Int), .slice AL nL cL]
  have HQ := Lib.hid hQ
  have HYES := Lib.hid hyes
  have HF := Lib.hid F
  have HLT := Lib.hid hLT
  have HS := Lib.hid hs
  have HIN := Lib.hid hin
  have HI := Lib.hid hI
  have HLN := Lib.hid hLn
  have HNE := Lib.hid hne
  clear hLT hb0 hne hQ hyes F hs hin hI hLn
  go_enter Tryz.func21, Tryz.ntmps21
  go_wp2_with fail
  refine HCK.out.mono ?_
  rintro _ w2 ⟨h2, hb2⟩
  rcases h2 with ⟨-, rfl⟩ | ⟨h, -⟩
  case inr => exact absurd HYES.out h
  have hb := HB0.out.trans (hb2.mono HB0.out.size)
  have hQ2 := HQ.out.below hb2 HQ.out.lt
  have q0 := (hQ2.cell 0).trans rfl
  have q1 := (hQ2.cell 1).trans rfl
  have HQ2 := Lib.hid hQ2
  have HB := Lib.hid hb
  clear hQ2 hb hb2 HCK HQ HB0
  go_wp2
  obtain ⟨k, hk⟩ : ∃ k, k = w2.heap.size := ⟨_, rfl⟩
  obtain ⟨w3, hw3⟩ : ∃ w3, w3 = w2.alloc (.cells #[.pointer (some ⟨b, 0, none⟩), vi (v : Int), .slice AL nL cL, .slice none 0 0] 79) := ⟨_, rfl⟩
  rw [← hw3, ← hk]
  have hV3 : VS w3 k w.heap.size b (v : Int) AL nL cL (.slice none 0 0) [] [] := by
    rw [hw3, hk]
    exact ⟨Blk.new _ _ _, World.ownsRow_nil _ _ _ _, RowsOwn.nil _ _⟩
  have hb3 : Below w.heap.size w w3 := by rw [hw3]; exact HB.out.alloc HB.out.size _
  have hQ3 : Blk w3 w.heap.size 24 #[vi (v : Int), .slice AL nL cL] := by rw [hw3]; exact HQ2.out.alloc _
  have hkw : w.heap.size ≤ k := by rw [hk]; exact HB.out.size
  have HV3 := Lib.hid hV3
  have HB3 := Lib.hid hb3
  have HQ3 := Lib.hid hQ3
  clear hV3 hb3 hQ3 hk hw3 q0 q1 HQ2 HB
  go_loopw [10, 35] (fun u i wr => ∃ t : Nat, t ≤ n ∧ i = vi t ∧ Own wr w3.heap.size u ((fvs (els p inp)).take t) ∧ Below w3.heap.size w3 wr) (fun _ i _ => n - (intOf i).toNat)
  case atStart => exact ⟨0, Nat.zero_le _, rfl, World.ownsRow_nil _ _ _ _, Below.refl _ _⟩
  case round =>
    obtain ⟨t, ht, rfl, ho, hb⟩ := hrel
    have hb4 := HB3.out.trans (hb.mono HB3.out.size)
    by_cases htn : t < n
    · have htx : t < inp.length := by rw [HIN.out]; exact htn
      obtain ⟨ad, rfl, _, cx⟩ := (HS.out.below hb4).at_ htx
      have hIx := HI.out _ (List.getElem_mem htx)
      have k1 : (0 : Int) ≤ (t : Int) := by omega
      have k2 : (t : Int) < (n : Int) := by omega
      have HO := Lib.hid (fun W hc => of_any p (by omega) hp2 b inp[t] hIx W hc)
      have hcR := (HF.out.below hb4 HF.out.le).c0
      have hst := map_take_succ fv (els p inp) t (by rw [els, List.length_map]; exact htx)
      have e1 : fv ((els p inp)[t]'(by rw [els, List.length_map]; exact htx)) = inp[t] % (p : Int) := by simp [els, fv_el]
      rw [e1] at hst
      have HST := Lib.hid hst
      have HLN2 := Lib.hid (show ((fvs (els p inp)).take t).length < 17592186044416 by rw [List.length_take, fvs, els, List.length_map, List.length_map, HIN.out]; omega)
      generalize inp[t] = x at cx hIx HO HST
      clear hst e1
      go_wp2_with fail
      refine (HO.out _ hcR).mono ?_
      rintro _ _ ⟨rfl, rfl⟩
      go_wp2_with (at_builtin; refine wpList_app1 wr (x % (p : Int)) rfl _ _ rfl w3.heap.size _ _ rfl rfl ho HLN2.out hb.size ?_; intro v' w4 hg)
      have ho2 := hg.own
      exact ⟨⟨t + 1, by omega, by go_num, by rw [← HST.out]; exact ho2, hg.below hb ho (Nat.le_refl _) hb.size⟩, by simp [intOf]; omega⟩
    · obtain rfl : t = n := by omega
      rename World => w4
      rw [List.take_of_length_le (by simp [fvs, els, HIN.out])] at ho
      obtain ⟨A1, n1, c1, rfl, hl1, _, _, _⟩ := ho.shapeN
      have hV4 := HV3.out.below hb
      have c3 := (hV4.blk.cell 3).trans (show _ = some (.slice none 0 0) from rfl)
      have HO := Lib.hid (ho.more (Nat.le_trans (Nat.le_trans hkw (Nat.le_of_lt HV3.out.blk.lt)) (Nat.le_refl _)))
      have HV4 := Lib.hid hV4
      have HQ4 := Lib.hid (HQ3.out.below hb HQ3.out.lt)
      have HB4 := Lib.hid hb4
      have HZ1 := Lib.hid (show (([] : List Value).length < 5864062014805) by simp)
      clear ho hl1 hV4 hb hb4
      go_upto_region 14 with (at_builtin; refine wpList_appR w4 A1 n1 c1 rfl _ _ rfl w.heap.size (.slice none 0 0) [] rfl rfl HV4.out.own HZ1.out HB4.out.size ?_; intro V5 w5 hg5; obtain ⟨A5, n5, d5, rfl, hn5, hd5⟩ := ownR_shape hg5.own; have hq5 := (HV4.out.push HO.out hg5).1; have z5 := hq5.frozen 3; have c5 := (hq5.cell 3).trans (show _ = some (.slice none 0 0) from rfl); clear hq5)
      have hv6 := (HV4.out.push HO.out hg5).2
      have HQ6 : Hid (Blk (w5.setCell ⟨k, 3, none⟩ (.slice A5 n5 d5)) w.heap.size 24 #[vi (v : Int), .slice AL nL cL]) := Lib.hid ((row_far HV4.out.own hg5.grown HQ4.out (by decide)).far (by have := HQ4.out.ne_ HV4.out.blk (by decide); exact this) _)
      have HB6 : Hid (Below w.heap.size w (w5.setCell ⟨k, 3, none⟩ (.slice A5 n5 d5))) := Lib.hid ((hg5.below HB4.out HV4.out.own (Nat.le_refl _) HB4.out.size).grown blk_grown (hg5.below HB4.out HV4.out.own (Nat.le_refl _) HB4.out.size).size (fun j hj => by injection hj with hj; omega))
      have HV6 := Lib.hid hv6
      clear hv6 hg5 z5 c5 HQ4 HV4 HB4
      obtain ⟨w6, hw6⟩ : ∃ w6, w6 = w5.setCell ⟨k, 3, none⟩ (.slice A5 n5 d5) := ⟨_, rfl⟩
      rw [← hw6] at HQ6 HB6 HV6
      rw [← hw6]
      have q1 := (HQ6.out.cell 1).trans (show _ = some (.slice AL nL cL) from rfl)
      clear hw6
      go_wp2
      go_loopw [59] (fun i wr => ∃ (t2 : Nat) (V : Value) (us : List Value), t2 ≤ nL ∧ i = vi t2 ∧ VS wr k w.heap.size b (v : Int) AL nL cL V us (lvR p inp Ls (t2 + 1)) ∧ Below w.heap.size w wr) (fun i _ => nL - (intOf i).toNat)
      case atStart => exact ⟨0, _, _, Nat.zero_le _, rfl, HV6.out, HB6.out⟩
      case round =>
        rename World => w7
        obtain ⟨t2, V, us, ht2, rfl, hv7, hb7⟩ := hrel
        obtain ⟨AV, nV, cV, rfl, hnV, hcV⟩ := ownR_shape hv7.own
        have hlen7 : us.length = t2 + 1 := by rw [hv7.rows.1, lvR_len]
        have HV7 := Lib.hid hv7
        have HB7 := Lib.hid hb7
        have hnV2 : nV = t2 + 1 := by omega
        subst hnV2
        by_cases ht2n : t2 < nL
        · have htg : t2 < Ls.length := by rw [HLN.out]; exact ht2n
          obtain ⟨al, AG, nG, cG, rfl, hal, hcl, hlG, hG2, hGT⟩ := (HLT.out.below hb7) t2 htg
          have htb := tb_own hv7.own hv7.rows (fun l hl x hx => by
            obtain ⟨j, hj, rfl⟩ := List.mem_iff_getElem.1 hl
            rw [lvR_at] at hx
            exact i64_fvs _ hp2 x hx)
          have hrl : t2 < (lvR p inp Ls (t2 + 1)).length := by rw [lvR_len]; omega
          obtain ⟨av, AR, nR, cR, rfl, hav, hcv, hlR, hR2, hsR, _⟩ := htb t2 hrl
          rw [lvR_at] at hlR hsR
          have k1 : (0 : Int) ≤ (t2 : Int) := by omega
          have k2 : (t2 : Int) < (nL : Int) := by omega
          have k3 : (t2 : Int) < (t2 : Int) + 1 := by omega
          have HGT := Lib.hid hGT
          have HLG := Lib.hid hlG
          have HCV := Lib.hid (And.intro hav hcv)
          have HSR := Lib.hid hsR
          have HLR := Lib.hid hlR
          have hnG : nG ≤ 64 := by rw [← hlG]; exact ((layN_iff _).1 (HYES.out.lay _ (List.getElem_mem htg))).2.2
          have HGO : Hid (∀ j (h : j < Ls[t2].length), (∃ kk a2 b2 : Nat, Ls[t2][j] = ⟨(kk : Int), (a2 : Int), (b2 : Int)⟩ ∧ a2 < nR ∧ b2 < nR ∧ (lvE p inp Ls (t2 + 1))[j]? = some (apE kk (co (lvE p inp Ls t2) a2) (co (lvE p inp Ls t2) b2)))) := Lib.hid (fun j hj => by
            obtain ⟨g1, g2, g3, g4, g5⟩ := HYES.out.gate t2 htg _ (List.getElem_mem hj)
            have hsz := HYES.out.size (p := p) (inp := inp) (by rw [HIN.out, HNE.out]) t2 (by omega)
            rw [HYES.out.ben t2 (by omega), ← hsz] at g3 g5
            have hfl : (fvs (lvE p inp Ls t2)).length = (lvE p inp Ls t2).length := by simp [fvs]
            have hat := lvE_at p inp Ls t2 htg j hj
            generalize Ls[t2][j] = g at *
            obtain ⟨e1, e2, e3⟩ := g
            dsimp only at g1 g2 g3 g4 g5 hat
            obtain ⟨m1, rfl⟩ := Int.eq_ofNat_of_zero_le (show 0 ≤ e1 by omega)
            obtain ⟨m2, rfl⟩ := Int.eq_ofNat_of_zero_le g2
            obtain ⟨m3, rfl⟩ := Int.eq_ofNat_of_zero_le g4
            exact ⟨m1, m2, m3, rfl, by omega, by omega, hat⟩)
          have HLE : Hid ((lvE p inp Ls (t2 + 1)).length = nG) := Lib.hid (by rw [lvE_len, if_neg (by omega), Nat.add_sub_cancel, List.getD_eq_getElem?_getD, List.getElem?_eq_getElem htg, Option.getD_some, hlG])
          obtain ⟨gs, hgs⟩ : ∃ gs, gs = Ls[t2] := ⟨_, rfl⟩
          rw [← hgs] at HGT HLG HGO
          have HZ2 := Lib.hid (show us.length < 5864062014805 by omega)
          clear hGT hlG hav hsR hlR htb hv7 hb7 hal hgs hcv
          go_wp2
          go_loopw [10, 66] (fun u i wr => ∃ j : Nat, j ≤ nG ∧ i = vi j ∧ Own wr w7.heap.size u ((fvs (lvE p inp Ls (t2 + 1))).take j) ∧ Below w7.heap.size w7 wr) (fun _ i _ => nG - (intOf i).toNat)
          case atStart => exact ⟨0, Nat.zero_le _, rfl, World.ownsRow_nil _ _ _ _, Below.refl _ _⟩
          case round =>
            obtain ⟨j, hj, rfl, ho, hbj⟩ := hrel
            obtain ⟨AU, nU, cU, rfl, hlU, _, _, _⟩ := ho.shapeN
            have hB8 := HB7.out.trans (hbj.mono HB7.out.size)
            by_cases hjn : j < nG
            · have hjg : j < gs.length := by rw [HLG.out]; exact hjn
              obtain ⟨ad, rfl, hE⟩ := (HGT.out.below hbj) j hjg
              obtain ⟨d0, d1, d2⟩ := hE.cells
              clear hE
              obtain ⟨kk, a2, b2, heq, ha2, hb2, hat⟩ := HGO.out j hjg
              rw [heq] at d0 d1 d2
              dsimp only at d0 d1 d2
              clear heq
              have hax : a2 < (fvs (lvE p inp Ls t2)).length := by rw [HLR.out]; exact ha2
              have hbx : b2 < (fvs (lvE p inp Ls t2)).length := by rw [HLR.out]; exact hb2
              obtain ⟨ar, rfl, har, ca⟩ := HSR.out.at_ hax
              obtain ⟨ar2, hear, _, cb⟩ := HSR.out.at_ hbx
              injection hear with hear
              subst hear
              have ex : (fvs (lvE p inp Ls t2))[a2] = fv (co (lvE p inp Ls t2) a2) := by
                have h : a2 < (lvE p inp Ls t2).length := by simpa [fvs] using hax
                simp [fvs, co, List.getElem?_eq_getElem h]
              have ey : (fvs (lvE p inp Ls t2))[b2] = fv (co (lvE p inp Ls t2) b2) := by
                have h : b2 < (lvE p inp Ls t2).length := by simpa [fvs] using hbx
                simp [fvs, co, List.getElem?_eq_getElem h]
              rw [ex] at ca
              rw [ey] at cb
              have hjl : j < (lvE p inp Ls (t2 + 1)).length := by rw [HLE.out]; exact hjn
              have hst := map_take_succ fv (lvE p inp Ls (t2 + 1)) j hjl
              rw [List.getElem?_eq_getElem hjl] at hat
              injection hat with hat
              rw [hat] at hst
              obtain ⟨x, hx⟩ : ∃ x, x = co (lvE p inp Ls t2) a2 := ⟨_, rfl⟩
              obtain ⟨y, hy⟩ : ∃ y, y = co (lvE p inp Ls t2) b2 := ⟨_, rfl⟩
              rw [← hx] at ca hst
              rw [← hy] at cb hst
              have HST := Lib.hid hst
              have HO := Lib.hid ho
              have HBJ := Lib.hid hbj
              have HCA := Lib.hid (And.intro ca cb)
              have HLN3 := Lib.hid (show ((fvs (lvE p inp Ls (t2 + 1))).take j).length < 17592186044416 by rw [List.length_take]; omega)
              have i1 : (0 : Int) ≤ (j : Int) := by omega
              have i2 : (j : Int) < (nG : Int) := by omega
              have i3 : (0 : Int) ≤ (a2 : Int) := by omega
              have i4 : (a2 : Int) < (nR : Int) := by omega
              have i5 : (0 : Int) ≤ (b2 : Int) := by omega
              have i6 : (b2 : Int) < (nR : Int) := by omega
              have HGB := Lib.hid (Blk.new wr 61 #[vi kk, vi a2, vi b2])
              have HWA := Lib.hid ((Below.refl wr.heap.size wr).alloc (Nat.le_refl _) (.cells #[vi kk, vi a2, vi b2] 61))
              have KS : Hid (∀ W', Below w7.heap.size w7 W' → Blk W' wr.heap.size 61 #[vi kk, vi a2, vi b2] → W'.cell? ⟨wr.heap.size, 0, none⟩ = some (vi kk) ∧ W'.cell? ⟨wr.heap.size, 1, none⟩ = some (vi a2) ∧ W'.cell? ⟨wr.heap.size, 2, none⟩ = some (vi b2) ∧ W'.cell? ⟨k, 3, none⟩ = some (.slice (some av) (t2 + 1) cV) ∧ W'.cell? (av.add t2) = some (.slice (some ar) nR cR) ∧ W'.cell? (ar.add a2) = some (vi (fv x)) ∧ W'.cell? (ar.add b2) = some (vi (fv y))) := Lib.hid fun W' hb hg =>
                ⟨(hg.cell 0).trans rfl, (hg.cell 1).trans rfl, (hg.cell 2).trans rfl, ((HV7.out.below hb).blk.cell 3).trans rfl, (hb.cell HCV.out.1).trans HCV.out.2, (hb.cell (block_lt_of_cell HCA.out.1)).trans HCA.out.1, (hb.cell (block_lt_of_cell HCA.out.2)).trans HCA.out.2⟩
              have hb66 : Below w7.heap.size w7 (wr.alloc (.cells #[vi kk, vi a2, vi b2] 61)).drew := below_drewN (hbj.trans (HWA.out.mono hbj.size)) 1
              have hg66 : Blk (wr.alloc (.cells #[vi kk, vi a2, vi b2] 61)).drew wr.heap.size 61 #[vi kk, vi a2, vi b2] := HGB.out.drew
              clear ca cb hst hat hx hy ex ey ho har hlU
              go_wp2_with fail
              refine wp_region_held_drew (S := fun W' => W'.cell? ⟨wr.heap.size, 0, none⟩ = some (vi kk) ∧ W'.cell? ⟨wr.heap.size, 1, none⟩ = some (vi a2) ∧ W'.cell? ⟨wr.heap.size, 2, none⟩ = some (vi b2) ∧ W'.cell? ⟨k, 3, none⟩ = some (.slice (some av) (t2 + 1) cV) ∧ W'.cell? (av.add t2) = some (.slice (some ar) nR cR) ∧ W'.cell? (ar.add a2) = some (vi (fv x)) ∧ W'.cell? (ar.add b2) = some (vi (fv y))) (by kernel_rfl) (KS.out _ hb66 hg66) (fun hHeld => ?_)
              refine tkH 0 ?_
              refine tkH 1 ?_
              refine tkH 2 ?_
              refine tkH 3 ?_
              refine tkH 4 ?_
              refine tkH 5 ?_
              refine tkH 6 ?_
              refine tkH 7 ?_
              refine tkH 8 ?_
              refine tkH 9 ?_
              refine tkH 10 ?_
              refine tkH 11 ?_
              refine tkH 12 ?_
              refine tkH 13 ?_
              refine tkH 14 ?_
              refine tkH 15 ?_
              refine tkH 16 ?_
              refine tkH 17 ?_
              refine tkH 18 ?_
              refine tkH 19 ?_
              refine tkH 20 ?_
              refine tkH 21 ?_
              refine tkH 22 ?_
              refine tkH 23 ?_
              refine tkH 24 ?_
              refine tkH 25 ?_
              refine stH 26 (fun K hK => ?_)
              go_simp
              refine (apply_any p S b k kk (fv x) (fv y) (i64_fv _ hp2) (i64_fv _ hp2) _ (HF.out.below (HB7.out.trans (hb66.mono HB7.out.size)) HF.out.le) ((HV7.out.below hb66).blk.cell 0)).mono ?_
              rintro _ w5 ⟨rfl, m5, h5⟩
              have hb5 : Below w7.heap.size w7 w5 := by rw [h5]; exact below_drewN hb66 _
              have hg5 : Blk w5 wr.heap.size 61 #[vi kk, vi a2, vi b2] := by rw [h5]; exact hg66.drewN _
              have ho5 : Own w5 w7.heap.size (.slice AU nU cU) ((fvs (lvE p inp Ls (t2 + 1))).take j) := by rw [h5]; exact (HO.out.alloc _)
              have hne5 : some wr.heap.size ≠ (Value.slice AU nU cU).ownBlock := fun e => by have := (World.ownsRow.lt HO.out wr.heap.size e.symm).2; omega
              clear h5 hb66 hg66
              simp only [el_fv]
              refine hK.out _ _ (KS.out _ hb5 hg5) (fun hHeld => ?_)
              clear hK K
              (try simp only [Act.put, List.setIfInBounds_toArray, List.set_cons_zero, List.set_cons_succ])
              refine stH 27 (fun K hK => ?_)
              go_simp
              refine hK.out _ _ (KS.out _ (hb5.alloc hb5.size _) (hg5.alloc _)) (fun hHeld => ?_)
              clear hK K
              (try simp only [Act.put, List.setIfInBounds_toArray, List.set_cons_zero, List.set_cons_succ])
              refine wpAnyH_ready (rs := [28]) (by kernel_rfl) (by simp) ?_
              refine AllReadyH.cons rfl (fun K hK => ?_) AllReadyH.nil
              refine step_one w5 _ (fv (apE kk x y)) (by rfl) (by rfl) _ _ (by rfl) w7.heap.size _ _ (by rfl) (by rfl) ho5 HLN3.out hb5.size ?_
              intro u6 w6 hg6
              have hb6 := hg6.below hb5 ho5 (Nat.le_refl _) hb5.size
              have hgb6 := Blk.grown hg5 hg6.grown hne5
              have ho6 := hg6.own
              rw [HST.out] at ho6
              obtain ⟨A6, n6, c6, rfl, hl6, _, _, _⟩ := ho6.shapeN
              clear hg6 hl6 ho5 hne5
              refine hK.out _ _ (KS.out _ hb6 hgb6) (fun hHeld => ?_)
              clear hK K
              (try simp only [Act.put, List.setIfInBounds_toArray, List.set_cons_zero, List.set_cons_succ])
              refine tkH 29 ?_
              refine wpAnyH_done (by kernel_rfl) ?_ _
              have HO6 := Lib.hid (And.intro ho6 hb6)
              clear hHeld KS hb5 hg5 hb6 hgb6 ho6
              go_wp2
              go_roundw
              case rel => exact ⟨j + 1, by omega, by go_num, HO6.out.1, HO6.out.2⟩
              case measure => simp only [intOf, Int.toNat_natCast]; omega
            · obtain rfl : j = nG := by omega
              rename World => w4
              rw [List.take_of_length_le (by simp [fvs, HLE.out])] at ho
              have HV4 := Lib.hid (HV7.out.below hbj)
              have HO := Lib.hid (ho.more HB7.out.size)
              have HB4 := Lib.hid hB8
              have c3 := (HV4.out.blk.cell 3).trans (show _ = some (.slice (some av) (t2 + 1) cV) from rfl)
              have HRS := Lib.hid (lvR_succ p inp Ls (t2 + 1))
              clear ho hlU hbj hB8
              go_upto_region 24 with (at_builtin; refine wpList_appR w4 AU nU cU rfl _ _ rfl w.heap.size (.slice (some av) (t2 + 1) cV) us rfl rfl HV4.out.own HZ2.out HB4.out.size ?_; intro V5 w5 hg5; obtain ⟨A5, n5, d5, rfl, hn5, hd5⟩ := ownR_shape hg5.own; have hq5 := (HV4.out.push HO.out hg5).1; have z5 := hq5.frozen 3; have c5 := (hq5.cell 3).trans (show _ = some (.slice (some av) (t2 + 1) cV) from rfl); clear hq5)
              have hv6 := (HV4.out.push HO.out hg5).2
              rw [← HRS.out] at hv6
              have HB6 : Hid (Below w.heap.size w (w5.setCell ⟨k, 3, none⟩ (.slice A5 n5 d5))) := Lib.hid ((hg5.below HB4.out HV4.out.own (Nat.le_refl _) HB4.out.size).grown blk_grown (hg5.below HB4.out HV4.out.own (Nat.le_refl _) HB4.out.size).size (fun j hj => by injection hj with hj; omega))
              have HV6 := Lib.hid hv6
              clear hv6 hg5 z5 c5 HV4 HB4 c3
              go_wp2
              go_roundw
              case rel => exact ⟨t2 + 1, _, _, by omega, by go_num, HV6.out, HB6.out⟩
              case measure => simp only [intOf, Int.toNat_natCast]; omega
        · obtain rfl : t2 = nL := by omega
          go_wp2
          go_ret2
          exact ⟨k, _, _, _, _, rfl, hkw, HV7.out.blk, HV7.out.own, by rw [HLN.out]; exact HV7.out.rows, HB7.out⟩
end Go.Proofs.YteceghbjjnknbaaGreat

namespace Go.Proofs.YteceghbjjnknbaaGreat
open Go.RowKit Zp
set_option maxRecDepth 100000 in
theorem vars_in (wide : Int) (AL : Option Addr) (nL cL : Nat) (w : World) :
    Calls Tryz.prog 63 #[.agg #[vi wide, .slice AL nL cL], vi (-1)] w fun e w' => e = .returned (vi wide) ∧ Below w.heap.size w w' := by
  have hb0 : Below w.heap.size w (w.alloc (.cells #[vi wide, .slice AL nL cL] 24)) := (Below.refl _ _).alloc (Nat.le_refl _) _
  go_enter Tryz.func63, Tryz.ntmps63
  go_wp2
  go_ret
  exact ⟨rfl, hb0⟩
set_option maxRecDepth 100000 in
theorem vars_at (wide : Int) (AL : Option Addr) (nL cL : Nat) (Ls : List (List GateR)) (li : Nat) (hli : li < Ls.length) (hLn : Ls.length = nL) (hok : LayN Ls[li].length) (w : World) (hLT : LT w AL Ls) :
    Calls Tryz.prog 63 #[.agg #[vi wide, .slice AL nL cL], vi li] w fun e w' => e = .returned (vi (layV Ls[li].length)) ∧ Below w.heap.size w w' := by
  obtain ⟨al, A1, n1, c1, rfl, hal, hcl, hl1, hl2, hGT⟩ := hLT li hli
  have k1 : (0 : Int) ≤ (li : Int) := by omega
  have k2 : (li : Int) < (nL : Int) := by omega
  have k3 : ¬ (li : Int) < 0 := by omega
  rw [hl1] at hok ⊢
  have hb0 : Below w.heap.size w (w.alloc (.cells #[vi wide, .slice (some al) nL cL] 24)) := (Below.refl _ _).alloc (Nat.le_refl _) _
  have hcl1 : (w.alloc (.cells #[vi wide, .slice (some al) nL cL] 24)).cell? (al.add li) = some (.slice A1 n1 c1) := (hb0.cell (by rw [block_of_add]; exact hal)).trans hcl
  have HZ := Lib.hid (fun W => size_lay n1 hok W)
  clear hLT hGT hok
  go_enter Tryz.func63, Tryz.ntmps63
  go_wp2_with fail
  refine (HZ.out _).mono ?_
  rintro e w' ⟨rfl, rfl⟩
  go_wp2
  go_ret
  exact ⟨rfl, hb0⟩
end Go.Proofs.YteceghbjjnknbaaGreat

namespace Go.Proofs.YteceghbjjnknbaaGreat
open Go.RowKit Zp
section
variable {p : Nat} [NeZero p]
def tbP (f : Nat → Fin p) (n : Nat) (set : List (Fin p)) (t : Nat) : List (Fin p) := tab (2 ^ (n - t)) (extP f (set.take t) (n - t))
theorem tbP_len (f : Nat → Fin p) (n : Nat) (set : List (Fin p)) (t : Nat) : (tbP f n set t).length = 2 ^ (n - t) := by rw [tbP, tab_length]
theorem tbP_zero (L : List (Fin p)) (n : Nat) (set : List (Fin p)) (hL : L.length = 2 ^ n) : tbP (co L) n set 0 = L := by
  unfold tbP
  rw [List.take_zero, Nat.sub_zero, ← hL]
  exact tab_co L
theorem tbP_succ (f : Nat → Fin p) (n : Nat) (set : List (Fin p)) (t : Nat) (ht : t < set.length) (htn : t < n) : fixL (2 ^ (n - (t + 1))) (tbP f n set t) set[t] = tbP f n set (t + 1) := by
  obtain ⟨m, hm⟩ : ∃ m, n - t = m + 1 := ⟨n - t - 1, by omega⟩
  have e1 : n - (t + 1) = m := by omega
  have e2 : set.take (t + 1) = set.take t ++ [set[t]] := by rw [List.take_add_one, List.getElem?_eq_getElem ht]; rfl
  unfold tbP
  rw [e1, hm, e2]
  refine ext_co (by rw [fixL_length, tab_length]) (fun i hi => ?_)
  rw [fixL_length] at hi
  rw [co_fixL _ _ hi, co_tab, co_tab, co_tab, if_pos (by rw [Nat.pow_succ]; omega), if_pos (by rw [Nat.pow_succ]; omega), if_pos hi, extP_app]
end
structure Wkr (w : World) (k b v : Nat) (AL : Option Addr) (nL cL : Nat) (Ls : List (List GateR)) (AV : Option Addr) (nV cV : Nat) (rows : List (List Int)) : Prop where
  blk : Blk w k 79 #[.pointer (some ⟨b, 0, none⟩), vi (v : Int), .slice AL nL cL, .slice AV nV cV]
  tb : TB w AV rows
  lt : LT w AL Ls
theorem Wkr.below {w w' : World} {k b v : Nat} {AL : Option Addr} {nL cL : Nat} {Ls : List (List GateR)} {AV : Option Addr} {nV cV : Nat} {rows : List (List Int)} (h : Wkr w k b v AL nL cL Ls AV nV cV rows) (hb : Below w.heap.size w w') : Wkr w' k b v AL nL cL Ls AV nV cV rows :=
  ⟨h.blk.below hb h.blk.lt, h.tb.below hb, h.lt.below hb⟩
theorem vars_lvl (v : Nat) (AL : Option Addr) (nL cL : Nat) (Ls : List (List GateR)) (hLn : Ls.length = nL) (hyes : CirR (v : Int) Ls) (li : Nat) (hli : li ≤ Ls.length) (x : Int) (hx : x = (li : Int) - 1) (w : World) (hLT : LT w AL Ls) :
    Calls Tryz.prog 63 #[.agg #[vi (v : Int), .slice AL nL cL], vi x] w fun e w' => e = .returned (vi (nvR Ls v li)) ∧ Below w.heap.size w w' := by
  cases li with
  | zero =>
    obtain rfl : x = -1 := by omega
    exact vars_in (v : Int) AL nL cL w
  | succ l =>
    obtain rfl : x = (l : Int) := by omega
    have hl : l < Ls.length := by omega
    have hg : Ls.getD l [] = Ls[l] := by rw [List.getD_eq_getElem?_getD, List.getElem?_eq_getElem hl]; rfl
    have h := vars_at (v : Int) AL nL cL Ls l hl hLn (hyes.lay _ (List.getElem_mem hl)) w hLT
    rw [show nvR Ls v (l + 1) = layV Ls[l].length by rw [nvR, hg]]
    exact h
set_option maxRecDepth 100000 in
set_option maxHeartbeats 4000000 in
theorem half_any (p S b k v : Nat) [NeZero p] (AL : Option Addr) (nL cL : Nat) (Ls : List (List GateR)) (hLn : Ls.length = nL) (hyes : CirR (v : Int) Ls) (AV : Option Addr) (nV cV : Nat) (rows : List (List Int)) (hrn : rows.length = nV) (li : Nat) (hli : li ≤ Ls.length) (hlr : li < rows.length) (L : List (Fin p)) (hL : rows[li] = fvs L) (n : Nat) (hn : n = nvR Ls v li) (hLl : L.length = 2 ^ n)
    (num : Nat) (hnum : num < 2 ^ n) (A : Option Addr) (s c : Nat) (xs : List Int) (hs : xs.length = s) (hsn : s ≤ n) (hI : ∀ x ∈ xs, I64 x) (w : World) (F : Fld w S b p) (W : Wkr w k b v AL nL cL Ls AV nV cV rows) (hxs : SL w A xs) :
    Calls Tryz.prog 101 #[.pointer (some ⟨k, 0, none⟩), vi li, vi num, .slice A s c] w fun e w' => e = .returned (.tuple #[vi (fv (shE n num (els p xs))), vi (fv (vaE (co L) n num (els p xs)))]) ∧ Below w.heap.size w w' := by
  have hp1 := F.two
  have hp2 := F.max
  have h6 : n ≤ 6 := by rw [hn]; exact hyes.small li
  have hVA := Lib.hid (fun W hLT => vars_lvl v AL nL cL Ls hLn hyes li hli ((li : Int) - 1) rfl W hLT)
  rw [← hn] at hVA
  have h8 : nL ≤ 8 := by have := hyes.n8; omega
  have hli8 : li ≤ 8 := by omega
  obtain ⟨av, A1, n1, c1, rfl, hav, hcv, hl1, hn1, hs1, -⟩ := W.tb li hlr
  rw [hL] at hl1 hs1
  have e3 := (W.blk.cell 3).trans (show _ = some (.slice (some av) nV cV) from rfl)
  have e0 := (W.blk.cell 0).trans (show _ = some (.pointer (some ⟨b, 0, none⟩)) from rfl)
  have e1 := (W.blk.cell 1).trans (show _ = some (vi (v : Int)) from rfl)
  have e2 := (W.blk.cell 2).trans (show _ = some (.slice AL nL cL) from rfl)
  have i1 : (0 : Int) ≤ (li : Int) := by omega
  have i2 : (li : Int) < (nV : Int) := by omega
  have iw : IntKind.i64.wrap ((li : Int) - 1) = (li : Int) - 1 := IntWalk.i64_in _ (by constructor <;> omega)
  have HF := Lib.hid F
  have HW := Lib.hid W
  have HS := Lib.hid hs
  have HI := Lib.hid hI
  have HXS := Lib.hid hxs
  have HLL := Lib.hid hLl
  have HNUM := Lib.hid hnum
  have HT0 : Hid (∃ (T : List (Fin p)), T = tbP (co L) n (els p xs) 0 ∧ T.length = n1 ∧ SL w A1 (fvs T)) := Lib.hid ⟨L, (tbP_zero L n _ hLl).symm, by rw [← hl1]; simp [fvs], hs1⟩
  clear F W hs hI hxs hLl hnum hs1 hl1 hL hyes hLn hn hli hlr hrn
  go_enter Tryz.func101, Tryz.ntmps101
  go_wp2_with fail
  refine (hVA.out _ HW.out.lt).mono ?_
  rintro _ w2 ⟨rfl, hb2⟩
  have HB2 := Lib.hid hb2
  clear hb2
  go_wp2
  go_loopw [10, 31] (fun tv i wr => ∃ t : Nat, t ≤ s ∧ i = vi t ∧ (∃ (A2 : Option Addr) (n2 c2 : Nat) (T : List (Fin p)), tv = .slice A2 n2 c2 ∧ T = tbP (co L) n (els p xs) t ∧ T.length = n2 ∧ SL wr A2 (fvs T)) ∧ Below w.heap.size w wr) (fun _ i _ => s - (intOf i).toNat)
  case atStart =>
    obtain ⟨T, q1, q2, q3⟩ := HT0.out
    exact ⟨0, Nat.zero_le _, rfl, ⟨A1, n1, c1, T, rfl, q1, q2, q3.below HB2.out⟩, HB2.out⟩
  case round =>
    obtain ⟨t, ht, rfl, ⟨A2, n2, c2, T, rfl, hT, hTl, hsT⟩, hb⟩ := hrel
    by_cases hts : t < s
    · have htx : t < xs.length := by rw [HS.out]; exact hts
      obtain ⟨ad, rfl, _, cx⟩ := (HXS.out.below hb).at_ htx
      have hIx := HI.out _ (List.getElem_mem htx)
      have z0 := ((HW.out.below hb).blk.cell 0).trans (show _ = some (.pointer (some ⟨b, 0, none⟩)) from rfl)
      have hTn : n2 = 2 ^ (n - t) := by rw [← hTl, hT, tbP_len]
      have h2 : n2 = 2 * 2 ^ (n - (t + 1)) := by rw [hTn, show n - t = n - (t + 1) + 1 by omega, Nat.pow_succ]; omega
      have hfx := Lib.hid (fix_any p S b n2 (n - (t + 1)) (2 ^ (n - (t + 1))) ⟨by omega, by rw [hTn, show n - (t + 1) + 1 = n - t by omega]⟩ h2 A2 c2 (fvs T) (by simpa [fvs] using hTl) (i64_fvs T hp2) xs[t] hIx wr (HF.out.below hb HF.out.le) hsT)
      have hN : fixL (2 ^ (n - (t + 1))) T (el p xs[t]) = tbP (co L) n (els p xs) (t + 1) := by
        have h := tbP_succ (co L) n (els p xs) t (by simpa [els] using htx) (by omega)
        rw [← hT] at h
        rw [← h]
        congr 1
        simp [els]
      rw [els_fvs, hN] at hfx
      have i3 : (0 : Int) ≤ (t : Int) := by omega
      have i4 : (t : Int) < (s : Int) := by omega
      generalize xs[t] = x at cx hIx hfx
      clear hT hTl hsT hTn h2 hN
      go_wp2_with fail
      refine (hfx.out).mono ?_
      rintro _ w3 ⟨v3, rfl, hown, hb3⟩
      obtain ⟨A3, n3, c3, rfl, hl3, hnc, _, hs3⟩ := hown.shapeN
      clear hown
      go_wp2
      go_roundw
      case rel => exact ⟨t + 1, by omega, by go_num, ⟨A3, n3, c3, _, rfl, rfl, by rw [← hl3]; simp [fvs], hs3⟩, hb.trans (hb3.mono hb.size)⟩
      case measure => simp [intOf]; omega
    · obtain rfl : t = s := by omega
      obtain ⟨m, hm⟩ : ∃ m, n = t + m := ⟨n - t, by omega⟩
      have hmn : n - t = m := by omega
      have hm6 : m ≤ 6 := by omega
      have hsub : IntKind.i64.wrap ((n : Int) - (t : Int)) = (m : Int) := by rw [IntWalk.i64_in _ (by constructor <;> omega)]; omega
      have hm0 : (0 : Int) ≤ (m : Int) := by omega
      have hmin : min m 64 = m := by omega
      obtain ⟨P, hP⟩ : ∃ P : Nat, P = 2 ^ m := ⟨_, rfl⟩
      have hP1 : 1 ≤ P := by rw [hP]; exact Nat.pow_pos (by omega)
      have hP64 : P ≤ 64 := by rw [hP]; exact Nat.pow_le_pow_right (n := 2) (by omega) hm6
      have hpw : ((2 : Int) ^ m) = (P : Int) := by rw [hP, Int.natCast_pow]; rfl
      have hw1 : IntKind.i64.wrap (P : Int) = (P : Int) := IntWalk.i64_in _ (by constructor <;> omega)
      have hw2 : IntKind.i64.wrap ((P : Int) - 1) = (P : Int) - 1 := IntWalk.i64_in _ (by constructor <;> omega)
      have hnumI : num < 64 := Nat.lt_of_lt_of_le HNUM.out (Nat.pow_le_pow_right (n := 2) (by omega) h6)
      obtain ⟨q, hq⟩ : ∃ q, q = num / P := ⟨_, rfl⟩
      have hqd : (num : Int) / (P : Int) = (q : Int) := by rw [hq, Int.natCast_ediv]
      obtain ⟨r, hr⟩ : ∃ r, r = num % P := ⟨_, rfl⟩
      have hand : bits .and .i64 (num : Int) ((P : Int) - 1) = (r : Int) := by
        have h := i64_and_nat num (P - 1) (by omega) (by omega)
        rw [show ((P - 1 : Nat) : Int) = (P : Int) - 1 by omega] at h
        rw [h, hP, Nat.and_two_pow_sub_one_eq_mod, ← hP, hr]
      have hq64 : q ≤ 64 := by rw [hq]; exact Nat.le_trans (Nat.div_le_self _ _) (by omega)
      have hTn : n2 = P := by rw [← hTl, hT, tbP_len, hmn, hP]
      have hrP : r < n2 := by rw [hTn, hr]; exact Nat.mod_lt _ (by omega)
      have hrl : r < (fvs T).length := by rw [show (fvs T).length = n2 by simpa [fvs] using hTl]; exact hrP
      obtain ⟨at2, rfl, _, cr⟩ := hsT.at_ hrl
      have hval : (fvs T)[r] = fv (vaE (co L) n num (els p xs)) := by
        have hrT : r < T.length := by rw [hTl]; exact hrP
        have e : T[r] = extP (co L) (els p xs) m r := by
          have h : T[r]? = some (extP (co L) ((els p xs).take t) (n - t) r) := by rw [hT, tbP, tab_get? _ _ _ (by rw [hmn, ← hP, ← hTn]; exact hrP)]
          rw [List.getElem?_eq_getElem hrT] at h
          injection h with h
          rw [h, hmn, List.take_of_length_le (by simp [els, HS.out])]
        simp only [fvs, List.getElem_map]
        rw [e]
        unfold vaE
        rw [show (els p xs).length = t by simp [els, HS.out], hmn, ← hP, ← hr]
      have hsh : shE n num (els p xs) = wtL (els p xs) q := by
        unfold shE
        rw [show (els p xs).length = t by simp [els, HS.out], hmn, ← hP, ← hq]
      rw [hval] at cr
      have HSH := Lib.hid hsh
      have z0 := ((HW.out.below hb).blk.cell 0).trans (show _ = some (.pointer (some ⟨b, 0, none⟩)) from rfl)
      have HU := Lib.hid (fun W hc hs => unit_any p hp2 hp1 b q (by omega) A t c xs HS.out (by omega) HI.out W hc hs)
      have hcb := (HF.out.below hb HF.out.le).c0
      have hsx := HXS.out.below hb
      have HX := Lib.hid (And.intro hcb (And.intro hsx hb))
      have i3 : (0 : Int) ≤ (r : Int) := by omega
      have i4 : (r : Int) < (n2 : Int) := by omega
      obtain ⟨V, hV⟩ : ∃ V, V = vaE (co L) n num (els p xs) := ⟨_, rfl⟩
      rw [← hV] at cr
      have HVV := Lib.hid hV
      clear hT hTl hsT hP hq hr hm hmn hTn hrP hrl hval hsh hcb hsx hb hV
      go_upto_region 9 with (fail)
      refine wp_region_held_drew (S := fun W' => W'.cell? ⟨k, 0, none⟩ = some (.pointer (some ⟨b, 0, none⟩)) ∧ W'.cell? (at2.add r) = some (vi (fv V))) (by kernel_rfl) ⟨z0, cr⟩ (fun hHeld => ?_)
      refine tkH 0 ?_
      refine tkH 1 ?_
      refine tkH 2 ?_
      refine tkH 3 ?_
      refine tkH 4 ?_
      refine tkH 5 ?_
      refine tkH 6 ?_
      refine tkH 7 ?_
      refine tkH 9 ?_
      refine tkH 10 ?_
      refine tkH 11 ?_
      refine tkH 12 ?_
      refine tkH 13 ?_
      refine tkH 14 ?_
      refine tkH 15 ?_
      refine tkH 16 ?_
      refine stH 8 (fun K hK => ?_)
      go_simp
      refine (HU.out wr.drew HX.out.1 HX.out.2.1).mono ?_
      rintro _ w5 ⟨rfl, k5, h5⟩
      have hb5 : Below w.heap.size w w5 := by rw [h5]; exact below_drewN (below_drewN HX.out.2.2 1) _
      have hS5 : w5.cell? ⟨k, 0, none⟩ = some (.pointer (some ⟨b, 0, none⟩)) ∧ w5.cell? (at2.add r) = some (vi (fv V)) := by rw [h5]; exact ⟨z0, cr⟩
      clear h5
      refine hK.out _ _ hS5 (fun hHeld => ?_)
      clear hK K
      (try simp only [Act.put, List.setIfInBounds_toArray, List.set_cons_zero, List.set_cons_succ])
      refine tkH 17 ?_
      refine tkH 18 ?_
      refine wpAnyH_done (by kernel_rfl) ?_ _
      clear hHeld
      go_wp2
      go_ret2
      exact ⟨by rw [HSH.out, ← HVV.out]; rfl, hb5⟩
end Go.Proofs.YteceghbjjnknbaaGreat

namespace Go.Proofs.YteceghbjjnknbaaGreat
open Go.RowKit Zp
theorem sl_lit' (w : World) (xs : List Int) : SL (w.alloc (.cells (xs.map vi).toArray 3)) (some ⟨w.heap.size, 0, none⟩) xs := by
  refine ⟨by simp, fun _ => ⟨_, rfl, by simp, fun j u hu => ?_⟩⟩
  have e : (⟨w.heap.size, 0, none⟩ : Addr).add j = ⟨w.heap.size, j, none⟩ := by simp [Addr.add]; intro h; exact h.symm
  rw [e, (Blk.new w 3 (xs.map vi).toArray).cell]
  simpa using hu
theorem SL.take {w : World} {A : Option Addr} {xs : List Int} (h : SL w A xs) (k : Nat) : SL w A (xs.take k) := by
  refine ⟨by simp, fun hn => ?_⟩
  have hl : (xs.take k).length = min k xs.length := List.length_take
  obtain ⟨ad, e, hb, hc⟩ := h.2 (by omega)
  refine ⟨ad, e, hb, fun j u hu => hc j u ?_⟩
  rw [List.map_take, List.getElem?_take] at hu
  split at hu
  · exact hu
  · cases hu
end Go.Proofs.YteceghbjjnknbaaGreat
