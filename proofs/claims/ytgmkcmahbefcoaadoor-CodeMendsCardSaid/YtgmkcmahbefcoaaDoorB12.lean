/- A bundle of texts: Nr, Tw, Dc, Apt, LawM5. -/
import Derived.Test.YtgmkcmahbefcoaaDoorB11
import Derived.Test.YtgmkcmahbefcoaaDoorB05
import Derived.Test.YtgmkcmahbefcoaaDoorB03
import Derived.Test.YtgmkcmahbefcoaaDoorB02
import Derived.Deep.DeepCutAuto
import Derived.Test.YtgmkcmahbefcoaaDoorB04
import Derived.Deep.RegionLaw
import Derived.Test.YtgmkcmahbefcoaaDoorB01
/- The walk of code.near. -/
set_option linter.unusedVariables false
namespace Go.Proofs.YtgmkcmahbefcoaaDoor
open Go.RowKit Zp

/-- a slice that reads as a list of elements -/
def Ls {p : Nat} (w : World) (v : Value) (L : List (Fin p)) : Prop := ∃ (A : Option Addr) (n c : Nat), v = .slice A n c ∧ (fvs L).length = n ∧ n ≤ c ∧ SL w A (fvs L)
theorem Ls.below {p : Nat} {w w' : World} {v : Value} {L : List (Fin p)} (h : Ls w v L) (hb : Below w.heap.size w w') : Ls w' v L := by
  obtain ⟨A, n, c, h1, h2, h3, h4⟩ := h
  exact ⟨A, n, c, h1, h2, h3, h4.below hb⟩
theorem Ls.own {p : Nat} {w : World} {base : Nat} {v : Value} {L : List (Fin p)} (h : Own w base v (fvs L)) : Ls w v L := by
  obtain ⟨A, n, c, h1, h2, h3, _, h4⟩ := h.shapeN
  exact ⟨A, n, c, h1, h2, h3, h4⟩
theorem pmul_nR (p : Nat) [NeZero p] (hp2 : p ≤ 2147483647) (b : Nat) (A B : Option Addr) (na ca nb cb : Nat) (xs ys : List Int) (hna : xs.length = na) (hnb : ys.length = nb) (hxs : ∀ n ∈ xs, I64 n) (hys : ∀ n ∈ ys, I64 n) (hrx : na * 8 ≤ 140737488351232) (hry : nb * 8 ≤ 140737488351232) (hcx : na ≤ ca) (hcy : nb ≤ cb)
    (w : World) (hc : w.cell? ⟨b, 0, none⟩ = some (vi p)) (hsx : SL w A xs) (hsy : SL w B ys) :
    Calls Tryd.prog 90 #[.pointer (some ⟨b, 0, none⟩), .slice A na ca, .slice B nb cb] w fun e w' => Made (fvs (trimL (mulL (els p xs) (els p ys)))) w e w' := by
  subst hna hnb
  exact pmul_any p hp2 b A B ca cb xs ys hxs hys hrx hry hcx hcy w hc hsx hsy
/-- what is near to values at points: if anything is, it is told -/
def NearIs {p : Nat} [NeZero p] (xs ys : List (Fin p)) (k : Nat) (w : World) (e : Ending) (w' : World) : Prop :=
  ∃ (a : List (Fin p)) (v : Value) (ok : Bool), e = .returned (.tuple #[v, .bool ok]) ∧ Own w' w.heap.size v (fvs a) ∧ Below w.heap.size w w' ∧ trimL a = a ∧ (ok = true → a.length ≤ k) ∧ a.length ≤ xs.length + 1 ∧
    ∀ f : List (Fin p), (trimL f).length ≤ k → 2 * diffN xs.length (fun i => ev f (co xs i)) (co ys) + k ≤ xs.length → ok = true ∧ a = trimL f
def nlen (v : Value) : Nat := match v with | .slice _ n _ => n | _ => 0
theorem divOk_len {p : Nat} [NeZero p] (hp : IsPrime p) {a b Q R : List (Fin p)} (h : DivOk a b Q R) (ha : trimL a = a) : Q.length ≤ a.length := by
  rcases Nat.eq_zero_or_pos Q.length with h0 | h0
  · omega
  · have hb : 0 < (trimL b).length := by have := h.lt; omega
    have h1 := mul_length hp (a := Q) (b := b) (by rw [h.tq]; exact h0) hb
    rw [h.tq] at h1
    have hpos : 0 < (trimL (mulL Q b)).length := by omega
    have h2 := top_ne hpos
    have h3 : (trimL (mulL Q b)).length ≤ a.length := by
      false_or_by_contra
      rename_i hlt
      have e := congrFun h.eq ((trimL (mulL Q b)).length - 1)
      rw [PS.add_ap, ← ofL_mul, ofL_ap, ofL_ap, ofL_ap, co_of_ge (l := a) (by omega), co_of_ge (l := R) (by have := h.lt; omega)] at e
      apply h2
      grind
    omega
set_option maxRecDepth 100000 in
set_option maxHeartbeats 2000000 in
theorem near_any (p S b : Nat) [NeZero p] (A B : Option Addr) (N ca cb : Nat) (xs ys : List Int) (hN : xs.length = N) (hN2 : ys.length = N) (hN16 : N ≤ 65536) (hxs : ∀ n ∈ xs, I64 n) (hys : ∀ n ∈ ys, I64 n) (hnd : (els p xs).Nodup) (k : Nat) (hk1 : 1 ≤ k) (hk : k ≤ N) (w : World) (F : Fld w S b p) (hsx : SL w A xs) (hsy : SL w B ys) :
    Calls Tryd.prog 63 #[.pointer (some ⟨b, 0, none⟩), .slice A N ca, .slice B N cb, vi k] w fun e w' => NearIs (els p xs) (els p ys) k w e w' := by
  have hp := F.prime
  have hp1 := F.two
  have hp2 := F.max
  have hxl : (els p xs).length = N := by rw [List.length_map, hN]
  have HV := Lib.hid (pvan_any p hp hp1 hp2 b A N ca xs hN hxs (by omega) w F.c0 hsx)
  have HFT := Lib.hid (fun W F hx hy => pfit_any p S b A B N ca cb xs ys hN hN2 hxs hys (by omega) hnd W F hx hy)
  have HST := Lib.hid (fun s hs => Gao.start (k := k) hp (by rw [hxl]; exact hk) (hs : Fitted (els p xs) (els p ys) (els p xs).length s))
  have HSTEP := Lib.hid (fun r s rv sv Q R (h : Gao (els p xs) (els p ys) k r s rv sv) hd hb => h.step (Q := Q) (R := R) hp hd hb)
  have HQ := Lib.hid (fun r s rv sv a R f (h : Gao (els p xs) (els p ys) k r s rv sv) hb hf hd hq => h.quot (f := f) (a := a) (R := R) hp hnd hb hf hd hq)
  have HDV := Lib.hid (fun A1 n1 c1 A2 n2 c2 (R S : List (Fin p)) h1 h2 h3 h4 h5 h6 (hz : trimL S ≠ []) W hc hs1 hs2 => pdiv_any p hp hp1 hp2 b A1 A2 n1 c1 n2 c2 (fvs R) (fvs S) h1 h2 (i64_fvsR _ hp2) (i64_fvsR _ hp2) h3 h4 h5 h6 (by rw [els_fvs]; exact hz) W hc hs1 hs2)
  have HMU := Lib.hid (fun A1 n1 c1 A2 n2 c2 (R S : List (Fin p)) h1 h2 h3 h4 h5 h6 W hc hs1 hs2 => pmul_nR p hp2 b A1 A2 n1 c1 n2 c2 (fvs R) (fvs S) h1 h2 (i64_fvsR _ hp2) (i64_fvsR _ hp2) h3 h4 h5 h6 W hc hs1 hs2)
  have HSU := Lib.hid (fun A1 n1 c1 A2 n2 c2 (R S : List (Fin p)) h1 h2 h3 h4 W hc hs1 hs2 => psub_any p hp2 b A1 A2 n1 c1 n2 c2 (fvs R) (fvs S) h1 h2 (i64_fvsR _ hp2) (i64_fvsR _ hp2) h3 h4 W hc hs1 hs2)
  have HVL := Lib.hid (fun l : List (Fin p) => (monic_van hp l).len)
  have HXL := Lib.hid hxl
  have HP := Lib.hid hp
  have e1 : fvs [(1 : Fin p)] = [1] := by simp [fv_one hp1]
  have HE1 := Lib.hid e1
  have HDL := Lib.hid (fun (a b Q R : List (Fin p)) h1 h2 => divOk_len (a := a) (b := b) (Q := Q) (R := R) hp h1 h2)
  obtain ⟨xl, hxle⟩ : ∃ xl, xl = els p xs := ⟨_, rfl⟩
  obtain ⟨yl, hyle⟩ : ∃ yl, yl = els p ys := ⟨_, rfl⟩
  rw [← hxle] at HV HFT HST HSTEP HQ HXL ⊢
  rw [← hyle] at HFT HST HSTEP HQ ⊢
  have wr1 : IntKind.i64.wrap ((N : Int) + k) = (N : Int) + k := IntWalk.i64_in _ (by constructor <;> omega)
  clear hxl hN hN2 hnd e1 hxle hyle
  go_enter Tryd.func63, Tryd.ntmps63
  go_wp2_with fail
  refine (HV.out).mono ?_
  rintro e w1 ⟨v1, rfl, hown1, hb1⟩
  have L1 := Ls.own hown1
  have F1 := F.below hb1 F.le
  have hsx1 := hsx.below hb1
  have hsy1 := hsy.below hb1
  clear hown1
  go_wp2_with fail
  refine (HFT.out w1 F1 hsx1 hsy1).mono ?_
  rintro e w2 ⟨s0, v2, hfit, rfl, hown2, hb2⟩
  have L2 := Ls.own hown2
  have hb12 := hb1.trans (hb2.mono hb1.size)
  have hba : Below w2.heap.size w2 (w2.alloc (.cells #[vi 1] 3)) := (Below.refl _ _).alloc (Nat.le_refl _) _
  have L1' := (L1.below hb2).below hba
  have L2' := L2.below hba
  have L3 : Ls (w2.alloc (.cells #[vi 1] 3)) (.slice (some ⟨w2.heap.size, 0, none⟩) 1 1) [(1 : Fin p)] := ⟨_, 1, 1, rfl, by simp, Nat.le_refl _, by rw [HE1.out]; exact sl_lit' w2 [1]⟩
  have L0 : ∀ W, Ls W (.slice none 0 0) ([] : List (Fin p)) := fun W => ⟨none, 0, 0, rfl, rfl, Nat.le_refl _, SL.nil⟩
  have HG0 := Lib.hid (HST.out s0 hfit)
  have HB := Lib.hid (hb12.trans (hba.mono hb12.size))
  obtain ⟨w3, hw3⟩ : ∃ w3, w3 = w2.alloc (.cells #[vi 1] 3) := ⟨_, rfl⟩
  obtain ⟨B3, hB3⟩ : ∃ B3, B3 = w2.heap.size := ⟨_, rfl⟩
  rw [← hw3] at L1' L2' L3 HB
  rw [← hB3] at L3
  have HW3 := Lib.hid hw3
  have HB3 := Lib.hid hB3
  clear L1 L2 hfit hown2 hba hb12 hw3 hB3
  go_upto_region 4 with (fail)
  rw [← HW3.out, ← HB3.out]
  go_loopw [10, 11, 13, 14, 15, 16, 17] (fun r s rv sv _ _ _ wr => ∃ R S RV SV : List (Fin p), Gao xl yl k R S RV SV ∧ Ls wr r R ∧ Ls wr s S ∧ Ls wr rv RV ∧ Ls wr sv SV ∧ Below w3.heap.size w3 wr) (fun _ s _ _ _ _ _ _ => nlen s)
  case atStart => exact ⟨_, s0, [], [1], HG0.out, L1', L2', L0 _, L3, Below.refl _ _⟩
  case round =>
    obtain ⟨R, S, RV, SV, hG, ⟨Ar, nr, cr, rfl, hlr, hcr, hsr⟩, ⟨As, ns, cs, rfl, hls, hcs, hss⟩, ⟨A3, n3, c3, rfl, hl3, hc3, hs3⟩, ⟨A4, n4, c4, rfl, hl4, hc4, hs4⟩, hb⟩ := hrel
    have g1 := hG.lt
    have g2 := hG.lv
    have g3 := hG.len
    have g4 := hG.big
    have gts := hG.ts
    have gtv := hG.tsv
    have HXL' := HXL.out
    have z1 : R.length = nr := by simpa using hlr
    have z2 : S.length = ns := by simpa using hls
    have z3 : RV.length = n3 := by simpa using hl3
    have z4 : SV.length = n4 := by simpa using hl4
    rw [z1, z2] at g1
    rw [z3, z4] at g2
    rw [z1, z4, HXL'] at g3
    rw [z1, HXL'] at g4
    have HZ2 := Lib.hid z2
    have HZ4 := Lib.hid z4
    have HLR := Lib.hid hlr
    have HLS := Lib.hid hls
    have HL3 := Lib.hid hl3
    have HL4 := Lib.hid hl4
    have HTS := Lib.hid gts
    have HTV := Lib.hid gtv
    have HG := Lib.hid hG
    have HBW := Lib.hid (HB.out.trans (hb.mono HB.out.size))
    have hcb := (F.below HBW.out F.le).c0
    have HB3' := Lib.hid hb
    have G3 := Lib.hid g3
    have wr2 : IntKind.i64.wrap ((ns : Int) - 1) = (ns : Int) - 1 := IntWalk.i64_in _ (by constructor <;> omega)
    have wr3 : IntKind.i64.wrap (2 * ((ns : Int) - 1)) = 2 * ((ns : Int) - 1) := IntWalk.i64_in _ (by constructor <;> omega)
    clear hlr hls hl3 hl4 z1 z2 z3 z4 gts gtv hG hb HXL' g3
    by_cases hbig : N + k + 2 ≤ 2 * ns
    · have t1 : decide ((N : Int) + k ≤ 2 * ((ns : Int) - 1)) = true := by simp; omega
      have t1' : (N : Int) + k ≤ 2 * ((ns : Int) - 1) := by omega
      have hdv := HDV.out Ar nr cr As ns cs R S HLR.out HLS.out (by have := G3.out; omega) (by have := G3.out; omega) hcr hcs (by rw [HTS.out]; intro h; have := HZ2.out; rw [h] at this; simp at this; omega) wr hcb hsr hss
      rw [els_fvs, els_fvs] at hdv
      have HDD := Lib.hid hdv
      clear hdv
      go_wp2_with fail
      refine (HDD.out).mono ?_
      rintro e w5 ⟨Q, R', hD, v5, v6, rfl, hown5, hown6, hb5⟩
      obtain ⟨A5, n5, c5, rfl, hl5, hc5, _, hs5⟩ := hown5.shapeN
      have hQl := HDL.out R S Q R' hD HG.out.tr
      have hQ2 : n5 ≤ nr := by
        have h1 : R.length = nr := by simpa using HLR.out
        have h2 : Q.length = n5 := by simpa using hl5
        omega
      have L6 := Ls.own hown6
      have hs4' := hs4.below hb5
      have hs3' := hs3.below hb5
      have L2s : Ls w5 (.slice As ns cs) S := ⟨As, ns, cs, rfl, HLS.out, hcs, hss.below hb5⟩
      have L4s : Ls w5 (.slice A4 n4 c4) SV := ⟨A4, n4, c4, rfl, HL4.out, hc4, hs4'⟩
      have hcb5 := (hb5.cell (p := ⟨b, 0, none⟩) (block_lt_of_cell hcb)).trans hcb
      have hmu := HMU.out A5 n5 c5 A4 n4 c4 Q SV hl5 HL4.out (by have := G3.out; omega) (by have := G3.out; omega) hc5 hc4 w5 hcb5 hs5 hs4'
      rw [els_fvs, els_fvs] at hmu
      have HM := Lib.hid hmu
      have HD := Lib.hid hD
      have HB5 := Lib.hid (HB3'.out.trans (hb5.mono HB3'.out.size))
      have hml : ∀ X, (fvs (trimL (mulL Q SV))).length = X → X ≤ 200000 := fun X hX => by
        have h1 : Q.length = n5 := by simpa using hl5
        have h2 := HZ4.out
        have h3 := mul_len_le Q SV
        have h4 : (trimL (mulL Q SV)).length = X := by simpa using hX
        have := G3.out
        omega
      have HML := Lib.hid hml
      clear hmu hD hQl hown5 hown6 hb5 hl5 hs5 hml
      go_wp2_with fail
      refine (HM.out).mono ?_
      rintro e w7 ⟨v7, rfl, hown7, hb7⟩
      obtain ⟨A7, n7, c7, rfl, hl7, hc7, _, hs7⟩ := hown7.shapeN
      have hn7 := HML.out n7 hl7
      have hcb7 := (hb7.cell (p := ⟨b, 0, none⟩) (block_lt_of_cell hcb5)).trans hcb5
      have hsu := HSU.out A3 n3 c3 A7 n7 c7 RV (trimL (mulL Q SV)) HL3.out hl7 (by have := G3.out; omega) (by omega) w7 hcb7 (hs3'.below hb7) hs7
      rw [els_fvs, els_fvs] at hsu
      have HS := Lib.hid hsu
      have L6' := L6.below hb7
      have L2s' := L2s.below hb7
      have L4s' := L4s.below hb7
      have HB7 := Lib.hid (HB5.out.trans (hb7.mono HB5.out.size))
      clear hsu hown7 hl7 hs7 hb7 L6 L2s L4s
      go_wp2_with fail
      refine (HS.out).mono ?_
      rintro e w8 ⟨v8, rfl, hown8, hb8⟩
      have L8 := Ls.own hown8
      have hnew := HSTEP.out R S RV SV Q R' HG.out HD.out (by rw [HXL.out, HZ2.out]; exact hbig)
      have HNEW := Lib.hid hnew
      have L6'' := L6'.below hb8
      have L2'' := L2s'.below hb8
      have L4'' := L4s'.below hb8
      have HB8 := Lib.hid (HB7.out.trans (hb8.mono HB7.out.size))
      have hdec : ∀ (v : Value), Ls w8 v R' → nlen v < ns := fun v h => by
        obtain ⟨_, n, _, rfl, h2, _⟩ := h
        have h3 := HNEW.out.lt
        rw [HZ2.out] at h3
        show n < ns
        rw [← h2]; simpa using h3
      have hdv6 := hdec _ L6''
      clear hown8 hb8 hnew hdec L6' L2s' L4s'
      go_wp2
      go_roundw
      case rel => exact ⟨S, R', SV, _, HNEW.out, L2'', L6'', L4'', L8, HB8.out⟩
      case measure => exact hdv6
    · have t1 : decide ((N : Int) + k ≤ 2 * ((ns : Int) - 1)) = false := by simp; omega
      have t1' : ¬ (N : Int) + k ≤ 2 * ((ns : Int) - 1) := by omega
      have hdv := HDV.out As ns cs A4 n4 c4 S SV HLS.out HL4.out (by have := G3.out; omega) (by have := G3.out; omega) hcs hc4 (by rw [HTV.out]; intro h; have := HZ4.out; rw [h] at this; simp at this; omega) wr hcb hss hs4
      rw [els_fvs, els_fvs] at hdv
      have HDD := Lib.hid hdv
      have HNB := Lib.hid hbig
      clear hdv hbig
      go_wp2_with fail
      refine (HDD.out).mono ?_
      rintro e w5 ⟨a, R', hD, v5, v6, rfl, hown5, hown6, hb5⟩
      obtain ⟨A5, n5, c5, rfl, hl5, hc5, _, hs5⟩ := hown5.shapeN
      obtain ⟨A6, n6, c6, rfl, hl6, hc6, _, hs6⟩ := hown6.shapeN
      have z5 : a.length = n5 := by simpa using hl5
      have z6 : R'.length = n6 := by simpa using hl6
      have hQl := HDL.out S SV a R' hD HTS.out
      rw [HZ2.out, z5] at hQl
      have hfin : ∀ ok : Bool, ok = decide (n6 = 0 ∧ n5 ≤ k) → NearIs xl yl k w (.returned (.tuple #[.slice A5 n5 c5, .bool ok])) w5 := fun ok hok => by
        refine ⟨a, _, ok, rfl, hown5.more (HBW.out.size), HBW.out.trans (hb5.mono HBW.out.size), hD.tq, fun h => ?_, by rw [z5, HXL.out]; have := G3.out; omega, fun f hf hd => ?_⟩
        · rw [hok, decide_eq_true_iff] at h
          rw [z5]; exact h.2
        · have h := HQ.out R S RV SV a R' f HG.out (by rw [HZ2.out, HXL.out]; have := HNB.out; omega) hf hd hD
          refine ⟨?_, h.1⟩
          rw [hok, decide_eq_true_iff, ← z6, ← z5, h.2, h.1]
          exact ⟨rfl, hf⟩
      have n5b : n5 ≤ 200000 := by have := G3.out; omega
      have HFIN := Lib.hid hfin
      clear hfin hD z5 z6 hl5 hl6 hQl hown5 hown6
      by_cases h6 : n6 = 0
      · have t2 : ((n6 : Int) == 0) = true := by rw [h6]; rfl
        have H6 := Lib.hid h6
        clear h6
        by_cases h5 : n5 ≤ k
        · have t3 : decide ((n5 : Int) ≤ (k : Int)) = true := by simp; omega
          go_wp2
          refine bodyPost_ret (v := .tuple #[.slice A5 n5 c5, .bool true]) (by simp [results, Tryd.results63, go_sem]) rfl (HFIN.out _ (by simp [H6.out, h5]))
        · have t3 : decide ((n5 : Int) ≤ (k : Int)) = false := by simp; omega
          go_wp2
          refine bodyPost_ret (v := .tuple #[.slice A5 n5 c5, .bool false]) (by simp [results, Tryd.results63, go_sem]) rfl (HFIN.out _ (by simp [h5]))
      · have t2 : ((n6 : Int) == 0) = false := by rw [beq_eq_false_iff_ne]; omega
        have H6 := Lib.hid h6
        clear h6
        go_wp2
        refine bodyPost_ret (v := .tuple #[.slice A5 n5 c5, .bool false]) (by simp [results, Tryd.results63, go_sem]) rfl (HFIN.out _ (by simp [H6.out]))
end Go.Proofs.YtgmkcmahbefcoaaDoor

/- Two lists of one's own that grow side by side. -/
set_option linter.unusedVariables false
namespace Go.Proofs.YtgmkcmahbefcoaaDoor
open Go.RowKit

/-- two lists of one's own in blocks that are not the same -/
structure Two (w : World) (base : Nat) (u v : Value) (xs ys : List Int) : Prop where
  a : Own w base u xs
  b : Own w base v ys
  ne : ∀ g, u.ownBlock = some g → v.ownBlock ≠ some g
section
variable {w w' W : World} {base : Nat} {u v u' v' : Value} {xs ys xs' ys' : List Int}
theorem Two.below (h : Two w base u v xs ys) (hb : Below w.heap.size w w') : Two w' base u v xs ys := ⟨h.a.below hb, h.b.below hb, h.ne⟩
theorem Two.symm (h : Two w base u v xs ys) : Two w base v u ys xs := ⟨h.b, h.a, fun g h1 h2 => h.ne g h2 h1⟩
theorem Two.first (h : Two w base u v xs ys) (hw : Below w.heap.size w W) (hg : Grew W w' base u u' xs') : Two w' base u' v xs' ys := by
  have hbW := h.b.below hw
  refine ⟨hg.own, hbW.keep fun g hgv => hg.grown.block g (hbW.lt g hgv).2 (fun e => h.ne g e.symm hgv), fun g h1 h2 => ?_⟩
  rcases hg.at_ with e | ⟨k, e, hk⟩
  · rw [e] at h1
    exact h.ne g h1 h2
  · rw [e] at h1
    injection h1 with h1
    have := (hbW.lt g h2).2
    omega
theorem Two.second (h : Two w base u v xs ys) (hw : Below w.heap.size w W) (hg : Grew W w' base v v' ys') : Two w' base u v' xs ys' := (h.symm.first hw hg).symm
theorem grew_cell {p : Addr} {z : Value} (hg : Grew W w' base u u' xs') (hc : W.cell? p = some z) (hne : u.ownBlock ≠ some p.block) : w'.cell? p = some z :=
  (World.cell?_of_block (hg.grown.block _ (block_lt_of_cell hc) (fun e => hne e.symm))).trans hc
end
theorem below_b1 (w : World) (o : Obj) : Below w.heap.size w (w.drew.alloc o) := (show Below w.heap.size w w.drew from below_drewN (Below.refl _ _) 1).alloc (Nat.le_refl _) _
theorem below_b2 (w : World) (o o' : Obj) : Below w.heap.size w ((w.drew.alloc o).alloc o') := (below_b1 w o).alloc (by rw [World.size_alloc]; exact Nat.le_succ _) _
theorem below_b0 (w : World) (o : Obj) : Below w.heap.size w (w.alloc o) := (Below.refl _ _).alloc (Nat.le_refl _) _
theorem cell_a2 (w : World) (v : Value) (t : TypeId) (o : Obj) : ((w.alloc (.cells #[v] t)).alloc o).cell? ⟨w.heap.size, 0, none⟩ = some v := by
  rw [World.cell?_alloc_lt _ _ _ (by simp)]; simp
theorem cell_b2 (w : World) (v : Value) (t : TypeId) (o : Obj) : ((w.alloc o).alloc (.cells #[v] t)).cell? ⟨w.heap.size + 1, 0, none⟩ = some v := by
  have h := Blk.new (w.alloc o) t #[v]
  rw [World.size_alloc] at h
  exact (Blk.cell h 0).trans rfl
theorem run_appG (w : World) (base : Nat) (v : Value) (xs : List Int) (n : Int) (g : Nat) (hc : w.cell? ⟨g, 0, none⟩ = some (vi n)) (hown : Own w base v xs) (hlen : xs.length < 17592186044416) (hbase : base ≤ w.heap.size) (ty : TypeId) :
    ∃ v' w', (Builtin.append_ #[23, 23] ty #[v, .slice (some ⟨g, 0, none⟩) 1 1]).run Tryd.prog w = .ok v' w' ∧ Grew w w' base v v' (xs ++ [n]) := by
  obtain ⟨i0, hi, hz0, hz1, hz2⟩ := info_parts info_int
  obtain ⟨v', w', hrun, h2, h3, _, h5⟩ := run_append_own_at (P := Tryd.prog) w base 23 ty 3 i0 _ 1 8 Tryd.underlying23 hi hz0 hz1 hz2 rfl (by omega)
    v xs.length (xs.map vi) hown ⟨g, 0, none⟩ 1 1 [vi n] rfl (by
      intro j u hj
      match j, hj with
      | 0, hj => simp at hj; subst hj; simpa [Addr.add] using hc) (by simp [Value.oneCell']) (by simp only [maxLen]; omega) (by omega) (by omega)
  refine ⟨v', w', hrun, ?_, h3, ?_⟩
  · have e : (xs ++ [n]).length = xs.length + 1 := by simp
    rw [Own, e, List.map_append]
    exact h2
  · rcases h5 with h | h
    · exact .inl h
    · exact .inr ⟨_, h, Nat.le_refl _⟩
/-- append of one int that lies somewhere, at a step of a region that draws its order -/
theorem step_appG {ops : Array Oper} {o : Oper} {a : Act} {K : Act → World → Prop} {Q : Exit → Act → World → Prop} {E : Prop} (W : World) (n : Int) (g : Nat) (hgd : o.guard = none) (s x : Operand)
    (ho : o.op = .call { callee := .builtin .append, args := #[s, x], argTypes := #[23, 23] })
    (base : Nat) (v : Value) (xs : List Int) (hs : a.eval s = v) (hx : a.eval x = .slice (some ⟨g, 0, none⟩) 1 1) (hc : W.cell? ⟨g, 0, none⟩ = some (vi n)) (hown : Own W base v xs) (hlen : xs.length < 17592186044416) (hbase : base ≤ W.heap.size)
    (h : ∀ v' w', Grew W w' base v v' (xs ++ [n]) → K (a.put o.dst v') w') :
    if Region.wanted o (yielded ops a.tmps) = true then Oper.wp Tryd.prog o a W K Q else E := by
  have hw : Region.wanted o (yielded ops a.tmps) = true := by simp [Region.wanted, hgd]
  rw [if_pos hw]
  obtain ⟨v', w', hrun, hg⟩ := run_appG W base v xs n g hc hown hlen hbase o.type
  unfold Oper.wp execOp
  simp only [ho, resolve, invoke, builtin, Sem.run_bind, Sem.run_pure, Result.andThen_ok, List.map_toArray, List.map_cons, List.map_nil, hs, hx, hrun]
  exact h v' w' hg
end Go.Proofs.YtgmkcmahbefcoaaDoor

/- The walk of code.Decode. -/
set_option linter.unusedVariables false
namespace Go.Proofs.YtgmkcmahbefcoaaDoor
open Go.RowKit Zp

theorem info_bool : (Tryd.prog.info? 4).map (fun i => (i.zero, i.size, i.bytes)) = some (some (.bool false), 1, 1) := by kernel_rfl
/-- which places are gone, after j of the list -/
def goneA (n : Nat) (gone : List Int) (j : Nat) : Array Value := ((List.range n).map fun (i : Nat) => Value.bool (decide ((i : Int) ∈ gone.take j))).toArray
theorem goneA_get {n : Nat} {gone : List Int} {j i : Nat} (h : i < n) : (goneA n gone j)[i]? = some (.bool (decide ((i : Int) ∈ gone.take j))) := by simp [goneA, h]
theorem goneA_zero (n : Nat) (gone : List Int) : madeCells #[Value.bool false] n = goneA n gone 0 := by
  apply Array.ext'
  rw [toList_madeCells_one]
  simp [goneA, List.map_const']
theorem goneA_hit {n : Nat} {gone : List Int} {j : Nat} {g : Nat} (hj : j < gone.length) (hg : gone[j] = (g : Int)) : (goneA n gone j).setIfInBounds g (.bool true) = goneA n gone (j + 1) := by
  apply Array.ext'
  unfold goneA
  rw [List.setIfInBounds_toArray]
  apply List.ext_getElem
  · simp
  · intro i h1 h2
    simp at h1
    rw [List.getElem_set]
    simp only [List.getElem_map, List.getElem_range]
    rw [List.take_succ_eq_append_getElem hj, hg]
    by_cases e : g = i
    · subst e; simp
    · rw [if_neg e]
      congr 1
      rw [decide_eq_decide]
      simp only [List.mem_append, List.mem_singleton]
      constructor
      · exact .inl
      · rintro (h | h)
        · exact h
        · omega
theorem goneA_miss {n : Nat} {gone : List Int} {j : Nat} (hj : j < gone.length) (hg : gone[j] < 0 ∨ (n : Int) ≤ gone[j]) : goneA n gone j = goneA n gone (j + 1) := by
  apply Array.ext'
  unfold goneA
  apply List.ext_getElem
  · simp
  · intro i h1 h2
    simp at h1
    simp only [List.getElem_map, List.getElem_range]
    rw [List.take_succ_eq_append_getElem hj]
    congr 1
    rw [decide_eq_decide]
    simp only [List.mem_append, List.mem_singleton]
    constructor
    · exact .inl
    · rintro (h | h)
      · exact h
      · omega
theorem make_bools (n : Nat) (gone : List Int) (hn : n ≤ 65536) (w : World) :
    (Instr.makeSlice 95 (vi n) (vi n)).run Tryd.prog w = .ok (.slice (some ⟨w.heap.size, 0, none⟩) n n) (w.alloc (.cells (goneA n gone 0) 4)) := by
  obtain ⟨i0, hi, hz0, hz1, hz2⟩ := info_parts info_bool
  have h := run_make (P := Tryd.prog) w 95 4 i0 (.bool false) Tryd.underlying95 hi hz0 .i64 .i64 n n (by omega) (by omega) (by rw [hz2]; omega) (by omega)
  rw [hz1, Int.toNat_natCast, Nat.mul_one] at h
  rw [← goneA_zero n gone]
  exact h
/-- near enough -/
def NearB {p : Nat} [NeZero p] (s r : Fin p) (n k : Nat) (gone word : List Int) (f : List (Fin p)) : Prop := (trimL f).length ≤ k ∧ 2 * (wrongs s r n gone word f).length + k ≤ (kept n gone).length
def natI (l : List Nat) : List Int := l.map fun (i : Nat) => (i : Int)
abbrev NoDec : Value := .tuple #[.slice none 0 0, .slice none 0 0, .bool false]
/-- what is told -/
def DecIs {p : Nat} [NeZero p] (s r : Fin p) (n k : Nat) (gone word : List Int) (w : World) (e : Ending) (w' : World) : Prop :=
  (∃ (a : List (Fin p)) (A B : Option Addr) (la ca lb : Nat), e = .returned (.tuple #[.slice A la ca, .slice B lb lb, .bool true]) ∧ (fvs a).length = la ∧ la ≤ ca ∧ SL w' A (fvs a) ∧ (natI (wrongs s r n gone word a)).length = lb ∧ SL w' B (natI (wrongs s r n gone word a)) ∧ Below w.heap.size w w' ∧
    trimL a = a ∧ NearB s r n k gone word a ∧ ∀ f, NearB s r n k gone word f → trimL f = a) ∨
  (e = .returned NoDec ∧ Below w.heap.size w w' ∧ ∀ f, ¬ NearB s r n k gone word f)
theorem decode_may (D n : Nat) (k : Int) (h : ¬ (1 ≤ k ∧ k ≤ n)) (A G : Option Addr) (m ca mg cg : Nat) (w : World) (hc : w.cell? ⟨D, 1, none⟩ = some (vi n)) :
    Calls Tryd.prog 26 #[.pointer (some ⟨D, 0, none⟩), vi k, .slice A m ca, .slice G mg cg] w fun e w' => e = .returned NoDec ∧ w = w' := by
  have HM := Lib.hid (may_any D n k w hc)
  have HS := Lib.hid (size_any D n w hc)
  rw [mayB_false h] at HM
  clear h
  go_enter Tryd.func26, Tryd.ntmps26
  go_wp2_with fail
  refine (HS.out).mono ?_
  rintro e w' ⟨rfl, rfl⟩
  go_wp2_with fail
  refine (HM.out).mono ?_
  rintro e w' ⟨rfl, rfl⟩
  go_wp2
  exact bodyPost_ret (v := NoDec) (by simp [results, Tryd.results26, go_sem]) rfl ⟨rfl, rfl⟩
theorem decode_len (D n : Nat) (k : Int) (h : 1 ≤ k ∧ k ≤ n) (A G : Option Addr) (m ca mg cg : Nat) (hm : m ≠ n) (w : World) (hc : w.cell? ⟨D, 1, none⟩ = some (vi n)) :
    Calls Tryd.prog 26 #[.pointer (some ⟨D, 0, none⟩), vi k, .slice A m ca, .slice G mg cg] w fun e w' => e = .returned NoDec ∧ w = w' := by
  have HM := Lib.hid (may_any D n k w hc)
  have HS := Lib.hid (size_any D n w hc)
  rw [mayB_true h] at HM
  have t1 : ((m : Int) != (n : Int)) = true := by rw [bne_iff_ne]; omega
  clear h hm
  go_enter Tryd.func26, Tryd.ntmps26
  go_wp2_with fail
  refine (HS.out).mono ?_
  rintro e w' ⟨rfl, rfl⟩
  go_wp2_with fail
  refine (HM.out).mono ?_
  rintro e w' ⟨rfl, rfl⟩
  go_wp2
  exact bodyPost_ret (v := NoDec) (by simp [results, Tryd.results26, go_sem]) rfl ⟨rfl, rfl⟩
set_option maxRecDepth 100000 in
set_option maxHeartbeats 2000000 in
theorem decode_any (p S D b : Nat) [NeZero p] (n : Nat) (s : Fin p) (k : Nat) (hk1 : 1 ≤ k) (hk2 : k ≤ n) (A G : Option Addr) (ca mg cg : Nat) (word gone : List Int) (hword : word.length = n) (hwI : ∀ x ∈ word, I64 x) (hgone : gone.length = mg) (hg63 : mg < 9223372036854775808) (hgI : ∀ x ∈ gone, I64 x) (w : World) (hD : Dom w S D b p n s) (hsw : SL w A word) (hsg : SL w G gone) :
    Calls Tryd.prog 26 #[.pointer (some ⟨D, 0, none⟩), vi k, .slice A n ca, .slice G mg cg] w fun e w' => DecIs s (rootI p n) n k gone word w e w' := by
  have hp := hD.fld.prime
  have hp1 := hD.fld.two
  have hp2 := hD.fld.max
  have hn := hD.size.le
  have hn1 := hD.size.pos
  have hd1 := hD.c1
  have hDle := hD.fld.le
  have hmy := may_any D n k w hd1
  rw [mayB_true ⟨by omega, by omega⟩] at hmy
  have HM := Lib.hid hmy
  have HS := Lib.hid (size_any D n w hd1)
  have hmk := make_bools n gone hn
  have HPT := Lib.hid (fun W hD => dpoints_any p S D b n s W hD)
  have hord : Ord (rootI p (n : Int)) n := rootI_ord hp hn1 hD.size.2
  have hnd := keptX_nodup hp hD.s0 hord hn1 gone
  have HNR := Lib.hid (fun A2 B2 N c2 d2 (hX : (keptX s (rootI p n) n gone).length = N) (hY : (keptY n gone word).length = N) hN hxI hyI (hkN : k ≤ N) W F hx hy => near_any p S b A2 B2 N c2 d2 (keptX s (rootI p n) n gone) (keptY n gone word) hX hY hN hxI hyI hnd k hk1 hkN W F hx hy)
  have HVA := Lib.hid (fun B2 m2 c2 (a : List (Fin p)) h1 h2 W hD hs => values_n p S D b n s B2 m2 c2 (fvs a) h1 (i64_fvsR _ hp2) h2 W hD hs)
  have HDF := Lib.hid (fun W (hD : Dom W S D b p n s) => dfield_any D b W hD.c0)
  have HOF := Lib.hid (fun x (hx : I64 x) W hc => of_elq p hp2 b x hx W hc)
  have HWL := Lib.hid hword
  have HGL := Lib.hid hgone
  have HWI := Lib.hid hwI
  have HGI := Lib.hid hgI
  have HSW := Lib.hid hsw
  have HSG := Lib.hid hsg
  have HDM := Lib.hid hD
  have HWD := Lib.hid (fun f : List (Fin p) => wrongs_diff s (rootI p n) n gone word f)
  obtain ⟨r, hrE⟩ : ∃ r, r = rootI p (n : Int) := ⟨_, rfl⟩
  have hrE' := Lib.hid hrE
  rw [← hrE] at HPT HNR HVA HWD ⊢
  have t1 : ((n : Int) != (n : Int)) = false := by simp
  clear hp hord hnd hmy hword hwI hgone hgI hsw hsg hD hrE
  go_enter Tryd.func26, Tryd.ntmps26
  go_wp2_with fail
  refine (HS.out).mono ?_
  rintro e w' ⟨rfl, rfl⟩
  go_wp2_with fail
  refine (HM.out).mono ?_
  rintro e w' ⟨rfl, rfl⟩
  obtain ⟨U, hU⟩ : ∃ U, U = w.heap.size := ⟨_, rfl⟩
  have hB0 := Blk.new w 4 (goneA n gone 0)
  have hbA : Below w.heap.size w (w.alloc (.cells (goneA n gone 0) 4)) := (Below.refl _ _).alloc (Nat.le_refl _) _
  obtain ⟨W0, hW0⟩ : ∃ W0, W0 = w.alloc (.cells (goneA n gone 0) 4) := ⟨_, rfl⟩
  have HW0 := Lib.hid hW0
  have HU := Lib.hid hU
  rw [← hW0] at hB0 hbA
  rw [← hU] at hB0 hbA
  have HBA := Lib.hid hbA
  have HB0 := Lib.hid hB0
  clear hW0 hU hB0 hbA
  go_upto_region 5 with (fail)
  rw [← HW0.out, ← HU.out]
  go_wp2
  go_loopw [14, 38] (fun _ t wr => ∃ j : Nat, j ≤ mg ∧ t = vi j ∧ Blk wr U 4 (goneA n gone j) ∧ Below U w wr) (fun _ t _ => mg - (intOf t).toNat)
  case atStart => exact ⟨0, Nat.zero_le _, rfl, HB0.out, HBA.out⟩
  case round =>
    obtain ⟨j, hj, rfl, hB, hb⟩ := hrel
    by_cases hjm : j < mg
    · have hjl : j < gone.length := by rw [HGL.out]; exact hjm
      have hbw : Below w.heap.size w wr := by rw [← HU.out]; exact hb
      obtain ⟨ad, rfl, had, hcg⟩ := (HSG.out.below hbw).at_ hjl
      have hgi := HGI.out _ (List.getElem_mem hjl)
      have hhit := fun g : Nat => goneA_hit (n := n) (g := g) hjl
      have hmiss := goneA_miss (n := n) hjl
      obtain ⟨x, hx⟩ : ∃ x, x = gone[j] := ⟨_, rfl⟩
      rw [← hx] at hcg hgi hmiss
      have hhit' : ∀ g : Nat, x = (g : Int) → _ := fun g hg => hhit g (by rw [← hx]; exact hg)
      have HHIT := Lib.hid hhit'
      have HMISS := Lib.hid hmiss
      have HB := Lib.hid hB
      have HBB := Lib.hid hb
      have j1 : (0 : Int) ≤ (j : Int) := by omega
      have j2 : (j : Int) < (mg : Int) := by omega
      obtain ⟨hg1, hg2⟩ := hgi
      clear hhit hhit' hmiss hx hb hbw
      by_cases h0 : 0 ≤ x
      · by_cases h1 : x < n
        · obtain ⟨g, rfl⟩ := Int.eq_ofNat_of_zero_le h0
          have hgn : g < n := by omega
          have t2 : decide ((0 : Int) ≤ (g : Int)) = true := by simp
          have t3 : decide ((g : Int) < (n : Int)) = true := by simp; omega
          have hcell := (Blk.cell hB g).trans (goneA_get hgn)
          have hfz := Blk.frozen hB g
          have hset := Blk.set_ hB g (.bool true)
          rw [HHIT.out g rfl] at hset
          have HSET := Lib.hid hset
          have hUle : U ≤ U := Nat.le_refl _
          have HB2 := Lib.hid (HBB.out.setCell (p := ⟨U, g, none⟩) hUle (.bool true))
          clear hset hB
          go_wp2
          go_roundw
          case rel => exact ⟨j + 1, by omega, by go_num, HSET.out, HB2.out⟩
          case measure => simp [intOf]; omega
        · have t2 : decide ((0 : Int) ≤ x) = true := by simp; omega
          have t3 : decide (x < (n : Int)) = false := by simp; omega
          have hm := HMISS.out (.inr (by omega))
          have HB1 := Lib.hid (show Blk wr U 4 (goneA n gone (j + 1)) by rw [← hm]; exact HB.out)
          clear hm hB
          go_wp2
          go_roundw
          case rel => exact ⟨j + 1, by omega, by go_num, HB1.out, HBB.out⟩
          case measure => simp [intOf]; omega
      · have t2 : decide ((0 : Int) ≤ x) = false := by simp; omega
        have hm := HMISS.out (.inl (by omega))
        have HB1 := Lib.hid (show Blk wr U 4 (goneA n gone (j + 1)) by rw [← hm]; exact HB.out)
        clear hm hB
        go_wp2
        go_roundw
        case rel => exact ⟨j + 1, by omega, by go_num, HB1.out, HBB.out⟩
        case measure => simp [intOf]; omega
    · have ej : j = mg := by omega
      have t2 : ¬ (j : Int) < (mg : Int) := by omega
      have htk : gone.take j = gone := List.take_of_length_le (by rw [HGL.out]; omega)
      have hgn : ∀ i, i < n → wr.cell? ⟨U, i, none⟩ = some (.bool (decide ((i : Int) ∈ gone))) := fun i hi => by
        have h := (Blk.cell hB i).trans (goneA_get hi)
        rw [htk] at h; exact h
      have hUl := Blk.lt hB
      have hbw : Below w.heap.size w wr := by rw [← HU.out]; exact hb
      have HGN := Lib.hid hgn
      have HBW := Lib.hid hbw
      have hDr := HDM.out.below hbw hDle
      clear htk hgn hbw hB hb ej HB0 HBA
      go_wp2_with fail
      refine (HPT.out wr hDr).mono ?_
      rintro e w1 ⟨vP, rfl, hownP, hb1⟩
      obtain ⟨AP, nP, cP, rfl, hlP, hcP, _, hsP⟩ := hownP.shapeN
      have hnP : nP = n := by rw [← hlP]; simp [powL_length]
      subst hnP
      have HSP := Lib.hid hsP
      have HB1 := Lib.hid (HBW.out.trans (hb1.mono HBW.out.size))
      have HGN1 := Lib.hid (fun i (hi : i < nP) => (hb1.cell (p := ⟨U, i, none⟩) hUl).trans (HGN.out i hi))
      have hUl1 := Nat.lt_of_lt_of_le hUl hb1.size
      clear hownP hlP hsP hb1 hDr HGN
      go_wp2
      go_loopw [15, 16, 17, 18, 56] (fun u v _ _ t wr => ∃ i : Nat, i ≤ nP ∧ t = vi i ∧ Two wr w1.heap.size u v (keptX s r i gone) (keptY i gone word) ∧ Below w1.heap.size w1 wr) (fun _ _ _ _ t _ => nP - (intOf t).toNat)
      case atStart => exact ⟨0, Nat.zero_le _, rfl, ⟨World.ownsRow_nil _ _ _ _, World.ownsRow_nil _ _ _ _, fun g h => by cases h⟩, Below.refl _ _⟩
      case round =>
        obtain ⟨i, hi, rfl, hTwo, hb⟩ := hrel
        by_cases hin : i < nP
        · have hUr := Nat.lt_of_lt_of_le hUl1 hb.size
          have hcu := (hb.cell (p := ⟨U, i, none⟩) hUl1).trans (HGN1.out i hin)
          obtain ⟨ap, rfl, hap, hcp⟩ := HSP.out.at_ (k := i) (by simp [powL_length]; exact hin)
          have hcp' : w1.cell? (ap.add i) = some (vi (fv (s * pw r i))) := by rw [hcp]; simp [powL, tab]
          have hcpr := (hb.cell (p := ap.add i) (by rw [block_of_add]; exact hap)).trans hcp'
          have i1 : (0 : Int) ≤ (i : Int) := by omega
          have i2 : (i : Int) < (nP : Int) := by omega
          by_cases hgo : (i : Int) ∈ gone
          · have hd : decide ((i : Int) ∈ gone) = true := decide_eq_true hgo
            rw [hd] at hcu
            have e1 : keptX s r (i + 1) gone = keptX s r i gone := by unfold keptX; rw [kept_out hgo]
            have e2 : keptY (i + 1) gone word = keptY i gone word := by unfold keptY; rw [kept_out hgo]
            have HT := Lib.hid (show Two wr w1.heap.size u15 u16 (keptX s r (i + 1) gone) (keptY (i + 1) gone word) by rw [e1, e2]; exact hTwo)
            have HBR := Lib.hid hb
            clear hd e1 e2 hTwo hb hgo hcp hcp'
            go_wp2
            go_roundw
            case rel => exact ⟨i + 1, by omega, by go_num, HT.out, HBR.out⟩
            case measure => simp [intOf]; omega
          · have hd : decide ((i : Int) ∈ gone) = false := decide_eq_false hgo
            rw [hd] at hcu
            have hil : i < word.length := by rw [HWL.out]; exact hin
            obtain ⟨aw, rfl, haw, hcw⟩ := (HSW.out.below (HB1.out.trans (hb.mono HB1.out.size))).at_ hil
            have e1 : keptX s r (i + 1) gone = keptX s r i gone ++ [fv (s * pw r i)] := by unfold keptX; rw [kept_in hgo, List.map_append]; rfl
            have e2 : keptY (i + 1) gone word = keptY i gone word ++ [word[i]] := by
              unfold keptY
              rw [kept_in hgo, List.map_append]
              simp [List.getD_eq_getElem?_getD, List.getElem?_eq_getElem hil]
            obtain ⟨x, hx⟩ : ∃ x, x = fv (s * pw r i) := ⟨_, rfl⟩
            obtain ⟨y, hy⟩ : ∃ y, y = word[i] := ⟨_, rfl⟩
            rw [← hx] at hcpr e1
            rw [← hy] at hcw e2
            have hlx : (keptX s r i gone).length < 17592186044416 := by rw [keptX_len]; have := kept_len i gone; omega
            have hly : (keptY i gone word).length < 17592186044416 := by rw [keptY_len]; have := kept_len i gone; omega
            have HLX := Lib.hid hlx
            have HLY := Lib.hid hly
            have HE1 := Lib.hid e1
            have HE2 := Lib.hid e2
            have HT := Lib.hid hTwo
            have HBR := Lib.hid hb
            have HUB := Lib.hid (fun g (hg : u15.ownBlock = some g) => (hTwo.a.lt g hg).2)
            have HUW := Lib.hid (show u15.ownBlock ≠ some (aw.add i).block from fun e => by
              have h1 := (hTwo.a.lt _ e).1
              have h2 := HSW.out.at_ hil
              obtain ⟨a2, e2, h3, _⟩ := h2
              injection e2 with e2
              rw [block_of_add, e2] at h1
              have := HB1.out.size
              omega)
            have hcwl := block_lt_of_cell hcw
            have hcw1 := (World.cell?_alloc_lt wr (.cells #[vi x] 3) (aw.add i) hcwl).trans hcw
            have hcw2 : (wr.drew.alloc (.cells #[vi x] 3)).cell? (aw.add i) = some (vi y) := hcw1
            clear hd e1 e2 hTwo hb hgo hcp hcp' hlx hly hx hy
            go_wp2
            go_region_law (first
              | (refine step_appG _ x _ (by rfl) _ _ (by rfl) w1.heap.size u15 _ (by rfl) (by rfl) (by first | (simp; done) | exact cell_a2 _ _ _ _ | exact cell_b2 _ _ _ _) (by first | exact (HT.out.below (below_b1 _ _)).a | exact (HT.out.below (below_b2 _ _ _)).a) HLX.out (by first | exact Nat.le_trans HBR.out.size (below_b1 _ _).size | exact Nat.le_trans HBR.out.size (below_b2 _ _ _).size) ?_; intro u6 w6 hg6; have hT6 : Two w6 w1.heap.size u6 u16 _ _ := (by first | exact HT.out.first (below_b1 _ _) hg6 | exact HT.out.first (below_b2 _ _ _) hg6); have hb6 : Below w1.heap.size w1 w6 := (by first | exact hg6.below (HBR.out.trans ((below_b1 _ _).mono HBR.out.size)) (HT.out.below (below_b1 _ _)).a (Nat.le_refl _) (Nat.le_trans HBR.out.size (below_b1 _ _).size) | exact hg6.below (HBR.out.trans ((below_b2 _ _ _).mono HBR.out.size)) (HT.out.below (below_b2 _ _ _)).a (Nat.le_refl _) (Nat.le_trans HBR.out.size (below_b2 _ _ _).size)); have hcw6 : w6.cell? (aw.add i) = some (vi y) := (by first | exact grew_cell hg6 (((below_b1 _ _).cell hcwl).trans hcw) HUW.out | exact grew_cell hg6 (((below_b2 _ _ _).cell hcwl).trans hcw) HUW.out))
              | (refine step_appG _ y _ (by rfl) _ _ (by rfl) w1.heap.size u16 _ (by rfl) (by rfl) (by first | (simp; done) | exact grew_cell hg6 (cell_b2 _ _ _ _) (fun e => by have := HUB.out _ e; first | omega | (simp at this; done) | (simp at this; omega)) | exact grew_cell hg6 (cell_a2 _ _ _ _) (fun e => by have := HUB.out _ e; first | omega | (simp at this; done) | (simp at this; omega))) (by first | exact hT6.b | exact (hT6.below (below_b0 _ _)).b) HLY.out (by first | exact hb6.size | exact Nat.le_trans hb6.size (below_b0 _ _).size) ?_; intro v7 w7 hg7; have hT7 : Two w7 w1.heap.size u6 v7 (keptX s r (i + 1) gone) (keptY (i + 1) gone word) := (by rw [HE1.out, HE2.out]; first | exact hT6.second (Below.refl _ _) hg7 | exact hT6.second (below_b0 _ _) hg7); have hb7 : Below w1.heap.size w1 w7 := (by first | exact hg7.below hb6 hT6.b (Nat.le_refl _) hb6.size | exact hg7.below (hb6.trans ((below_b0 _ _).mono hb6.size)) (hT6.below (below_b0 _ _)).b (Nat.le_refl _) (Nat.le_trans hb6.size (below_b0 _ _).size)); clear hg7 hT6 hg6 hb6))
            all_goals
              go_wp2
              go_roundw
              case rel => exact ⟨i + 1, by omega, by go_num, hT7, hb7⟩
              case measure => simp [intOf]; omega
        · have ei : i = nP := by omega
          subst ei
          have t3 : ¬ (i : Int) < (i : Int) := by omega
          have hDr := HDM.out.below (HB1.out.trans (hb.mono HB1.out.size)) hDle
          obtain ⟨A5, N, c5, rfl, hlN, hcN, _, hsX⟩ := hTwo.a.shapeN
          obtain ⟨A6, N6, c6, rfl, hlN6, hcN6, _, hsY⟩ := hTwo.b.shapeN
          have hN6 : N6 = N := by rw [← hlN, ← hlN6, keptX_len, keptY_len]
          subst hN6
          have hkl : (kept i gone).length = N6 := by rw [← hlN, keptX_len]
          have hkn := kept_len i gone
          have hN16 : N6 ≤ 65536 := by omega
          have HKL := Lib.hid hkl
          have HLN := Lib.hid hlN
          have HLN6 := Lib.hid hlN6
          have HSX := Lib.hid hsX
          have HSY := Lib.hid hsY
          have HBR := Lib.hid (HB1.out.trans (hb.mono HB1.out.size))
          have hgw : ∀ j, j < i → wr.cell? ⟨U, j, none⟩ = some (.bool (decide ((j : Int) ∈ gone))) := fun j hj => (hb.cell (p := ⟨U, j, none⟩) hUl1).trans (HGN1.out j hj)
          have HGW := Lib.hid hgw
          have hUlr := Nat.lt_of_lt_of_le hUl1 hb.size
          have hxI : ∀ x ∈ keptX s r i gone, I64 x := fun x hx => by
            obtain ⟨j, _, rfl⟩ := List.mem_map.1 hx
            exact i64_fv _ hp2
          have hyI : ∀ x ∈ keptY i gone word, I64 x := fun x hx => by
            obtain ⟨j, hj, rfl⟩ := List.mem_map.1 hx
            have hjl : j < word.length := by rw [HWL.out]; exact kept_lt hj
            rw [List.getD_eq_getElem?_getD, List.getElem?_eq_getElem hjl, Option.getD_some]
            exact HWI.out _ (List.getElem_mem hjl)
          have HXI := Lib.hid hxI
          have HYI := Lib.hid hyI
          clear hTwo hb hlN hlN6 hsX hsY hkl hgw hxI hyI hkn HGN1 HSP
          by_cases hNk : N6 < k
          · have t4 : decide ((N6 : Int) < (k : Int)) = true := by simp; omega
            have HNO := Lib.hid (show ∀ f, ¬ NearB s r i k gone word f from fun f hf => by
              have h1 := hf.2
              rw [HKL.out] at h1
              omega)
            go_wp2
            exact bodyPost_ret (v := NoDec) (by simp [results, Tryd.results26, go_sem]) rfl (.inr ⟨rfl, HBR.out, HNO.out⟩)
          · have t4 : decide ((N6 : Int) < (k : Int)) = false := by simp; omega
            have hnr := HNR.out A5 A6 N6 c5 c6 HLN.out HLN6.out hN16 HXI.out HYI.out (by omega) wr hDr.fld HSX.out HSY.out
            have HNN := Lib.hid hnr
            have HDR := Lib.hid hDr
            have HNK := Lib.hid hNk
            have hdf := HDF.out wr hDr
            have HDFF := Lib.hid hdf
            clear hnr hDr hNk hdf
            go_wp2_with fail
            refine (HDFF.out).mono ?_
            rintro e w' ⟨rfl, rfl⟩
            go_wp2_with fail
            refine (HNN.out).mono ?_
            rintro e w2 ⟨a, va, ok, rfl, hownA, hb2, hat, hak, hal, hcomp⟩
            have hcomp' : ∀ f, NearB s r i k gone word f → ok = true ∧ a = trimL f := fun f hf => by
              refine hcomp f hf.1 ?_
              rw [HWD.out]
              have hl : (els p (keptX s r i gone)).length = (kept i gone).length := by simp [els, keptX]
              rw [hl]; exact hf.2
            have hal' : a.length ≤ N6 + 1 := by
              have hl : (els p (keptX s r i gone)).length = (kept i gone).length := by simp [els, keptX]
              rw [hl, HKL.out] at hal; exact hal
            have HCO := Lib.hid hcomp'
            have HAT := Lib.hid hat
            have HAK := Lib.hid hak
            obtain ⟨A7, n7, c7, rfl, hl7, hc7, _, hs7⟩ := hownA.shapeN
            have h7 : n7 ≤ 65537 := by rw [← hl7]; simp; omega
            have HB2 := Lib.hid (HBR.out.trans (hb2.mono HBR.out.size))
            have hgw2 : ∀ j, j < i → w2.cell? ⟨U, j, none⟩ = some (.bool (decide ((j : Int) ∈ gone))) := fun j hj => (hb2.cell (p := ⟨U, j, none⟩) hUlr).trans (HGW.out j hj)
            have HGW2 := Lib.hid hgw2
            have hUl2 := Nat.lt_of_lt_of_le hUlr hb2.size
            have HL7 := Lib.hid hl7
            have HS7 := Lib.hid hs7
            have hD2 := HDM.out.below HB2.out hDle
            clear hownA hcomp hcomp' hat hak hal hal' hl7 hs7 hgw2 hb2 HGW HNN HDFF
            cases ok with
            | false =>
              have HNO := Lib.hid (show ∀ f, ¬ NearB s r i k gone word f from fun f hf => by
                have h1 := (HCO.out f hf).1
                cases h1)
              go_wp2
              exact bodyPost_ret (v := NoDec) (by simp [results, Tryd.results26, go_sem]) rfl (.inr ⟨rfl, HB2.out, HNO.out⟩)
            | true =>
              have hva := HVA.out A7 n7 c7 a HL7.out (by omega) w2 hD2 HS7.out
              rw [els_fvs] at hva
              have HVV := Lib.hid hva
              have HD2 := Lib.hid hD2
              clear hva hD2
              go_wp2_with fail
              refine (HVV.out).mono ?_
              rintro e w3 ⟨A8, c8, hl8, rfl, hc8, _, hs8, hb3⟩
              have HS8 := Lib.hid hs8
              have HB3 := Lib.hid (HB2.out.trans (hb3.mono HB2.out.size))
              have hgw3 : ∀ j, j < i → w3.cell? ⟨U, j, none⟩ = some (.bool (decide ((j : Int) ∈ gone))) := fun j hj => (hb3.cell (p := ⟨U, j, none⟩) hUl2).trans (HGW2.out j hj)
              have HGW3 := Lib.hid hgw3
              have hUl3 := Nat.lt_of_lt_of_le hUl2 hb3.size
              have HS7' := Lib.hid (HS7.out.below hb3)
              clear hl8 hs8 hgw3 hb3 HGW2
              go_wp2
              go_loopw [9, 20, 21, 98] (fun u _ _ t wr => ∃ j : Nat, j ≤ i ∧ t = vi j ∧ Own wr w3.heap.size u (natI (wrongs s r j gone word a)) ∧ Below w3.heap.size w3 wr) (fun _ _ _ t _ => i - (intOf t).toNat)
              case atStart => exact ⟨0, Nat.zero_le _, rfl, World.ownsRow_nil _ _ _ _, Below.refl _ _⟩
              case round =>
                obtain ⟨j, hj, rfl, hown, hb⟩ := hrel
                by_cases hji : j < i
                · have hcu := (hb.cell (p := ⟨U, j, none⟩) hUl3).trans (HGW3.out j hji)
                  have j1 : (0 : Int) ≤ (j : Int) := by omega
                  have j2 : (j : Int) < (i : Int) := by omega
                  obtain ⟨av, rfl, hav, hcv⟩ := HS8.out.at_ (k := j) (by simp [valL_length]; exact hji)
                  have hcv' : w3.cell? (av.add j) = some (vi (fv (ev a (s * pw r j)))) := by rw [hcv]; simp [valL, tab]
                  have hcvr := (hb.cell (p := av.add j) (by rw [block_of_add]; exact hav)).trans hcv'
                  by_cases hgo : (j : Int) ∈ gone
                  · have hd : decide ((j : Int) ∈ gone) = true := decide_eq_true hgo
                    rw [hd] at hcu
                    have e1 := wrongs_out (s := s) (r := r) (word := word) (a := a) hgo
                    have HOW := Lib.hid (show Own wr w3.heap.size u9 (natI (wrongs s r (j + 1) gone word a)) by rw [e1]; exact hown)
                    have HBX := Lib.hid hb
                    clear hd e1 hown hb hgo hcv hcv'
                    go_wp2
                    go_roundw
                    case rel => exact ⟨j + 1, by omega, by go_num, HOW.out, HBX.out⟩
                    case measure => simp [intOf]; omega
                  · have hd : decide ((j : Int) ∈ gone) = false := decide_eq_false hgo
                    rw [hd] at hcu
                    have hjl : j < word.length := by rw [HWL.out]; exact hji
                    have hbwr := HB3.out.trans (hb.mono HB3.out.size)
                    obtain ⟨aw, rfl, haw, hcw⟩ := (HSW.out.below hbwr).at_ hjl
                    have hwI := HWI.out _ (List.getElem_mem hjl)
                    have hof := HOF.out word[j] hwI wr (HDM.out.below hbwr hDle).fld.c0
                    have hob : offB s r word a j = (fv (ev a (s * pw r j)) != fv (el p word[j])) := by
                      unfold offB
                      rw [List.getD_eq_getElem?_getD, List.getElem?_eq_getElem hjl, Option.getD_some]
                      by_cases h : ev a (s * pw r j) = el p word[j]
                      · rw [h]; simp
                      · rw [decide_eq_true h]
                        symm
                        rw [bne_iff_ne]
                        exact fun e => h (fv_inj e)
                    have e1 := wrongs_in (s := s) (r := r) (word := word) (a := a) hgo
                    obtain ⟨X, hX⟩ : ∃ X, X = fv (ev a (s * pw r j)) := ⟨_, rfl⟩
                    obtain ⟨y, hy⟩ : ∃ y, y = word[j] := ⟨_, rfl⟩
                    rw [← hX] at hcvr hob
                    rw [← hy] at hcw hof hob
                    obtain ⟨Y, hY⟩ : ∃ Y, Y = fv (el p y) := ⟨_, rfl⟩
                    rw [← hY] at hof hob
                    have HOFF := Lib.hid hof
                    have HBX := Lib.hid hb
                    have hll : (natI (wrongs s r j gone word a)).length < 17592186044416 := by simp [natI]; have := wrongs_len s r j gone word a; omega
                    have HLL := Lib.hid hll
                    clear hd hb hgo hcv hcv' hX hy hY hof hbwr hll haw hwI
                    cases hq : offB s r word a j with
                    | false =>
                      rw [hq] at hob e1
                      have t5 : (X != Y) = false := hob.symm
                      have HOW := Lib.hid (show Own wr w3.heap.size u9 (natI (wrongs s r (j + 1) gone word a)) by rw [e1]; simpa using hown)
                      clear hob e1 hown hq
                      go_wp2_with fail
                      refine (HOFF.out).mono ?_
                      rintro e w' ⟨rfl, rfl⟩
                      go_wp2
                      go_roundw
                      case rel => exact ⟨j + 1, by omega, by go_num, HOW.out, HBX.out⟩
                      case measure => simp [intOf]; omega
                    | true =>
                      rw [hq] at hob e1
                      have t5 : (X != Y) = true := hob.symm
                      have e2 : natI (wrongs s r (j + 1) gone word a) = natI (wrongs s r j gone word a) ++ [(j : Int)] := by rw [e1]; simp [natI]
                      have HE2 := Lib.hid e2
                      clear hob e1 e2 hq
                      go_wp2_with fail
                      refine (HOFF.out).mono ?_
                      rintro e w' ⟨rfl, rfl⟩
                      go_wp2_with (at_builtin; refine wpList_app1 _ _ rfl _ _ rfl w3.heap.size _ _ rfl rfl hown HLL.out HBX.out.size ?_; intro v' w6 hg)
                      go_roundw
                      case rel => exact ⟨j + 1, by omega, by go_num, by rw [HE2.out]; exact hg.own, hg.below HBX.out hown (Nat.le_refl _) HBX.out.size⟩
                      case measure => simp [intOf]; omega
                · have ej : j = i := by omega
                  subst ej
                  have t6 : ¬ (j : Int) < (j : Int) := by omega
                  obtain ⟨A9, n9, c9, rfl, hl9, hc9, hm9, hs9⟩ := hown.shapeN
                  have hw9 : (wrongs s r j gone word a).length = n9 := by rw [← hl9]; simp [natI]
                  have hwl := wrongs_len s r j gone word a
                  have hn9 : n9 ≤ 65536 := by omega
                  have hbX := HB3.out.trans (hb.mono HB3.out.size)
                  have HBX := Lib.hid hbX
                  have HW9 := Lib.hid hw9
                  have HL9 := Lib.hid hl9
                  have HS9 := Lib.hid hs9
                  have HS7F := Lib.hid (HS7'.out.below hb)
                  have hcl := fun W => clip_any A9 n9 c9 hc9 (by unfold maxLen at hm9; omega) W
                  have HCL := Lib.hid hcl
                  have wr1 : IntKind.i64.wrap ((N6 : Int) - k) = (N6 : Int) - k := IntWalk.i64_in _ (by constructor <;> omega)
                  have wr2 : IntKind.i64.wrap (2 * (n9 : Int)) = 2 * (n9 : Int) := IntWalk.i64_in _ (by constructor <;> omega)
                  clear hown hl9 hs9 hw9 hwl hb hbX hcl
                  by_cases hfar : (N6 : Int) - k < 2 * n9
                  · have t7 : decide ((N6 : Int) - k < 2 * (n9 : Int)) = true := by simp; omega
                    have HNO := Lib.hid (show ∀ f, ¬ NearB s r j k gone word f from fun f hf => by
                      have h1 := (HCO.out f hf).2
                      have h2 := hf.2
                      rw [← wrongs_trim, ← h1, HW9.out, HKL.out] at h2
                      omega)
                    go_wp2
                    exact bodyPost_ret (v := NoDec) (by simp [results, Tryd.results26, go_sem]) rfl (.inr ⟨rfl, HBX.out, HNO.out⟩)
                  · have t7 : decide ((N6 : Int) - k < 2 * (n9 : Int)) = false := by simp; omega
                    have hyes : DecIs s r j k gone word w (.returned (.tuple #[.slice A7 n7 c7, .slice A9 n9 n9, .bool true])) wr :=
                      .inl ⟨a, A7, A9, n7, c7, n9, rfl, HL7.out, hc7, HS7F.out, HL9.out, HS9.out, HBX.out, HAT.out, ⟨by rw [HAT.out]; exact HAK.out (by trivial), by rw [HW9.out, HKL.out]; omega⟩, fun f hf => (HCO.out f hf).2.symm⟩
                    have HYES := Lib.hid hyes
                    clear hyes hfar
                    go_wp2_with fail
                    refine (HCL.out _).mono ?_
                    rintro e w' ⟨rfl, rfl⟩
                    go_wp2
                    exact bodyPost_ret (v := .tuple #[.slice A7 n7 c7, .slice A9 n9 n9, .bool true]) (by simp [results, Tryd.results26, go_sem]) rfl HYES.out
end Go.Proofs.YtgmkcmahbefcoaaDoor

/- The walk of law2.apart. -/
set_option linter.unusedVariables false
namespace Go.Proofs.YtgmkcmahbefcoaaDoor
open Go.RowKit Zp

theorem gone_step {gone : List Int} {i j : Nat} {g : Int} (hj : j < gone.length) (hg : gone[j] = g) : decide ((i : Int) ∉ gone.take (j + 1)) = (decide ((i : Int) ∉ gone.take j) && (g != (i : Int))) := by
  rw [List.take_succ_eq_append_getElem hj, hg]
  by_cases h : (i : Int) ∈ gone.take j
  · simp [h]
  · by_cases e : g = (i : Int)
    · simp [e]
    · have e' : ¬ (i : Int) = g := fun h => e h.symm
      simp [h, e, e']
/-- where a polynomial is not what a word is, and whether it is near enough -/
def ApartIs {q : Nat} [NeZero q] (s r : Fin q) (n k : Nat) (gone word : List Int) (l : List (Fin q)) (w : World) (e : Ending) (w' : World) : Prop :=
  ∃ v, e = .returned (.tuple #[v, .bool (decide (2 * (wrongs s r n gone word l).length + k ≤ (kept n gone).length))]) ∧ Own w' w.heap.size v (natI (wrongs s r n gone word l)) ∧ Below w.heap.size w w'
set_option maxRecDepth 100000 in
set_option maxHeartbeats 2000000 in
theorem apart_any (q : Nat) [NeZero q] (hq2 : 2 ≤ q) (hqm : q ≤ 2147483647) (n : Nat) (hn1 : 1 ≤ n) (hn : n ≤ 65536) (s r : Fin q) (k : Nat) (hk : k ≤ n) (A G B : Option Addr) (ca mg cg m cb : Nat) (word gone xs : List Int) (hword : word.length = n) (hwI : ∀ x ∈ word, I64 x) (hgone : gone.length = mg) (hg63 : mg < 9223372036854775808) (hgI : ∀ x ∈ gone, I64 x) (hml : xs.length = m) (hxI : ∀ x ∈ xs, I64 x) (hm8 : m * 8 ≤ 281474976710656) (w : World) (hsw : SL w A word) (hsg : SL w G gone) (hsx : SL w B xs) :
    Calls Tryd.prog 28 #[RDom q n (fv s) (fv r), vi k, .slice A n ca, .slice G mg cg, .slice B m cb] w fun e w' => ApartIs s r n k gone word (els q xs) w e w' := by
  have hbA : Below w.heap.size w (w.alloc (.cells #[vi q, vi n, vi (fv s), vi (fv r)] 47)) := (Below.refl _ _).alloc (Nat.le_refl _) _
  have hrd := RD.new w 47 q n (fv s) (fv r)
  have HV := Lib.hid (fun W hW => rvalues_any q hq2 hqm n hn1 hn s r B m cb xs hml hxI hm8 W hW)
  have HOF := Lib.hid (fun x (hx : I64 x) W => rof_any q hqm x hx W)
  have HWL := Lib.hid hword
  have HGL := Lib.hid hgone
  have HWI := Lib.hid hwI
  have HGI := Lib.hid hgI
  obtain ⟨l, hl⟩ : ∃ l, l = els q xs := ⟨_, rfl⟩
  rw [← hl] at HV ⊢
  obtain ⟨B0, hB⟩ : ∃ B0, B0 = w.heap.size := ⟨_, rfl⟩
  obtain ⟨W, hW⟩ : ∃ W, W = w.alloc (.cells #[vi q, vi n, vi (fv s), vi (fv r)] 47) := ⟨_, rfl⟩
  have hBl : w.heap.size < (w.alloc (.cells #[vi q, vi n, vi (fv s), vi (fv r)] 47)).heap.size := by simp
  have hsw1 := hsw.below hbA
  have hsg1 := hsg.below hbA
  have hsx1 := hsx.below hbA
  rw [← hW] at hbA hrd hBl hsw1 hsg1 hsx1
  rw [← hB] at hrd hBl
  have HW := Lib.hid hW
  have HB := Lib.hid hB
  have HBA := Lib.hid hbA
  have HSW := Lib.hid hsw1
  have HSG := Lib.hid hsg1
  obtain ⟨e0, e1, e2, e3⟩ := hrd
  clear hword hwI hgone hgI hml hxI hl hB hW hbA hsw hsg hsx hsw1 hsg1
  go_enter Tryd.func28, Tryd.ntmps28
  go_upto_region 1 with (fail)
  rw [← HW.out, ← HB.out]
  go_wp2_with fail
  refine (HV.out W hsx1).mono ?_
  rintro e w1 ⟨v1, rfl, hown1, hb1⟩
  obtain ⟨AV, nV, cV, rfl, hlV, hcV, _, hsV⟩ := hown1.shapeN
  have hnV : nV = n := by rw [← hlV]; simp [valL_length]
  subst hnV
  have f0 := (hb1.cell (p := ⟨B0, 0, none⟩) hBl).trans e0
  have f1 := (hb1.cell (p := ⟨B0, 1, none⟩) hBl).trans e1
  have hBl1 := Nat.lt_of_lt_of_le hBl hb1.size
  have HSV := Lib.hid hsV
  have HSW1 := Lib.hid (HSW.out.below hb1)
  have HSG1 := Lib.hid (HSG.out.below hb1)
  have HB1 := Lib.hid (HBA.out.trans (hb1.mono HBA.out.size))
  clear hown1 hlV hsV hb1 e0 e1 e2 e3 hsx1
  go_wp2
  go_loopw [13, 14, 15, 16, 17, 18] (fun v c t _ _ _ wr => ∃ i L : Nat, i ≤ nV ∧ t = vi i ∧ c = vi L ∧ L + (kept i gone).length = i ∧ Own wr w1.heap.size v (natI (wrongs s r i gone word l)) ∧ Below w1.heap.size w1 wr) (fun _ _ t _ _ _ _ => nV - (intOf t).toNat)
  case atStart => exact ⟨0, 0, Nat.zero_le _, rfl, rfl, rfl, World.ownsRow_nil _ _ _ _, Below.refl _ _⟩
  case round =>
    obtain ⟨i, L, hi, rfl, rfl, hL, hown, hb⟩ := hrel
    have HLL := Lib.hid hL
    have HOW := Lib.hid hown
    have HBR := Lib.hid hb
    have g0 := (hb.cell (p := ⟨B0, 0, none⟩) hBl1).trans f0
    have g1 := (hb.cell (p := ⟨B0, 1, none⟩) hBl1).trans f1
    have hkn := kept_len i gone
    have hL16 : L ≤ 65536 := by omega
    clear hL hown hkn
    by_cases hin : i < nV
    · have hil : i < word.length := by rw [HWL.out]; exact hin
      have i1 : (0 : Int) ≤ (i : Int) := by omega
      have i2 : (i : Int) < (nV : Int) := by omega
      obtain ⟨aw, rfl, haw, hcw⟩ := (HSW1.out.below hb).at_ hil
      obtain ⟨av, rfl, hav, hcv⟩ := (HSV.out.below hb).at_ (k := i) (by simp [valL_length]; exact hin)
      have hcv' : wr.cell? (av.add i) = some (vi (fv (ev l (s * pw r i)))) := by rw [hcv]; simp [valL, tab]
      have hwI := HWI.out _ (List.getElem_mem hil)
      have hof := HOF.out word[i] hwI
      have hob : offB s r word l i = (fv (el q word[i]) != fv (ev l (s * pw r i))) := by
        unfold offB
        rw [List.getD_eq_getElem?_getD, List.getElem?_eq_getElem hil, Option.getD_some]
        by_cases h : ev l (s * pw r i) = el q word[i]
        · rw [h]; simp
        · rw [decide_eq_true h]
          symm
          rw [bne_iff_ne]
          exact fun e => h (fv_inj e).symm
      obtain ⟨y, hy⟩ : ∃ y, y = word[i] := ⟨_, rfl⟩
      rw [← hy] at hcw hof hob
      obtain ⟨X, hX⟩ : ∃ X, X = fv (ev l (s * pw r i)) := ⟨_, rfl⟩
      rw [← hX] at hcv' hob
      obtain ⟨Y, hY⟩ : ∃ Y, Y = fv (el q y) := ⟨_, rfl⟩
      rw [← hY] at hof hob
      have HOFF := Lib.hid hof
      have HOB := Lib.hid hob
      have HSG2 := Lib.hid (HSG1.out.below hb)
      have hww : ∃ w3, w3 = wr := ⟨_, rfl⟩
      obtain ⟨w3, hw3⟩ := hww
      subst hw3
      clear hcv hy hX hY hof hob haw hav hwI
      go_wp2
      go_loopw [16, 17] (fun c t wr' => ∃ j : Nat, j ≤ mg ∧ t = vi j ∧ c = .bool (decide ((i : Int) ∉ gone.take j)) ∧ w3 = wr') (fun _ t _ => mg - (intOf t).toNat)
      case atStart => exact ⟨0, Nat.zero_le _, rfl, by simp, rfl⟩
      case round =>
        obtain ⟨j, hj, rfl, rfl, rfl⟩ := hrel
        by_cases hjm : j < mg
        · have hjl : j < gone.length := by rw [HGL.out]; exact hjm
          obtain ⟨ag, rfl, hag, hcg⟩ := HSG2.out.at_ hjl
          have hstep := gone_step (i := i) hjl rfl
          obtain ⟨g, hg⟩ : ∃ g, g = gone[j] := ⟨_, rfl⟩
          rw [← hg] at hcg hstep
          have HST := Lib.hid hstep
          have j1 : (0 : Int) ≤ (j : Int) := by omega
          have j2 : (j : Int) < (mg : Int) := by omega
          clear hstep hg
          cases hq : decide ((i : Int) ∉ gone.take j) with
          | false =>
            have HQ := Lib.hid hq
            clear hq
            go_wp2
            go_roundw
            case rel => exact ⟨j + 1, by omega, by go_num, by rw [HST.out, HQ.out]; rfl, by trivial⟩
            case measure => simp [intOf]; omega
          | true =>
            have HQ := Lib.hid hq
            clear hq
            obtain ⟨T, hT⟩ : ∃ T, T = (g != (i : Int)) := ⟨_, rfl⟩
            have HT := Lib.hid hT
            cases T with
            | false =>
              have t2 : (g != (i : Int)) = false := hT.symm
              clear hT
              go_wp2
              go_roundw
              case rel => exact ⟨j + 1, by omega, by go_num, by rw [HST.out, HQ.out, ← HT.out]; rfl, by trivial⟩
              case measure => simp [intOf]; omega
            | true =>
              have t2 : (g != (i : Int)) = true := hT.symm
              clear hT
              go_wp2
              go_roundw
              case rel => exact ⟨j + 1, by omega, by go_num, by rw [HST.out, HQ.out, ← HT.out]; rfl, by trivial⟩
              case measure => simp [intOf]; omega
        · have ej : j = mg := by omega
          have t3 : ¬ (j : Int) < (mg : Int) := by omega
          have htk : gone.take j = gone := List.take_of_length_le (by rw [HGL.out]; omega)
          rw [htk]
          clear htk ej
          by_cases hgo : (i : Int) ∈ gone
          · have hd : decide ((i : Int) ∉ gone) = false := by simp [hgo]
            rw [hd]
            have e1 := kept_out hgo
            have e2 := wrongs_out (s := s) (r := r) (word := word) (a := l) hgo
            have hL2 : L + 1 + (kept (i + 1) gone).length = i + 1 := by rw [e1]; have := HLL.out; omega
            have HL2 := Lib.hid hL2
            have HOW2 := Lib.hid (show Own w3 w1.heap.size u13 (natI (wrongs s r (i + 1) gone word l)) by rw [e2]; exact HOW.out)
            clear hd e1 e2 hL2 hgo
            go_wp2
            go_quiet ((go_at_call 16; exact quiet_eq (HOFF.out _)))
            go_wp2
            go_roundw
            case rel => exact ⟨i + 1, L + 1, by omega, by go_num, by go_num, HL2.out, HOW2.out, below_drewN HBR.out _⟩
            case measure => simp [intOf]; omega
          · have hd : decide ((i : Int) ∉ gone) = true := by simp [hgo]
            rw [hd]
            have e1 := kept_in hgo
            have e2 := wrongs_in (s := s) (r := r) (word := word) (a := l) hgo
            have hL2 : L + (kept (i + 1) gone).length = i + 1 := by rw [e1, List.length_append]; have := HLL.out; simp; omega
            have HL2 := Lib.hid hL2
            have hll : (natI (wrongs s r i gone word l)).length < 17592186044416 := by simp [natI]; have := wrongs_len s r i gone word l; omega
            have HLLL := Lib.hid hll
            have hob := HOB.out
            clear hd e1 hL2 hgo hll
            cases hq : offB s r word l i with
            | false =>
              rw [hq] at hob e2
              have t5 : (Y != X) = false := hob.symm
              have HOW2 := Lib.hid (show Own w3 w1.heap.size u13 (natI (wrongs s r (i + 1) gone word l)) by rw [e2]; simpa using HOW.out)
              clear hob e2 hq
              go_wp2
              go_quiet ((go_at_call 16; exact quiet_eq (HOFF.out _)))
              go_wp2
              go_roundw
              case rel => exact ⟨i + 1, L, by omega, by go_num, rfl, HL2.out, HOW2.out, below_drewN HBR.out _⟩
              case measure => simp [intOf]; omega
            | true =>
              rw [hq] at hob e2
              have t5 : (Y != X) = true := hob.symm
              have e3 : natI (wrongs s r (i + 1) gone word l) = natI (wrongs s r i gone word l) ++ [(i : Int)] := by rw [e2]; simp [natI]
              have HE3 := Lib.hid e3
              clear hob e2 e3 hq
              go_wp2
              go_quiet ((go_at_call 16; exact quiet_eq (HOFF.out _)))
              have hbq := below_drewN HBR.out nq
              have hoq : Own (w3.drewN nq) w1.heap.size u13 (natI (wrongs s r i gone word l)) := HOW.out
              go_wp2_with (at_builtin; refine wpList_app1 _ _ rfl _ _ rfl w1.heap.size _ _ rfl rfl hoq HLLL.out hbq.size ?_; intro v' w6 hg)
              go_roundw
              case rel => exact ⟨i + 1, L, by omega, by go_num, rfl, HL2.out, by rw [HE3.out]; exact hg.own, hg.below hbq hoq (Nat.le_refl _) hbq.size⟩
              case measure => simp [intOf]; omega
    · have ei : i = nV := by omega
      subst ei
      have t3 : ¬ (i : Int) < (i : Int) := by omega
      have hwl := wrongs_len s r i gone word l
      obtain ⟨A9, n9, c9, rfl, hl9, hc9, hm9, hs9⟩ := HOW.out.shapeN
      have hw9 : (wrongs s r i gone word l).length = n9 := by rw [← hl9]; simp [natI]
      have hn9 : n9 ≤ 65536 := by omega
      have hres : decide (2 * (wrongs s r i gone word l).length + k ≤ (kept i gone).length) = decide (2 * (n9 : Int) + L ≤ (i : Int) - k) := by
        rw [hw9, decide_eq_decide]
        have := HLL.out
        omega
      have HRES := Lib.hid hres
      have HFB := Lib.hid (HB1.out.trans (hb.mono HB1.out.size))
      have HOF1 := Lib.hid (HOW.out.more HB1.out.size)
      have wr1 : IntKind.i64.wrap ((i : Int) - k) = (i : Int) - k := IntWalk.i64_in _ (by constructor <;> omega)
      have wr2 : IntKind.i64.wrap (2 * (n9 : Int)) = 2 * (n9 : Int) := IntWalk.i64_in _ (by constructor <;> omega)
      have wr3 : IntKind.i64.wrap (2 * (n9 : Int) + L) = 2 * (n9 : Int) + L := IntWalk.i64_in _ (by constructor <;> omega)
      clear hwl hl9 hs9 hw9 hres hb
      go_wp2
      go_quiet (fail)
      go_wp2
      refine bodyPost_ret (v := .tuple #[.slice A9 n9 c9, .bool (decide (2 * (n9 : Int) + L ≤ (i : Int) - k))]) (by simp [results, Tryd.results28, go_sem]) rfl ?_
      exact ⟨_, by rw [HRES.out], HOF1.out, below_drewN HFB.out _⟩
end Go.Proofs.YtgmkcmahbefcoaaDoor

/- The walk of the law CodeDecodes. -/
set_option linter.unusedVariables false
namespace Go.Proofs.YtgmkcmahbefcoaaDoor
open Go.RowKit Zp

theorem ints_anyN (A B : Option Addr) (n c m d : Nat) (xs ys : List Int) (hnx : xs.length = n) (hmy : ys.length = m) (hn : n ≤ 9223372036854775807) (hm : m ≤ 9223372036854775807) (w : World) (hsx : SL w A xs) (hsy : SL w B ys) :
    Calls Tryd.prog 14 #[.slice A n c, .slice B m d] w fun e w' => e = .returned (.bool (eqB xs ys)) ∧ ∃ k, w' = w.drewN k := by
  subst hnx hmy
  exact ints_any A B c d xs ys hn hm w hsx hsy
set_option maxRecDepth 100000 in
set_option maxHeartbeats 1500000 in
theorem cdecodes_walk (w : World) (p : Int) (hp : I64 p) (size : Int) (hs : I64 size) (t : Int) (ht : I64 t) (k : Int) (hk : I64 k) (A : Option Addr) (m ca : Nat) (word : List Int) (ha : ArgS w A m ca word) (G : Option Addr) (mg cg : Nat) (gone : List Int) (hg : ArgS w G mg cg gone) (O : Option Addr) (no co_ : Nat) (other : List Int) (ho : ArgS w O no co_ other) (hT : Typed w) :
    Calls Tryd.prog 7 #[vi p, vi size, vi t, vi k, .slice A m ca, .slice G mg cg, .slice O no co_] w fun e w' => SaysW (.bool true) w e w' := by
  have hra := ha.r8
  rw [ha.len] at hra
  have hrg := hg.r8
  rw [hg.len] at hrg
  have hro := ho.r8
  rw [ho.len] at hro
  by_cases hD : HasDom2 p size t
  · obtain ⟨⟨h3, hm, hpr⟩, n, rfl, hsz, h0⟩ := hD
    obtain ⟨q, rfl⟩ := Int.eq_ofNat_of_zero_le (a := p) (by omega)
    rw [Int.toNat_natCast] at hpr hsz
    haveI := hpr.ne
    have hqm : q ≤ 2147483647 := by omega
    have hq2 : 2 ≤ q := by omega
    have HM := Lib.hid (made2_yes q n (by omega) hqm hpr t ht hsz h0 w hT)
    have hn := hsz.le
    have hn1 := hsz.pos
    obtain ⟨s, hsE⟩ : ∃ s, s = el q t := ⟨_, rfl⟩
    obtain ⟨r, hrE⟩ : ∃ r, r = rootI q (n : Int) := ⟨_, rfl⟩
    have hMT : MadeTwo q n t = fun w e w' => ∃ b D : Nat, e = .returned (.tuple #[.pointer (some ⟨D, 0, none⟩), RDom q n (fv s) (fv r), .bool true]) ∧ Dom w' w'.heap.size D b q n s ∧ Below w.heap.size w w' := by rw [hsE, hrE]; rfl
    rw [hMT] at HM
    by_cases h1 : 1 ≤ k ∧ k ≤ n
    · by_cases hmn : m = n
      · subst hmn
        obtain ⟨h1a, h1b⟩ := h1
        obtain ⟨k, rfl⟩ := Int.eq_ofNat_of_zero_le (a := k) (by omega)
        have hk1 : 1 ≤ k := by omega
        have hk2 : k ≤ m := by omega
        have hde := fun S D b W (hD : Dom W S D b q m s) hW hG => decode_any q S D b m s k hk1 hk2 A G ca mg cg word gone ha.len ha.i64 hg.len (by omega) hg.i64 W hD hW hG
        rw [← hrE] at hde
        have HDE := Lib.hid hde
        have HDG := Lib.hid (fun W hsW => rdegree_n q hqm O no co_ other ho.len ho.i64 (by omega) W hsW)
        have HTO := Lib.hid (fun W hsW => rtrim_n q hqm O no co_ other ho.len ho.i64 (by omega) ho.cap W hsW)
        have HTA := Lib.hid (fun A3 la ca3 (a : List (Fin q)) (hl : (fvs a).length = la) (hc : la ≤ ca3) (hla : la ≤ 65536) W hW => rtrim_n q hqm A3 la ca3 (fvs a) hl (i64_fvsR _ hqm) (by omega) hc W hW)
        have HAO := Lib.hid (fun W h1 h2 h3 => apart_any q hq2 hqm m (by omega) hn s r k hk2 A G O ca mg cg no co_ word gone other ha.len ha.i64 hg.len (by omega) hg.i64 ho.len ho.i64 (by omega) W h1 h2 h3)
        have HAA := Lib.hid (fun A3 la ca3 (a : List (Fin q)) (hl : (fvs a).length = la) (hla : la ≤ 65536) W h1 h2 h3 => apart_any q hq2 hqm m (by omega) hn s r k hk2 A G A3 ca mg cg la ca3 word gone (fvs a) ha.len ha.i64 hg.len (by omega) hg.i64 hl (i64_fvsR _ hqm) (by omega) W h1 h2 h3)
        have HDL := Lib.hid (show degL (els q other) < (k : Int) ↔ (trimL (els q other)).length ≤ k by unfold degL; omega)
        have htl : (fvs (trimL (els q other))).length ≤ 9223372036854775807 := by
          have h1 := trimL_length_le (els q other)
          have h2 : (els q other).length = no := by rw [List.length_map, ho.len]
          simp only [fvs, List.length_map]
          omega
        have HTL := Lib.hid htl
        have HSW := Lib.hid ha.sl
        have HSG := Lib.hid hg.sl
        have HSO := Lib.hid ho.sl
        obtain ⟨l, hl⟩ : ∃ l, l = els q other := ⟨_, rfl⟩
        rw [← hl] at HDG HTO HAO HDL HTL
        generalize degL l = g at HDG HDL
        have t1 : decide ((k : Int) < 1) = false := by simp; omega
        have t1' : decide (k < 1) = false := by simp; omega
        have t2 : decide ((m : Int) < (k : Int)) = false := by simp; omega
        have t2' : decide (m < k) = false := by simp; omega
        have t3 : ((m : Int) != (m : Int)) = false := by simp
        clear h0 hpr hsz hsE hrE hMT hde ha hg ho hl htl h1a h1b
        obtain ⟨n, hne⟩ : ∃ n, n = m := ⟨_, rfl⟩
        subst hne
        go_enter Tryd.func7, Tryd.ntmps7
        go_wp2_with fail
        refine (HM.out).mono ?_
        rintro e w1 ⟨b, D, rfl, hD, hb1⟩
        have hba : Below w1.heap.size w1 (w1.alloc (.cells #[vi q, vi n, vi (fv s), vi (fv r)] 47)) := (Below.refl _ _).alloc (Nat.le_refl _) _
        have hrd := RD.new w1 47 q n (fv s) (fv r)
        have hltB : w1.heap.size < (w1.alloc (.cells #[vi q, vi n, vi (fv s), vi (fv r)] 47)).heap.size := by simp
        have hD2 := hD.below hba hD.fld.le
        have bw2 := hb1.trans (hba.mono hb1.size)
        obtain ⟨B0, hB⟩ : ∃ B0, B0 = w1.heap.size := ⟨_, rfl⟩
        go_wp2_with fail
        rw [← hB] at hrd hltB hD2 ⊢
        clear hD hba hB hb1
        generalize w1.alloc (.cells #[vi q, vi n, vi (fv s), vi (fv r)] 47) = w2 at hrd hltB hD2 bw2 ⊢
        refine (HDE.out _ D b _ hD2 (HSW.out.below bw2) (HSG.out.below bw2)).mono ?_
        rintro e w3 hdec
        rcases hdec with ⟨a, A3, B3, la, ca3, lb, rfl, hl3, hc3, hsa3, hl3b, hsb3, hb3, htr, hnb, huni⟩ | ⟨rfl, hb3, hno⟩
        · have hla : la ≤ 65536 := by
            have h1 := hnb.1
            rw [htr] at h1
            have h2 : a.length = la := by simpa using hl3
            omega
          have hak : a.length ≤ k := by have := hnb.1; rw [htr] at this; exact this
          have hlak : la ≤ k := by have h2 : a.length = la := by simpa using hl3
                                   omega
          have t9 : decide ((la : Int) ≤ (k : Int)) = true := by simp; omega
          have HNB := Lib.hid (show decide (2 * (wrongs s r n gone word a).length + k ≤ (kept n gone).length) = true from decide_eq_true hnb.2)
          have HUN := Lib.hid huni
          have HTR := Lib.hid htr
          have bw3 := bw2.trans (hb3.mono bw2.size)
          have hrd3 := hrd.below hb3 hltB
          have hlt3 := Nat.lt_of_lt_of_le hltB hb3.size
          have HSW3 := Lib.hid (HSW.out.below bw3)
          have HSG3 := Lib.hid (HSG.out.below bw3)
          have HSO3 := Lib.hid (HSO.out.below bw3)
          clear hb3 htr hnb huni hD2 hrd hltB bw2 hak
          have hdg := HDG.out w3 HSO3.out
          have HDGG := Lib.hid hdg
          clear hdg
          go_wp2_with fail
          refine (HDGG.out).mono ?_
          rintro e w' ⟨rfl, rfl⟩
          have br3 := Below.refl w3.heap.size w3
          by_cases hgk : g < k
          · have HGK := Lib.hid (HDL.out.1 hgk)
            have t4 : decide (g < (k : Int)) = true := by simp; omega
            have hao := HAO.out w3 HSW3.out HSG3.out HSO3.out
            have HAOO := Lib.hid hao
            have f0 := hrd3.c0
            have f1 := hrd3.c1
            have f2 := hrd3.c2
            have f3 := hrd3.c3
            clear hao hgk
            go_wp2_with fail
            refine (HAOO.out).mono ?_
            rintro e w4 ⟨v4, rfl, hown4, hb4⟩
            obtain ⟨A4, n4, c4, rfl, _, _, _, _⟩ := hown4.shapeN
            have hto := HTO.out w4 (HSO3.out.below hb4)
            have HTOO := Lib.hid hto
            have HB4 := Lib.hid hb4
            clear hto hown4 hb4 f0 f1 f2 f3
            go_wp2_with fail
            refine (HTOO.out).mono ?_
            rintro e w5 ⟨v5, rfl, hown5, hb5⟩
            obtain ⟨A5, n5, c5, rfl, hl5, hc5, _, hs5⟩ := hown5.shapeN
            have HB5 := Lib.hid (HB4.out.trans (hb5.mono HB4.out.size))
            have his := ints_anyN A3 A5 la ca3 n5 c5 _ _ hl3 hl5 (by omega) (by rw [← hl5]; exact HTL.out) w5 (hsa3.below HB5.out) hs5
            have hbool : decide (2 * (wrongs s r n gone word l).length + k ≤ (kept n gone).length) = true → eqB (fvs a) (fvs (trimL l)) = true := fun h => by
              have h1 := HUN.out l ⟨HGK.out, of_decide_eq_true h⟩
              rw [h1]; exact eqB_true rfl
            have HBO := Lib.hid hbool
            generalize decide (2 * (wrongs s r n gone word l).length + k ≤ (kept n gone).length) = B1 at HBO ⊢
            generalize eqB (fvs a) (fvs (trimL l)) = B2 at HBO his
            have HIS := Lib.hid his
            clear hown5 hl5 hs5 hb5 his hbool
            go_wp2_with fail
            refine (HIS.out).mono ?_
            rintro e w5b ⟨rfl, m5, rfl⟩
            have b5 := below_drewN HB5.out m5
            cases B1 with
            | false =>
              go_wp2_with fail
              refine (HTA.out A3 la ca3 a hl3 hc3 hla _ (hsa3.below b5)).mono ?_
              rintro e w6 ⟨v6, rfl, hown6, hb6⟩
              obtain ⟨A6, n6, c6, rfl, hl6, hc6, _, hs6⟩ := hown6.shapeN
              rw [els_fvs, HTR.out] at hl6 hs6
              have b6 := (b5).trans (hb6.mono (b5).size)
              have HB6 := Lib.hid b6
              have HIS := Lib.hid (ints_sameH A3 A6 la ca3 n6 c6 _ _ hl3 hl6 rfl (by omega) w6 (hsa3.below b6) hs6)
              clear hown6 hl6 hs6 hb6 b6
              go_wp2_with fail
              refine (HIS.out).mono ?_
              rintro e w7 ⟨rfl, m7, rfl⟩
              have b7 := below_drewN HB6.out m7
              have HB7 := Lib.hid b7
              have hrd7 := hrd3.below b7 hlt3
              obtain ⟨e0, e1, e2, e3⟩ := hrd7
              have hw7 := HSW3.out.below b7
              have hg7 := HSG3.out.below b7
              have ha7 := hsa3.below b7
              have hap := HAA.out A3 la ca3 a hl3 hla (w6.drewN m7) hw7 hg7 ha7
              rw [els_fvs] at hap
              have HAP := Lib.hid hap
              clear b7 hw7 hg7 ha7 hap
              go_wp2_with fail
              refine (HAP.out).mono ?_
              rintro e w8 ⟨v8, rfl, hown8, hb8⟩
              obtain ⟨A8, n8, c8, rfl, hl8, hc8, _, hs8⟩ := hown8.shapeN
              have b8 := HB7.out.trans (hb8.mono HB7.out.size)
              rw [HNB.out]
              have HB8 := Lib.hid b8
              have HIS2 := Lib.hid (ints_sameH A8 B3 n8 c8 lb lb _ _ hl8 hl3b rfl (by rw [← hl8]; simp [natI]; have := wrongs_len s r n gone word a; omega) w8 hs8 (hsb3.below b8))
              clear hown8 hl8 hs8 hb8 b8 e0 e1 e2 e3
              go_wp2_with fail
              refine (HIS2.out).mono ?_
              rintro e w9 ⟨rfl, m9, rfl⟩
              go_wp2
              go_ret
              exact ⟨rfl, bw3.trans ((below_drewN HB8.out m9).mono bw3.size)⟩
            | true =>
              cases B2 with
              | true =>
                go_wp2_with fail
                refine (HTA.out A3 la ca3 a hl3 hc3 hla _ (hsa3.below b5)).mono ?_
                rintro e w6 ⟨v6, rfl, hown6, hb6⟩
                obtain ⟨A6, n6, c6, rfl, hl6, hc6, _, hs6⟩ := hown6.shapeN
                rw [els_fvs, HTR.out] at hl6 hs6
                have b6 := (b5).trans (hb6.mono (b5).size)
                have HB6 := Lib.hid b6
                have HIS := Lib.hid (ints_sameH A3 A6 la ca3 n6 c6 _ _ hl3 hl6 rfl (by omega) w6 (hsa3.below b6) hs6)
                clear hown6 hl6 hs6 hb6 b6
                go_wp2_with fail
                refine (HIS.out).mono ?_
                rintro e w7 ⟨rfl, m7, rfl⟩
                have b7 := below_drewN HB6.out m7
                have HB7 := Lib.hid b7
                have hrd7 := hrd3.below b7 hlt3
                obtain ⟨e0, e1, e2, e3⟩ := hrd7
                have hw7 := HSW3.out.below b7
                have hg7 := HSG3.out.below b7
                have ha7 := hsa3.below b7
                have hap := HAA.out A3 la ca3 a hl3 hla (w6.drewN m7) hw7 hg7 ha7
                rw [els_fvs] at hap
                have HAP := Lib.hid hap
                clear b7 hw7 hg7 ha7 hap
                go_wp2_with fail
                refine (HAP.out).mono ?_
                rintro e w8 ⟨v8, rfl, hown8, hb8⟩
                obtain ⟨A8, n8, c8, rfl, hl8, hc8, _, hs8⟩ := hown8.shapeN
                have b8 := HB7.out.trans (hb8.mono HB7.out.size)
                rw [HNB.out]
                have HB8 := Lib.hid b8
                have HIS2 := Lib.hid (ints_sameH A8 B3 n8 c8 lb lb _ _ hl8 hl3b rfl (by rw [← hl8]; simp [natI]; have := wrongs_len s r n gone word a; omega) w8 hs8 (hsb3.below b8))
                clear hown8 hl8 hs8 hb8 b8 e0 e1 e2 e3
                go_wp2_with fail
                refine (HIS2.out).mono ?_
                rintro e w9 ⟨rfl, m9, rfl⟩
                go_wp2
                go_ret
                exact ⟨rfl, bw3.trans ((below_drewN HB8.out m9).mono bw3.size)⟩
              | false =>
                have := HBO.out (by trivial)
                cases this
          · have t4 : decide (g < (k : Int)) = false := by simp; omega
            clear hgk
            go_wp2_with fail
            refine (HTA.out A3 la ca3 a hl3 hc3 hla _ (hsa3.below br3)).mono ?_
            rintro e w6 ⟨v6, rfl, hown6, hb6⟩
            obtain ⟨A6, n6, c6, rfl, hl6, hc6, _, hs6⟩ := hown6.shapeN
            rw [els_fvs, HTR.out] at hl6 hs6
            have b6 := (br3).trans (hb6.mono (br3).size)
            have HB6 := Lib.hid b6
            have HIS := Lib.hid (ints_sameH A3 A6 la ca3 n6 c6 _ _ hl3 hl6 rfl (by omega) w6 (hsa3.below b6) hs6)
            clear hown6 hl6 hs6 hb6 b6
            go_wp2_with fail
            refine (HIS.out).mono ?_
            rintro e w7 ⟨rfl, m7, rfl⟩
            have b7 := below_drewN HB6.out m7
            have HB7 := Lib.hid b7
            have hrd7 := hrd3.below b7 hlt3
            obtain ⟨e0, e1, e2, e3⟩ := hrd7
            have hw7 := HSW3.out.below b7
            have hg7 := HSG3.out.below b7
            have ha7 := hsa3.below b7
            have hap := HAA.out A3 la ca3 a hl3 hla (w6.drewN m7) hw7 hg7 ha7
            rw [els_fvs] at hap
            have HAP := Lib.hid hap
            clear b7 hw7 hg7 ha7 hap
            go_wp2_with fail
            refine (HAP.out).mono ?_
            rintro e w8 ⟨v8, rfl, hown8, hb8⟩
            obtain ⟨A8, n8, c8, rfl, hl8, hc8, _, hs8⟩ := hown8.shapeN
            have b8 := HB7.out.trans (hb8.mono HB7.out.size)
            rw [HNB.out]
            have HB8 := Lib.hid b8
            have HIS2 := Lib.hid (ints_sameH A8 B3 n8 c8 lb lb _ _ hl8 hl3b rfl (by rw [← hl8]; simp [natI]; have := wrongs_len s r n gone word a; omega) w8 hs8 (hsb3.below b8))
            clear hown8 hl8 hs8 hb8 b8 e0 e1 e2 e3
            go_wp2_with fail
            refine (HIS2.out).mono ?_
            rintro e w9 ⟨rfl, m9, rfl⟩
            go_wp2
            go_ret
            exact ⟨rfl, bw3.trans ((below_drewN HB8.out m9).mono bw3.size)⟩
        · have HNO := Lib.hid hno
          have bw3 := bw2.trans (hb3.mono bw2.size)
          have hrd3 := hrd.below hb3 hltB
          have hlt3 := Nat.lt_of_lt_of_le hltB hb3.size
          have HSW3 := Lib.hid (HSW.out.below bw3)
          have HSG3 := Lib.hid (HSG.out.below bw3)
          have HSO3 := Lib.hid (HSO.out.below bw3)
          clear hb3 hno hD2 hrd hltB bw2
          have hdg := HDG.out w3 HSO3.out
          have HDGG := Lib.hid hdg
          clear hdg
          go_wp2_with fail
          refine (HDGG.out).mono ?_
          rintro e w' ⟨rfl, rfl⟩
          by_cases hgk : g < k
          · have HGK := Lib.hid (HDL.out.1 hgk)
            have t4 : decide (g < (k : Int)) = true := by simp; omega
            have hao := HAO.out w3 HSW3.out HSG3.out HSO3.out
            have HAOO := Lib.hid hao
            have f0 := hrd3.c0
            have f1 := hrd3.c1
            have f2 := hrd3.c2
            have f3 := hrd3.c3
            clear hao hgk
            go_wp2_with fail
            refine (HAOO.out).mono ?_
            rintro e w4 ⟨v4, rfl, hown4, hb4⟩
            obtain ⟨A4, n4, c4, rfl, _, _, _, _⟩ := hown4.shapeN
            have hto := HTO.out w4 (HSO3.out.below hb4)
            have HTOO := Lib.hid hto
            have HB4 := Lib.hid hb4
            have hB1 : decide (2 * (wrongs s r n gone word l).length + k ≤ (kept n gone).length) = false := decide_eq_false fun h => HNO.out l ⟨HGK.out, h⟩
            rw [hB1]
            clear hto hown4 hb4 f0 f1 f2 f3 hB1
            go_wp2_with fail
            refine (HTOO.out).mono ?_
            rintro e w5 ⟨v5, rfl, hown5, hb5⟩
            obtain ⟨A5, n5, c5, rfl, hl5, hc5, _, hs5⟩ := hown5.shapeN
            have HB5 := Lib.hid (HB4.out.trans (hb5.mono HB4.out.size))
            have his := ints_anyN none A5 0 0 n5 c5 [] _ rfl hl5 (by omega) (by rw [← hl5]; exact HTL.out) w5 SL.nil hs5
            generalize eqB [] (fvs (trimL l)) = B2 at his
            have HIS := Lib.hid his
            clear hown5 hl5 hs5 hb5 his
            go_wp2_with fail
            refine (HIS.out).mono ?_
            rintro e w5b ⟨rfl, m5, rfl⟩
            have b5 := below_drewN HB5.out m5
            go_wp2
            go_ret
            exact ⟨rfl, bw3.trans (b5.mono bw3.size)⟩
          · have t4 : decide (g < (k : Int)) = false := by simp; omega
            clear hgk
            go_wp2
            go_ret
            exact ⟨rfl, bw3⟩
      · have HDB := Lib.hid (fun D W hc => decode_len D n k h1 A G m ca mg cg hmn W hc)
        obtain ⟨h1a, h1b⟩ := h1
        have t1 : decide (k < 1) = false := by simp; omega
        have t2 : decide ((n : Int) < k) = false := by simp; omega
        have t3 : ((m : Int) != (n : Int)) = true := by rw [bne_iff_ne]; omega
        clear h0 hpr hsz hsE hrE hMT hmn
        go_enter Tryd.func7, Tryd.ntmps7
        go_wp2_with fail
        refine (HM.out).mono ?_
        rintro e w1 ⟨b, D, rfl, hD, hb1⟩
        have hba : Below w1.heap.size w1 (w1.alloc (.cells #[vi q, vi n, vi (fv s), vi (fv r)] 47)) := (Below.refl _ _).alloc (Nat.le_refl _) _
        have hrd := RD.new w1 47 q n (fv s) (fv r)
        have hltB : w1.heap.size < (w1.alloc (.cells #[vi q, vi n, vi (fv s), vi (fv r)] 47)).heap.size := by simp
        have hD2 := hD.below hba hD.fld.le
        have bw2 := hb1.trans (hba.mono hb1.size)
        obtain ⟨B0, hB⟩ : ∃ B0, B0 = w1.heap.size := ⟨_, rfl⟩
        go_wp2_with fail
        rw [← hB] at hrd hltB hD2 ⊢
        clear hD hba hB hb1
        generalize w1.alloc (.cells #[vi q, vi n, vi (fv s), vi (fv r)] 47) = w2 at hrd hltB hD2 bw2 ⊢
        refine (HDB.out D w2 hD2.c1).mono ?_
        rintro e w' ⟨rfl, rfl⟩
        go_wp2
        go_ret
        exact ⟨rfl, bw2⟩
    · have HDB := Lib.hid (fun D W hc => decode_may D n k h1 A G m ca mg cg W hc)
      by_cases h2 : k < 1
      · have t1 : decide (k < 1) = true := by simp; omega
        clear h0 hpr hsz hsE hrE hMT h1
        go_enter Tryd.func7, Tryd.ntmps7
        go_wp2_with fail
        refine (HM.out).mono ?_
        rintro e w1 ⟨b, D, rfl, hD, hb1⟩
        have hba : Below w1.heap.size w1 (w1.alloc (.cells #[vi q, vi n, vi (fv s), vi (fv r)] 47)) := (Below.refl _ _).alloc (Nat.le_refl _) _
        have hrd := RD.new w1 47 q n (fv s) (fv r)
        have hltB : w1.heap.size < (w1.alloc (.cells #[vi q, vi n, vi (fv s), vi (fv r)] 47)).heap.size := by simp
        have hD2 := hD.below hba hD.fld.le
        have bw2 := hb1.trans (hba.mono hb1.size)
        obtain ⟨B0, hB⟩ : ∃ B0, B0 = w1.heap.size := ⟨_, rfl⟩
        go_wp2_with fail
        rw [← hB] at hrd hltB hD2 ⊢
        clear hD hba hB hb1
        generalize w1.alloc (.cells #[vi q, vi n, vi (fv s), vi (fv r)] 47) = w2 at hrd hltB hD2 bw2 ⊢
        refine (HDB.out D w2 hD2.c1).mono ?_
        rintro e w' ⟨rfl, rfl⟩
        go_wp2
        go_ret
        exact ⟨rfl, bw2⟩
      · have t1 : decide (k < 1) = false := by simp; omega
        have t2 : decide ((n : Int) < k) = true := by simp; omega
        clear h0 hpr hsz hsE hrE hMT h1
        go_enter Tryd.func7, Tryd.ntmps7
        go_wp2_with fail
        refine (HM.out).mono ?_
        rintro e w1 ⟨b, D, rfl, hD, hb1⟩
        have hba : Below w1.heap.size w1 (w1.alloc (.cells #[vi q, vi n, vi (fv s), vi (fv r)] 47)) := (Below.refl _ _).alloc (Nat.le_refl _) _
        have hrd := RD.new w1 47 q n (fv s) (fv r)
        have hltB : w1.heap.size < (w1.alloc (.cells #[vi q, vi n, vi (fv s), vi (fv r)] 47)).heap.size := by simp
        have hD2 := hD.below hba hD.fld.le
        have bw2 := hb1.trans (hba.mono hb1.size)
        obtain ⟨B0, hB⟩ : ∃ B0, B0 = w1.heap.size := ⟨_, rfl⟩
        go_wp2_with fail
        rw [← hB] at hrd hltB hD2 ⊢
        clear hD hba hB hb1
        generalize w1.alloc (.cells #[vi q, vi n, vi (fv s), vi (fv r)] 47) = w2 at hrd hltB hD2 bw2 ⊢
        refine (HDB.out D w2 hD2.c1).mono ?_
        rintro e w' ⟨rfl, rfl⟩
        go_wp2
        go_ret
        exact ⟨rfl, bw2⟩
  · have HN := Lib.hid (made2_no p size t hp hs ht hD w hT)
    clear hD
    go_enter Tryd.func7, Tryd.ntmps7
    go_wp2_with fail
    refine (HN.out).mono ?_
    rintro e w1 ⟨rfl, hb1⟩
    go_wp2
    go_ret
    exact ⟨rfl, hb1.alloc hb1.size _⟩
end Go.Proofs.YtgmkcmahbefcoaaDoor
