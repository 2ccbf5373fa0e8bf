/- The walk of the reference's Divided. -/
import Derived.Test.YtiohededmcfhjaaDoorRq
import Derived.Test.YtiohededmcfhjaaDoorPt
import Derived.Test.YtiohededmcfhjaaDoorRound
set_option linter.unusedVariables false
namespace Go.Proofs.YtiohededmcfhjaaDoor
open Go.RowKit Zp

/-- how long a slice is -/
def lenOf : Value → Nat
  | .slice _ n _ => n
  | _ => 0
theorem lenOf_slice (A : Option Addr) (n c : Nat) : lenOf (.slice A n c) = n := rfl
/-- quotient and rest are handed back, and no error is told -/
def MadeRQ {p : Nat} [NeZero p] (a b : List (Fin p)) (w : World) (e : Ending) (w' : World) : Prop :=
  ∃ (Q R : List (Fin p)) (v1 v2 : Value), DivOk a b Q R ∧ e = .returned (.tuple #[v1, v2]) ∧ Own w' w.heap.size v1 (fvs Q) ∧ Own w' w.heap.size v2 (fvs R) ∧ Below w.heap.size w w'
theorem divOk_trim' {p : Nat} [NeZero p] {a b Q R : List (Fin p)} (h : DivOk (trimL a) (trimL b) Q R) : DivOk a b Q R := ⟨h.tq, h.tr, by have := h.lt; rwa [trimL_trim] at this, by have := h.eq; rwa [ofL_trim, ofL_trim] at this⟩

def DivRRel {p : Nat} [NeZero p] (al bl : List (Fin p)) (w1 : World) (r q : Value) (wr : World) : Prop :=
  ∃ (Q R : List (Fin p)), DivR al bl Q R ∧ Own wr w1.heap.size r (fvs R) ∧ Own wr w1.heap.size q (fvs Q) ∧ Below w1.heap.size w1 wr
set_option maxRecDepth 100000 in
set_option maxHeartbeats 4000000 in
theorem rdivided_n (p : Nat) [NeZero p] (hp : IsPrime p) (hp1 : 2 ≤ p) (hp2 : p ≤ 2147483647) (A B : Option Addr) (na ca nb cb : Nat) (xs ys : List Int) (hna : xs.length = na) (hnb : ys.length = nb) (hxs : ∀ n ∈ xs, I64 n) (hys : ∀ n ∈ ys, I64 n)
    (hrx : na ≤ 17592186043904) (hry : nb ≤ 17592186043904) (hca : na ≤ ca) (hcb : nb ≤ cb) (hnz : trimL (els p ys) ≠ []) (w : World) (hsx : SL w A xs) (hsy : SL w B ys) :
    Calls Tryd.prog 10 #[vi p, .slice A na ca, .slice B nb cb] w fun e w' => MadeRQ (els p xs) (els p ys) w e w' := by
  have hT1 := rtrim_n p hp2 B nb cb ys hnb hys (by omega) hcb w hsy
  have hT2 := fun W hsW => rtrim_n p hp2 A na ca xs hna hxs (by omega) hca W hsW
  have hdiv := fun Q R (h : DivOk (trimL (els p xs)) (trimL (els p ys)) Q R) => divOk_trim' h
  have htb := trimL_trim (els p ys)
  have hta := trimL_trim (els p xs)
  have hlb : (trimL (els p ys)).length ≤ nb := by rw [← hnb]; have := trimL_length_le (els p ys); simpa using this
  have hla : (trimL (els p xs)).length ≤ na := by rw [← hna]; have := trimL_length_le (els p xs); simpa using this
  have hpos : 0 < (trimL (els p ys)).length := List.length_pos_iff.2 hnz
  have htop : co (trimL (els p ys)) ((trimL (els p ys)).length - 1) ≠ 0 := by have := top_ne hpos; rwa [co_trim]
  generalize trimL (els p ys) = bl at hT1 hdiv htb hlb hpos htop
  generalize trimL (els p xs) = al at hT2 hdiv hla hta
  obtain ⟨last, hlast⟩ : ∃ last, bl.length = last + 1 := ⟨bl.length - 1, by omega⟩
  rw [hlast, Nat.add_sub_cancel] at htop
  rw [hlast] at hlb
  have HT1 := Lib.hid hT1
  have HT2 := Lib.hid hT2
  have HDIV := Lib.hid hdiv
  have HTB := Lib.hid htb
  have HTA := Lib.hid hta
  have HLAST := Lib.hid hlast
  have HLA := Lib.hid hla
  have HTOP := Lib.hid htop
  have HP := Lib.hid hp
  clear hT1 hT2 hdiv htb hta hlast hla htop hpos hnz hna hnb hp
  go_enter Tryd.func10, Tryd.ntmps10
  go_wp2_with fail
  refine (HT1.out).mono ?_
  rintro e w1 ⟨v1, rfl, hown1, hb1⟩
  have hl1' : (fvs bl).length = last + 1 := by rw [List.length_map]; exact HLAST.out
  obtain ⟨g2, c2, rfl, hg2, hg2'⟩ := hown1.block (by omega)
  have hsx1 := hsx.below hb1
  obtain ⟨mb, hmb⟩ : ∃ mb, mb = last + 1 := ⟨_, rfl⟩
  rw [← hmb] at hl1'
  rw [hl1'] at hown1 ⊢
  have H1 := Lib.hid hl1'
  have hsb : SL w1 (some ⟨g2, 0, none⟩) (fvs bl) := by
    obtain ⟨A9, c9, e9, h9⟩ := hown1.len
    injection e9 with e9
    rw [e9]; exact h9
  have hmb1 : 1 ≤ mb := by omega
  have hmb2 : mb ≤ 17592186043904 := by omega
  have hll : (last : Int) = (mb : Int) - 1 := by omega
  have HMB := Lib.hid hmb
  have HLL := Lib.hid hll
  clear hl1' hmb hlb hll
  go_wp2_with fail
  refine (HT2.out _ hsx1).mono ?_
  rintro e w2 ⟨v2, rfl, hown2, hb2⟩
  go_wp2
  go_loopw [8, 9] (fun r q wr => DivRRel al bl w1 r q wr) (fun r _ _ => lenOf r)
  case atStart => exact ⟨[], al, DivR.start HTA.out, hown2, World.ownsRow_nil _ _ _ _, hb2⟩
  case round =>
    obtain ⟨Q, R, hd, hor, hoq, hb⟩ := hrel
    have hlR := hd.lr
    have hlQ := hd.lq
    obtain ⟨A3, n3, c3, rfl, hl3, hc3, _, hs3⟩ := hor.shapeN
    obtain ⟨A4, n4, c4, rfl, hl4, hc4, _, hs4⟩ := hoq.shapeN
    have hl3' : R.length = n3 := by rw [← hl3, List.length_map]
    have hl4' : Q.length = n4 := by rw [← hl4, List.length_map]
    have hn3 : n3 ≤ 17592186043904 := by have := HLA.out; omega
    have hn4 : n4 ≤ 17592186043904 := by have := HLA.out; omega
    have HD := Lib.hid hd
    have HL3 := Lib.hid hl3
    have HL4 := Lib.hid hl4
    have HL3' := Lib.hid hl3'
    clear hd hl3 hl4 hl3' hl4' hlR hlQ
    by_cases hge : mb ≤ n3
    · obtain ⟨kk, hkk⟩ : ∃ kk, n3 = mb + kk := ⟨n3 - mb, by omega⟩
      obtain ⟨g3, c3', e3, hg3, hg3'⟩ := hor.block (by rw [HL3.out]; omega)
      injection e3 with e3 e3b e3c
      subst e3
      clear e3b e3c
      have hstep := HD.out.step HP.out (k := kk) HLAST.out HTOP.out (by rw [HL3'.out, hkk, HMB.out])
      obtain ⟨X, hX⟩ : ∃ X, X = co R (last + kk) := ⟨_, rfl⟩
      obtain ⟨Y, hY⟩ : ∃ Y, Y = co bl last := ⟨_, rfl⟩
      rw [← hX, ← hY] at hstep
      have hcx : wr.cell? ⟨g3, n3 - 1, none⟩ = some (vi (fv X)) := by
        have h := hor.at_ HL3.out.symm (n3 - 1) (by rw [HL3.out]; omega)
        rw [h, hX, List.getElem_map, ← co_of_lt, show n3 - 1 = last + kk by have := HMB.out; omega]
      have hcy : wr.cell? ⟨g2, mb - 1, none⟩ = some (vi (fv Y)) := by
        have h := (hown1.below hb).at_ H1.out.symm (mb - 1) (by rw [H1.out]; omega)
        rw [h, hY, List.getElem_map, ← co_of_lt, show mb - 1 = last by have := HMB.out; omega]
      obtain ⟨C, hC⟩ : ∃ C, C = X * Zp.inv Y := ⟨_, rfl⟩
      rw [← hC] at hstep
      have hdv := fun W => rdiv_any p hp1 hp2 (fv X) (fv Y) (i64_fv _ hp2) (i64_fv _ hp2) W
      rw [el_fv, el_fv, ← hC] at hdv
      have hs1 := fun (W : World) hsW => rscaled_n p hp2 (some ⟨W.heap.size, 0, none⟩) 1 1 [1] rfl (by intro n hn; rw [List.mem_singleton] at hn; subst hn; constructor <;> decide) (fv C) (i64_fv _ hp2) kk (by omega) (by omega) (W.alloc (.cells #[vi 1] 3)) hsW
      have hs2 := fun (W : World) hsW => rscaled_n p hp2 (some ⟨g2, 0, none⟩) mb c2 (fvs bl) H1.out (i64_fvsR _ hp2) (fv C) (i64_fv _ hp2) kk (by omega) (by omega) W hsW
      have e1 : els p [1] = [1] := by simp [el_one]
      simp only [els_fvs, el_fv, e1] at hs1 hs2
      have hln1 : (sclL [(1 : Fin p)] C kk).length ≤ 17592186043904 := by have := sclL_length [(1 : Fin p)] C kk; simp only [List.length_cons, List.length_nil] at this; omega
      have hln2 : (sclL bl C kk).length ≤ 17592186043904 := by have := sclL_length bl C kk; rw [HLAST.out, ← HMB.out] at this; omega
      generalize sclL [(1 : Fin p)] C kk = S1 at hs1 hstep hln1
      generalize sclL bl C kk = S2 at hs2 hstep hln2
      have hpl := fun (C5 : Option Addr) (nc cc : Nat) hl hr W hsx' hsy' => rplus_n p hp2 A4 C5 n4 c4 nc cc (fvs Q) (fvs S1) HL4.out hl (i64_fvsR _ hp2) (i64_fvsR _ hp2) (by omega) hr W hsx' hsy'
      have hmn := fun (C5 : Option Addr) (nc cc : Nat) hl hr W hsx' hsy' => rminus_n p hp2 (some ⟨g3, 0, none⟩) C5 n3 c3 nc cc (fvs R) (fvs S2) HL3.out hl (i64_fvsR _ hp2) (i64_fvsR _ hp2) (by omega) hr W hsx' hsy'
      simp only [els_fvs] at hpl hmn
      generalize trimL (addL Q S1) = Q2 at hpl hstep
      generalize trimL (subL R S2) = R2 at hmn hstep
      rw [HL3'.out] at hstep
      have HSTEP := Lib.hid hstep
      have HDV := Lib.hid hdv
      have HS1 := Lib.hid hs1
      have HS2 := Lib.hid hs2
      have HPL := Lib.hid hpl
      have HMN := Lib.hid hmn
      have HN1 := Lib.hid hln1
      have HN2 := Lib.hid hln2
      have ekk : (n3 : Int) - mb = (kk : Int) := by omega
      have HKK := Lib.hid hkk
      have i1 : (0 : Int) ≤ (n3 : Int) - 1 := by omega
      have i2 : (n3 : Int) - 1 < n3 := by omega
      have i3 : ((n3 : Int) - 1).toNat = n3 - 1 := by omega
      have i4 : (0 : Int) ≤ (mb : Int) - 1 := by omega
      have i1b : (1 : Int) ≤ (n3 : Int) := by omega
      have i4b : (1 : Int) ≤ (mb : Int) := by omega
      have i5 : (mb : Int) - 1 < mb := by omega
      have i6 : ((mb : Int) - 1).toNat = mb - 1 := by omega
      have i7 : IntKind.i64.wrap ((n3 : Int) - 1) = (n3 : Int) - 1 := IntWalk.i64_in _ (by omega)
      have i8 : IntKind.i64.wrap ((mb : Int) - 1) = (mb : Int) - 1 := IntWalk.i64_in _ (by omega)
      have hlt : (mb : Int) ≤ n3 := by omega
      clear hstep hdv hs1 hs2 hpl hmn hln1 hln2 hkk e1 hX hY hC
      go_wp2
      go_quiet ((go_at_call 29; exact quiet_eq (HDV.out _)))
      go_wp2_with fail
      have hlit := sl_lit' (wr.drewN nq) [1]
      have hba : Below wr.heap.size wr ((wr.drewN nq).alloc (.cells #[vi 1] 3)) := (below_drewN (Below.refl _ _) nq).alloc (Nat.le_refl _) _
      refine (HS1.out _ (by exact hlit)).mono ?_
      rintro e w3 ⟨v3, rfl, hown3, hb3⟩
      have hb3' : Below wr.heap.size wr w3 := hba.trans (hb3.mono hba.size)
      obtain ⟨A5, n5, c5, rfl, hl5, hc5, _, hs5⟩ := hown3.shapeN
      have hn5 : n5 ≤ 17592186043904 := by rw [← hl5, List.length_map]; exact HN1.out
      have HL5 := Lib.hid hl5
      clear hl5 hown3 hba hlit hb3
      go_wp2_with fail
      refine (HPL.out A5 n5 c5 HL5.out hn5 _ (hs4.below hb3') hs5).mono ?_
      rintro e w4 ⟨v4, rfl, hown4, hb4⟩
      have hb4' : Below wr.heap.size wr w4 := hb3'.trans (hb4.mono hb3'.size)
      have hsb4 := hsb.below (hb.trans (hb4'.mono hb.size))
      go_wp2_with fail
      refine (HS2.out _ hsb4).mono ?_
      rintro e w5 ⟨v5, rfl, hown5, hb5⟩
      have hb5' : Below wr.heap.size wr w5 := hb4'.trans (hb5.mono hb4'.size)
      obtain ⟨A6, n6, c6, rfl, hl6, hc6, _, hs6⟩ := hown5.shapeN
      have hn6 : n6 ≤ 17592186043904 := by rw [← hl6, List.length_map]; exact HN2.out
      have HL6 := Lib.hid hl6
      clear hl6 hown5
      go_wp2_with fail
      refine (HMN.out A6 n6 c6 HL6.out hn6 _ (hs3.below hb5') hs6).mono ?_
      rintro e w6 ⟨v6, rfl, hown6, hb6⟩
      have hb6' : Below wr.heap.size wr w6 := hb5'.trans (hb6.mono hb5'.size)
      have hown4' := (hown4.below (hb5.trans (hb6.mono hb5.size))).more (Nat.le_trans hb.size hb3'.size)
      have hown6' := hown6.more (Nat.le_trans hb.size hb5'.size)
      have hbel := hb.trans (hb6'.mono hb.size)
      obtain ⟨A7, n7, c7, rfl, hl7, _⟩ := hown6.shapeN
      have hn7 : n7 < n3 := by rw [← hl7, List.length_map]; exact HSTEP.out.2
      clear hl7 hown4 hown6 hb4 hb5 hb6
      go_wp2
      go_roundw
      case rel => exact ⟨Q2, R2, HSTEP.out.1, hown6', hown4', hbel⟩
      case measure => simp only [lenOf_slice]; exact hn7
    · have hlt : ¬ (mb : Int) ≤ n3 := by omega
      have hdn := HDIV.out _ _ (HD.out.done HTB.out (by rw [HL3'.out, HLAST.out, ← HMB.out]; omega))
      have HDN := Lib.hid hdn
      have hb0 := hb1.trans (hb.mono hb1.size)
      clear hdn
      go_wp2
      go_ret2
      exact ⟨Q, R, _, _, HDN.out, rfl, hoq.more hb1.size, hor.more hb1.size, hb0⟩
end Go.Proofs.YtiohededmcfhjaaDoor
