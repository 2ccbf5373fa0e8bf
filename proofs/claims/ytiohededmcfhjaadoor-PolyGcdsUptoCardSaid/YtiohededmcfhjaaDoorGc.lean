/- The walk of poly.Gcd. -/
import Derived.Test.YtiohededmcfhjaaDoorGp
import Derived.Test.YtiohededmcfhjaaDoorDv
import Derived.Test.YtiohededmcfhjaaDoorRd
import Derived.Test.YtiohededmcfhjaaDoorRd
import Derived.Deep.RegionHeld3
set_option linter.unusedVariables false
namespace Go.Proofs.YtiohededmcfhjaaDoor
open Go.RowKit Zp

theorem below_drew {w w' : World} (h : Below w.drew.heap.size w.drew w') : Below w.heap.size w w' := (show Below w.heap.size w w.drew from below_drewN (Below.refl _ _) 1).trans h
theorem pmul_nP (p : Nat) [NeZero p] (hp2 : p ≤ 2147483647) (b : Nat) (A B : Option Addr) (na ca nb cb : Nat) (xs ys : List Int) (hna : xs.length = na) (hnb : ys.length = nb) (hxs : ∀ n ∈ xs, I64 n) (hys : ∀ n ∈ ys, I64 n) (hrx : na * 8 ≤ 140737488351232) (hry : nb * 8 ≤ 140737488351232) (hcx : na ≤ ca) (hcy : nb ≤ cb)
    (w : World) (hc : w.cell? ⟨b, 0, none⟩ = some (vi p)) (hsx : SL w A xs) (hsy : SL w B ys) :
    Calls Tryd.prog 41 #[.pointer (some ⟨b, 0, none⟩), .slice A na ca, .slice B nb cb] w fun e w' => Made (fvs (trimL (mulL (els p xs) (els p ys)))) w e w' := by
  subst hna hnb
  exact pmul_any p hp2 b A B ca cb xs ys hxs hys hrx hry hcx hcy w hc hsx hsy

/-- the second and what is left of the first -/
def NextOk {p : Nat} (v2 : Value) (L : List (Fin p)) (w : World) (e : Ending) (w' : World) : Prop := ∃ v, e = .returned (.tuple #[v2, v]) ∧ Own w' w.heap.size v (fvs L) ∧ Below w.heap.size w w'
set_option maxRecDepth 100000 in
set_option maxHeartbeats 4000000 in
theorem gcd_next (p : Nat) [NeZero p] (hp2 : p ≤ 2147483647) (b Bf Bq : Nat) (A B C : Option Addr) (na ca nb cb nq cq : Nat) (xs ys qs : List (Fin p)) (hna : (fvs xs).length = na) (hnb : (fvs ys).length = nb) (hnq : (fvs qs).length = nq) (ha : na ≤ 4194304) (hb : nb ≤ 4194304) (hq : nq ≤ 4194304) (hcb : nb ≤ cb) (hcq : nq ≤ cq)
    (w : World) (hc : w.cell? ⟨b, 0, none⟩ = some (vi p)) (hf : w.cell? ⟨Bf, 0, none⟩ = some (.pointer (some ⟨b, 0, none⟩))) (hqc : w.cell? ⟨Bq, 0, none⟩ = some (.slice C nq cq)) (hsx : SL w A (fvs xs)) (hsy : SL w B (fvs ys)) (hsq : SL w C (fvs qs)) :
    Calls Tryd.prog 39 #[.slice A na ca, .slice B nb cb, .pointer (some ⟨Bf, 0, none⟩), .pointer (some ⟨Bq, 0, none⟩)] w fun e w' => NextOk (.slice B nb cb) (trimL (subL xs (trimL (mulL qs ys)))) w e w' := by
  have hbl : b < w.heap.size := block_lt_of_cell hc
  have hBf : Bf < w.heap.size := block_lt_of_cell hf
  have hBq : Bq < w.heap.size := block_lt_of_cell hqc
  have hm := fun W hcW h1 h2 => pmul_nP p hp2 b C B nq cq nb cb (fvs qs) (fvs ys) hnq hnb (i64_fvs _ hp2) (i64_fvs _ hp2) (by omega) (by omega) hcq hcb W hcW h1 h2
  simp only [els_fvs] at hm
  have hml : (trimL (mulL qs ys)).length ≤ 8388608 := by
    have := mul_len_le qs ys
    rw [List.length_map] at hnb hnq
    omega
  generalize trimL (mulL qs ys) = M at hm hml
  have hs := fun (D : Option Addr) (nd cd : Nat) hnd hd W hcW h1 h2 => psub_any p hp2 b A D na ca nd cd (fvs xs) (fvs M) hna hnd (i64_fvs _ hp2) (i64_fvs _ hp2) (by omega) hd W hcW h1 h2
  simp only [els_fvs] at hs
  generalize trimL (subL xs M) = R at hs
  have HM := Lib.hid hm
  have HML := Lib.hid hml
  have HS := Lib.hid hs
  clear hm hml hs hna hnb hnq
  go_enter Tryd.func39, Tryd.ntmps39
  go_wp2
  go_region_held3 (fun w' => w'.cell? ⟨Bf, 0, none⟩ = some (.pointer (some ⟨b, 0, none⟩)) ∧ w'.cell? ⟨Bq, 0, none⟩ = some (.slice C nq cq)) (first | exact ⟨hf, hqc⟩ | exact ⟨(hb2.cell (p := ⟨Bf, 0, none⟩) hBf).trans hf, (hb2.cell (p := ⟨Bq, 0, none⟩) hBq).trans hqc⟩ | exact ⟨(hbel3.cell (p := ⟨Bf, 0, none⟩) hBf).trans hf, (hbel3.cell (p := ⟨Bq, 0, none⟩) hBq).trans hqc⟩) ((first | (go_at_call 41; refine (HM.out _ (by exact hc) (by exact hsq) (by exact hsy)).mono ?_; rintro e w2 ⟨v2, rfl, hown2, hb2d⟩; have hb2 := below_drew hb2d; obtain ⟨A2, n2, c2, rfl, hl2, hc2, _, hs2⟩ := hown2.shapeN; have hn2 : n2 ≤ 8388608 := by rw [← hl2, List.length_map]; exact HML.out) | (go_at_call 40; refine (HS.out A2 n2 c2 hl2 (by omega) _ (by exact (hb2.cell (p := ⟨b, 0, none⟩) hbl).trans hc) (by exact hsx.below hb2) (by exact hs2)).mono ?_; rintro e w3 ⟨v3, rfl, hown3, hb3⟩; have hbel3 : Below w.heap.size w w3 := hb2.trans (hb3.mono hb2.size))))
  go_wp2
  go_ret2
  exact ⟨v3, rfl, hown3.more hb2.size, hbel3⟩

/-- a divisor, and of what it is made -/
def MadeGcd {p : Nat} [NeZero p] (a b : List (Fin p)) (M : Nat) (w : World) (e : Ending) (w' : World) : Prop :=
  ∃ (d u v : List (Fin p)) (v1 v2 v3 : Value), GcdOk a b d u v M ∧ e = .returned (.tuple #[v1, v2, v3]) ∧ Own w' w.heap.size v1 (fvs d) ∧ Own w' w.heap.size v2 (fvs u) ∧ Own w' w.heap.size v3 (fvs v) ∧ Below w.heap.size w w'
/-- what the loop of Gcd knows -/
def GcdRel {p : Nat} [NeZero p] (a b : List (Fin p)) (M : Nat) (w : World) (r s ru su rv sv : Value) (wr : World) : Prop :=
  ∃ R S RU SU RV SV : List (Fin p), GcdI a b R S RU SU RV SV M ∧ Own wr w.heap.size r (fvs R) ∧ Own wr w.heap.size s (fvs S) ∧ Own wr w.heap.size ru (fvs RU) ∧ Own wr w.heap.size su (fvs SU) ∧ Own wr w.heap.size rv (fvs RV) ∧ Own wr w.heap.size sv (fvs SV) ∧ Below w.heap.size w wr
set_option maxRecDepth 100000 in
set_option maxHeartbeats 8000000 in
theorem gcd_any (p : Nat) [NeZero p] (hp : IsPrime p) (hp1 : 2 ≤ p) (hp2 : p ≤ 2147483647) (b : Nat) (A B : Option Addr) (na ca nb cb : Nat) (xs ys : List Int) (hna : xs.length = na) (hnb : ys.length = nb) (hxs : ∀ n ∈ xs, I64 n) (hys : ∀ n ∈ ys, I64 n)
    (hrx : na ≤ 1048576) (hry : nb ≤ 1048576) (hcx : na ≤ ca) (hcy : nb ≤ cb) (hnz : ¬ (trimL (els p xs) = [] ∧ trimL (els p ys) = [])) (w : World) (hc : w.cell? ⟨b, 0, none⟩ = some (vi p)) (hsx : SL w A xs) (hsy : SL w B ys) :
    Calls Tryd.prog 17 #[.pointer (some ⟨b, 0, none⟩), .slice A na ca, .slice B nb cb] w fun e w' => MadeGcd (els p xs) (els p ys) (na + nb + 1) w e w' := by
  have hbl : b < w.heap.size := block_lt_of_cell hc
  have hT1 := fun W hcW hsW => ptrim_n p hp2 b A na ca xs hna hxs (by omega) hcx W hcW hsW
  have hT2 := fun W hcW hsW => ptrim_n p hp2 b B nb cb ys hnb hys (by omega) hcy W hcW hsW
  have hst := GcdI.start (els p xs) (els p ys) (na + nb + 1) (by
    have h1 := trimL_length_le (els p xs)
    have h2 := trimL_length_le (els p ys)
    rw [List.length_map] at h1 h2
    omega)
  obtain ⟨M, hM⟩ : ∃ M, M = na + nb + 1 := ⟨_, rfl⟩
  rw [← hM] at hst ⊢
  have hM2 : M ≤ 2097153 := by omega
  have hBx : (w.alloc (.cells #[.pointer (some ⟨b, 0, none⟩)] 23)).cell? ⟨w.heap.size, 0, none⟩ = some (.pointer (some ⟨b, 0, none⟩)) := by simp
  have hb0 : Below w.heap.size w (w.alloc (.cells #[.pointer (some ⟨b, 0, none⟩)] 23)) := (Below.refl _ _).alloc (Nat.le_refl _) _
  generalize trimL (els p xs) = al at hT1 hst hnz
  generalize trimL (els p ys) = bl at hT2 hst hnz
  generalize els p xs = a at hst ⊢
  generalize els p ys = b' at hst ⊢
  have HT1 := Lib.hid hT1
  have HT2 := Lib.hid hT2
  have HNZ := Lib.hid (show ¬ (trimL a = [] ∧ trimL b' = []) from fun h => hnz (hst.nonzero h))
  have HST := Lib.hid hst
  have HP := Lib.hid hp
  clear hnz hT1 hT2 hst hM hna hnb hp
  go_enter Tryd.func17, Tryd.ntmps17
  go_wp2
  obtain ⟨W1, hW1⟩ : ∃ W1, W1 = w.alloc (.cells #[.pointer (some ⟨b, 0, none⟩)] 23) := ⟨_, rfl⟩
  rw [← hW1] at hBx hb0 ⊢
  clear hW1
  have hBl := block_lt_of_cell hBx
  have hc1 := (hb0.cell (p := ⟨b, 0, none⟩) hbl).trans hc
  have hbl1 := block_lt_of_cell hc1
  have hsx1 := hsx.below hb0
  have hsy1 := hsy.below hb0
  go_region_held3 (fun w' => w'.cell? ⟨w.heap.size, 0, none⟩ = some (.pointer (some ⟨b, 0, none⟩))) (first | exact hBx | exact (hb2.cell (p := ⟨w.heap.size, 0, none⟩) hBl).trans hBx | exact (hb13.cell (p := ⟨w.heap.size, 0, none⟩) hBl).trans hBx) ((first | (go_at_call 23; have hb2x := hb2; clear hb2x; refine (HT2.out _ (by exact (hb2.cell (p := ⟨b, 0, none⟩) hbl1).trans hc1) (by exact hsy1.below hb2)).mono ?_; rintro e w3 ⟨v3, rfl, hown3, hb3⟩; have hb13 : Below W1.heap.size W1 w3 := hb2.trans (hb3.mono hb2.size)) | (go_at_call 23; refine (HT1.out _ (by exact hc1) (by exact hsx1)).mono ?_; rintro e w2 ⟨v2, rfl, hown2, hb2d⟩; have hb2 := below_drew hb2d)))
  have hown2' : Own w3 W1.heap.size v2 (fvs al) := (hown2.below hb3).more (Nat.le_refl _)
  have hown3' : Own w3 W1.heap.size v3 (fvs bl) := hown3.more hb2.size
  clear hown2 hown3 hb2d hb2 hb3
  have hba1 : Below w3.heap.size w3 (w3.alloc (.cells #[vi 1] 3)) := (Below.refl _ _).alloc (Nat.le_refl _) _
  have hba2 : Below w3.heap.size w3 ((w3.alloc (.cells #[vi 1] 3)).alloc (.cells #[vi 1] 3)) := hba1.alloc hba1.size _
  have hr3 := hown2'.below hba2
  have hs3 := hown3'.below hba2
  have e1 : fvs [(1 : Fin p)] = [1] := by simp [fv_one hp1]
  have hru3 : Own ((w3.alloc (.cells #[vi 1] 3)).alloc (.cells #[vi 1] 3)) W1.heap.size (.slice (some ⟨w3.heap.size, 0, none⟩) 1 1) (fvs [(1 : Fin p)]) := by
    rw [e1]
    exact (own_lit w3 W1.heap.size [1] hb13.size (by simp [maxLen])).alloc' _
  have hsv3 : Own ((w3.alloc (.cells #[vi 1] 3)).alloc (.cells #[vi 1] 3)) W1.heap.size (.slice (some ⟨w3.heap.size + 1, 0, none⟩) 1 1) (fvs [(1 : Fin p)]) := by
    rw [e1]
    have h := own_lit (w3.alloc (.cells #[vi 1] 3)) W1.heap.size [1] (Nat.le_trans hb13.size hba1.size) (by simp [maxLen])
    rw [World.size_alloc] at h
    exact h
  have hnl3 : ∀ W : World, Own W W1.heap.size (.slice none 0 0) (fvs ([] : List (Fin p))) := fun W => World.ownsRow_nil _ _ _ _
  have hb33 := hb13.trans (hba2.mono hb13.size)
  have hmf : ∀ (fn : Fn) (first cap : Array Value) (w : World), (Instr.makeFunc fn first cap).run Tryd.prog w = .ok (.func fn first cap) w := fun _ _ _ _ => rfl
  clear hba1 hba2 hown2' hown3' e1
  go_wp2
  go_loopw [9, 10, 11, 12, 13, 14] (fun r s ru su rv sv wr => GcdRel a b' M W1 r s ru su rv sv wr) (fun _ s _ _ _ _ _ => lenOf s)
  case atStart => exact ⟨al, bl, [1], [], [], [1], HST.out, hr3, hs3, hru3, hnl3 _, hnl3 _, hsv3, hb33⟩
  case round =>
    obtain ⟨R, S, RU, SU, RV, SV, hg, hor, hos, horu, hosu, horv, hosv, hb⟩ := hrel
    have hcr := (hb.cell (p := ⟨b, 0, none⟩) hbl1).trans hc1
    have hbx := (hb.cell (p := ⟨w.heap.size, 0, none⟩) hBl).trans hBx
    have hblr := block_lt_of_cell hcr
    have hBlr := block_lt_of_cell hbx
    have hlr := hg.lr
    have hls := hg.ls
    have hl1 := hg.l1
    have hl3 := hg.l3
    have hk1 := hg.k1
    have hk3 := hg.k3
    obtain ⟨Ar, nr, cr, rfl, hlr', hcr', _, hsr⟩ := hor.shapeN
    obtain ⟨As, ns, cs, rfl, hls', hcs', _, hss⟩ := hos.shapeN
    obtain ⟨A1, n1, c1, rfl, hl1', hc1', _, hs1⟩ := horu.shapeN
    obtain ⟨A2, n2, c2, rfl, hl2', hc2', _, hs2⟩ := hosu.shapeN
    obtain ⟨A3, n3, c3, rfl, hl3', hc3', _, hs3⟩ := horv.shapeN
    obtain ⟨A4, n4, c4, rfl, hl4', hc4', _, hs4⟩ := hosv.shapeN
    have gr : nr ≤ 2097153 := by rw [← hlr', List.length_map]; omega
    have gs : ns ≤ 2097153 := by rw [← hls', List.length_map]; omega
    have g1 : n1 ≤ 2097153 := by rw [← hl1', List.length_map]; omega
    have g2 : n2 ≤ 2097153 := by rw [← hl2', List.length_map]; omega
    have g3 : n3 ≤ 2097153 := by rw [← hl3', List.length_map]; omega
    have g4 : n4 ≤ 2097153 := by rw [← hl4', List.length_map]; omega
    have HG := Lib.hid hg
    have KR := Lib.hid hlr'
    have KS := Lib.hid hls'
    have K1 := Lib.hid hl1'
    have K2 := Lib.hid hl2'
    have K3 := Lib.hid hl3'
    have K4 := Lib.hid hl4'
    have KRL := Lib.hid (show R.length = nr by rw [← hlr', List.length_map])
    have KSL := Lib.hid (show S.length = ns by rw [← hls', List.length_map])
    have HS0 := Lib.hid (show ns = 0 ↔ S = [] by rw [← hls', List.length_map, List.length_eq_zero_iff])
    have HR0 := Lib.hid (show nr = 0 ↔ R = [] by rw [← hlr', List.length_map, List.length_eq_zero_iff])
    clear hg hlr hls hl1 hl3 hk1 hk3 hlr' hls' hl1' hl2' hl3' hl4'
    by_cases h0 : ns = 0
    · have hS : S = [] := HS0.out.1 h0
      have hRn : R ≠ [] := fun e => HNZ.out (HG.out.zero e hS)
      have hr0 : ¬ nr = 0 := fun e => hRn (HR0.out.1 e)
      have hg0 := HG.out
      rw [hS] at hg0
      have hdone := hg0.done HP.out hRn (n := nr - 1) (by rw [KRL.out]; omega)
      obtain ⟨gR, cR, e9, hgR, hgR'⟩ := hor.block (by rw [KR.out]; omega)
      injection e9 with e9 e9b e9c
      subst e9
      clear e9b e9c
      obtain ⟨X, hX⟩ : ∃ X, X = co R (nr - 1) := ⟨_, rfl⟩
      rw [← hX] at hdone
      have hcx : wr.cell? ⟨gR, nr - 1, none⟩ = some (vi (fv X)) := by
        have h := hor.at_ KR.out.symm (nr - 1) (by rw [KR.out]; omega)
        rw [h, hX, List.getElem_map, ← co_of_lt]
      obtain ⟨c, hc9⟩ : ∃ c, c = Zp.inv X := ⟨_, rfl⟩
      rw [← hc9] at hdone
      have hin := fun W hcW => inv_any p hp1 hp2 b (fv X) (i64_fv _ hp2) W hcW
      rw [el_fv, ← hc9] at hin
      have hm1 := fun W hcW h1 h2 => pmul_nP p hp2 b (some ⟨gR, 0, none⟩) (some ⟨wr.heap.size, 0, none⟩) nr cr 1 1 (fvs R) (fvs [c]) KR.out rfl (i64_fvs _ hp2) (i64_fvs _ hp2) (by omega) (by omega) hcr' (Nat.le_refl _) W hcW h1 h2
      have hm2 := fun W hcW h1 h2 => pmul_nP p hp2 b A1 (some ⟨wr.heap.size, 0, none⟩) n1 c1 1 1 (fvs RU) (fvs [c]) K1.out rfl (i64_fvs _ hp2) (i64_fvs _ hp2) (by omega) (by omega) hc1' (Nat.le_refl _) W hcW h1 h2
      have hm3 := fun W hcW h1 h2 => pmul_nP p hp2 b A3 (some ⟨wr.heap.size, 0, none⟩) n3 c3 1 1 (fvs RV) (fvs [c]) K3.out rfl (i64_fvs _ hp2) (i64_fvs _ hp2) (by omega) (by omega) hc3' (Nat.le_refl _) W hcW h1 h2
      simp only [els_fvs] at hm1 hm2 hm3
      generalize trimL (mulL R [c]) = D1 at hdone hm1
      generalize trimL (mulL RU [c]) = D2 at hdone hm2
      generalize trimL (mulL RV [c]) = D3 at hdone hm3
      have HDONE := Lib.hid hdone
      have HIN := Lib.hid hin
      have HM1 := Lib.hid hm1
      have HM2 := Lib.hid hm2
      have HM3 := Lib.hid hm3
      have HH0 := Lib.hid h0
      have t1 : ¬ (0 : Int) < (ns : Int) := by omega
      have t2 : ((nr : Int) == 0) = false := by rw [beq_eq_false_iff_ne]; omega
      have i1 : (0 : Int) ≤ (nr : Int) - 1 := by omega
      have i1b : (1 : Int) ≤ (nr : Int) := by omega
      have i2 : (nr : Int) - 1 < nr := by omega
      have i3 : ((nr : Int) - 1).toNat = nr - 1 := by omega
      have i7 : IntKind.i64.wrap ((nr : Int) - 1) = (nr : Int) - 1 := IntWalk.i64_in _ (by omega)
      have hmx : Tryd.prog.follows .mixedOrders = true := by kernel_rfl
      clear hdone hin hm1 hm2 hm3 hX hc9 hg0 hS hRn h0
      go_wp2
      refine wp_region_quiet_tail 8 hmx (by kernel_rfl) ?_
      simp only [List.take_succ_cons, List.take_zero, List.drop_succ_cons, List.drop_zero]
      repeat (quiet_step (((go_at_call 24; exact quiet_eq (HIN.out _ (by exact hcr))))))
      refine wpQuiet_nil ?_
      intro _ hw'
      obtain ⟨nq1, hw''⟩ := hw'
      subst hw''
      go_wp2
      have hb8 : Below wr.heap.size wr ((wr.drewN nq1).alloc (.cells #[vi (fv c)] 3)) := (below_drewN (Below.refl _ _) nq1).alloc (Nat.le_refl _) _
      have hs8 : SL ((wr.drewN nq1).alloc (.cells #[vi (fv c)] 3)) (some ⟨wr.heap.size, 0, none⟩) (fvs [c]) := sl_lit' (wr.drewN nq1) [fv c]
      generalize (wr.drewN nq1).alloc (.cells #[vi (fv c)] 3) = W8 at hb8 hs8 ⊢
      have hc8 := (hb8.cell (p := ⟨b, 0, none⟩) hblr).trans hcr
      have hbx8 := (hb8.cell (p := ⟨w.heap.size, 0, none⟩) hBlr).trans hbx
      have hbl8 := block_lt_of_cell hc8
      have hBl8 := block_lt_of_cell hbx8
      have hsr8 := hsr.below hb8
      have hs18 := hs1.below hb8
      have hs38 := hs3.below hb8
      go_region_held3 (fun w' => w'.cell? ⟨w.heap.size, 0, none⟩ = some (.pointer (some ⟨b, 0, none⟩))) (first | exact hbx8 | exact (hbA.cell (p := ⟨w.heap.size, 0, none⟩) hBl8).trans hbx8 | exact (hbB.cell (p := ⟨w.heap.size, 0, none⟩) hBl8).trans hbx8 | exact (hbC.cell (p := ⟨w.heap.size, 0, none⟩) hBl8).trans hbx8) ((first | (go_at_call 41; have hx := hbB; clear hx; refine (HM3.out _ (by exact (hbB.cell (p := ⟨b, 0, none⟩) hbl8).trans hc8) (by exact hs38.below hbB) (by exact hs8.below hbB)).mono ?_; rintro e wC ⟨vC, rfl, hownC, hbC0⟩; have hbC : Below W8.heap.size W8 wC := hbB.trans (hbC0.mono hbB.size)) | (go_at_call 41; have hx := hbA; clear hx; refine (HM2.out _ (by exact (hbA.cell (p := ⟨b, 0, none⟩) hbl8).trans hc8) (by exact hs18.below hbA) (by exact hs8.below hbA)).mono ?_; rintro e wB ⟨vB, rfl, hownB, hbB0⟩; have hbB : Below W8.heap.size W8 wB := hbA.trans (hbB0.mono hbA.size)) | (go_at_call 41; refine (HM1.out _ (by exact hc8) (by exact hsr8) (by exact hs8)).mono ?_; rintro e wA ⟨vA, rfl, hownA, hbAd⟩; have hbA := below_drew hbAd)))
      have h08 := (hb0.trans (hb.mono hb0.size)).trans (hb8.mono (hb0.trans (hb.mono hb0.size)).size)
      have o1 : Own wC w.heap.size vA (fvs D1) := ((hownA.below hbB0).below hbC0).more (Nat.le_trans h08.size (Nat.le_refl _))
      have o2 : Own wC w.heap.size vB (fvs D2) := (hownB.below hbC0).more (Nat.le_trans h08.size hbA.size)
      have o3 : Own wC w.heap.size vC (fvs D3) := hownC.more (Nat.le_trans h08.size hbB.size)
      have hbz := h08.trans (hbC.mono h08.size)
      clear hownA hownB hownC hbAd hbB0 hbC0 hbA hbB hbC
      go_wp2
      go_ret3
      exact ⟨D1, D2, D3, _, _, _, HDONE.out, rfl, o1, o2, o3, hbz⟩
    · have hSn : S ≠ [] := fun e => h0 (HS0.out.2 e)
      have t1 : (0 : Int) < (ns : Int) := by omega
      have hdv := fun W hcW h1 h2 => pdiv_any p HP.out hp1 hp2 b Ar As nr cr ns cs (fvs R) (fvs S) KR.out KS.out (i64_fvs _ hp2) (i64_fvs _ hp2) (by omega) (by omega) hcr' hcs' (by rw [els_fvs, HG.out.ts]; exact hSn) W hcW h1 h2
      simp only [els_fvs] at hdv
      have HDV := Lib.hid (hdv wr hcr hsr hss)
      clear hdv
      go_wp2_with fail
      refine (HDV.out).mono ?_
      rintro e w4 ⟨Q, T, hd, v4, v5, rfl, hown4, hown5, hb4⟩
      obtain ⟨Aq, nq, cq, rfl, hlq', hcq', _, hsq⟩ := hown4.shapeN
      have hst := HG.out.step HP.out hd
      have gq : nq ≤ 4194304 := by
        rw [← hlq', List.length_map]
        by_cases hQ : Q = []
        · rw [hQ]; simp
        · have h1 := hd.len HP.out hQ
          rw [HG.out.tr, KRL.out] at h1
          omega
      have glt : T.length < ns := by
        have := hd.lt
        rw [HG.out.ts, KSL.out] at this
        exact this
      have KQ := Lib.hid hlq'
      have HSTEP := Lib.hid hst
      clear hst hlq' hd
      have hbq : Below w4.heap.size w4 (w4.alloc (.cells #[.slice Aq nq cq] 22)) := (Below.refl _ _).alloc (Nat.le_refl _) _
      have hcqc : (w4.alloc (.cells #[.slice Aq nq cq] 22)).cell? ⟨w4.heap.size, 0, none⟩ = some (.slice Aq nq cq) := by simp
      have hb4q := hb4.trans (hbq.mono hb4.size)
      have hcw := (hb4q.cell (p := ⟨b, 0, none⟩) hblr).trans hcr
      have hbw := (hb4q.cell (p := ⟨w.heap.size, 0, none⟩) hBlr).trans hbx
      have hsq' := hsq.below hbq
      have hnx1 := gcd_next p hp2 b w.heap.size w4.heap.size A1 A2 Aq n1 c1 n2 c2 nq cq RU SU Q K1.out K2.out KQ.out (by omega) (by omega) gq hc2' hcq' _ hcw hbw hcqc (hs1.below hb4q) (hs2.below hb4q) hsq'
      have HNX1 := Lib.hid hnx1
      clear hnx1
      go_wp2_with fail
      refine (HNX1.out).mono ?_
      rintro e w5 ⟨v6, rfl, hown6, hb5⟩
      have hb45 := hb4q.trans (hb5.mono hb4q.size)
      have hcw5 := (hb45.cell (p := ⟨b, 0, none⟩) hblr).trans hcr
      have hbw5 := (hb45.cell (p := ⟨w.heap.size, 0, none⟩) hBlr).trans hbx
      have hqw5 := (hb5.cell (p := ⟨w4.heap.size, 0, none⟩) (by simp)).trans hcqc
      have hnx2 := gcd_next p hp2 b w.heap.size w4.heap.size A3 A4 Aq n3 c3 n4 c4 nq cq RV SV Q K3.out K4.out KQ.out (by omega) (by omega) gq hc4' hcq' _ hcw5 hbw5 hqw5 (hs3.below hb45) (hs4.below hb45) (hsq'.below hb5)
      have HNX2 := Lib.hid hnx2
      clear hnx2
      go_wp2_with fail
      refine (HNX2.out).mono ?_
      rintro e w6 ⟨v7, rfl, hown7, hb6⟩
      have hb46 := hb45.trans (hb6.mono hb45.size)
      have hbel := hb.trans (hb46.mono hb.size)
      have hb5x := hb5.trans (hb6.mono hb5.size)
      have hb4x := hbq.trans (hb5x.mono hbq.size)
      have r1 := hos.below hb46
      have r2 := (hown5.below hb4x).more hb.size
      have r3 := hosu.below hb46
      have r4 := (hown6.below hb6).more (Nat.le_trans hb.size hb4q.size)
      have r5 := hosv.below hb46
      have r6 := hown7.more (Nat.le_trans hb.size hb45.size)
      obtain ⟨A8, n8, c8, rfl, hl8, _⟩ := hown5.shapeN
      have g8 : n8 < ns := by rw [← hl8, List.length_map]; exact glt
      clear hl8 hor hos horu hosu horv hosv hown4 hown5 hown6 hown7
      go_wp2
      go_roundw
      case rel => exact ⟨_, _, _, _, _, _, HSTEP.out, r1, r2, r3, r4, r5, r6, hbel⟩
      case measure => simp only [lenOf_slice]; exact g8

set_option maxRecDepth 100000 in
set_option maxHeartbeats 4000000 in
theorem gcd_zero (p : Nat) [NeZero p] (hp2 : p ≤ 2147483647) (b : Nat) (A B : Option Addr) (na ca nb cb : Nat) (xs ys : List Int) (hna : xs.length = na) (hnb : ys.length = nb) (hxs : ∀ n ∈ xs, I64 n) (hys : ∀ n ∈ ys, I64 n)
    (hrx : na ≤ 1048576) (hry : nb ≤ 1048576) (hcx : na ≤ ca) (hcy : nb ≤ cb) (hx0 : trimL (els p xs) = []) (hy0 : trimL (els p ys) = []) (w : World) (hc : w.cell? ⟨b, 0, none⟩ = some (vi p)) (hsx : SL w A xs) (hsy : SL w B ys) :
    Calls Tryd.prog 17 #[.pointer (some ⟨b, 0, none⟩), .slice A na ca, .slice B nb cb] w fun e w' => SaysW (.tuple #[.slice none 0 0, .slice none 0 0, .slice none 0 0]) w e w' := by
  have hbl : b < w.heap.size := block_lt_of_cell hc
  have hT1 := fun W hcW hsW => ptrim_n p hp2 b A na ca xs hna hxs (by omega) hcx W hcW hsW
  have hT2 := fun W hcW hsW => ptrim_n p hp2 b B nb cb ys hnb hys (by omega) hcy W hcW hsW
  have hBx : (w.alloc (.cells #[.pointer (some ⟨b, 0, none⟩)] 23)).cell? ⟨w.heap.size, 0, none⟩ = some (.pointer (some ⟨b, 0, none⟩)) := by simp
  have hb0 : Below w.heap.size w (w.alloc (.cells #[.pointer (some ⟨b, 0, none⟩)] 23)) := (Below.refl _ _).alloc (Nat.le_refl _) _
  rw [hx0] at hT1
  rw [hy0] at hT2
  have HT1 := Lib.hid hT1
  have HT2 := Lib.hid hT2
  clear hT1 hT2 hna hnb hx0 hy0
  go_enter Tryd.func17, Tryd.ntmps17
  go_wp2
  obtain ⟨W1, hW1⟩ : ∃ W1, W1 = w.alloc (.cells #[.pointer (some ⟨b, 0, none⟩)] 23) := ⟨_, rfl⟩
  rw [← hW1] at hBx hb0 ⊢
  clear hW1
  have hBl := block_lt_of_cell hBx
  have hc1 := (hb0.cell (p := ⟨b, 0, none⟩) hbl).trans hc
  have hbl1 := block_lt_of_cell hc1
  have hsx1 := hsx.below hb0
  have hsy1 := hsy.below hb0
  go_region_held3 (fun w' => w'.cell? ⟨w.heap.size, 0, none⟩ = some (.pointer (some ⟨b, 0, none⟩))) (first | exact hBx | exact (hb2.cell (p := ⟨w.heap.size, 0, none⟩) hBl).trans hBx | exact (hb13.cell (p := ⟨w.heap.size, 0, none⟩) hBl).trans hBx) ((first | (go_at_call 23; have hb2x := hb2; clear hb2x; refine (HT2.out _ (by exact (hb2.cell (p := ⟨b, 0, none⟩) hbl1).trans hc1) (by exact hsy1.below hb2)).mono ?_; rintro e w3 ⟨v3, rfl, hown3, hb3⟩; have hb13 : Below W1.heap.size W1 w3 := hb2.trans (hb3.mono hb2.size)) | (go_at_call 23; refine (HT1.out _ (by exact hc1) (by exact hsx1)).mono ?_; rintro e w2 ⟨v2, rfl, hown2, hb2d⟩; have hb2 := below_drew hb2d)))
  obtain ⟨Ar, nr, cr, rfl, hlr, _⟩ := hown2.shapeN
  obtain ⟨As, ns, cs, rfl, hls, _⟩ := hown3.shapeN
  have er : nr = 0 := by rw [← hlr]; rfl
  have es : ns = 0 := by rw [← hls]; rfl
  subst er es
  have hbw := hb0.trans (hb13.mono hb0.size)
  clear hown2 hown3 hb2d hb2 hb3 hlr hls
  have hba2 : Below w.heap.size w ((w3.alloc (.cells #[vi 1] 3)).alloc (.cells #[vi 1] 3)) := (hbw.alloc hbw.size _).alloc (Nat.le_trans hbw.size (by simp)) _
  go_wp2
  go_loopw [9, 10] (fun r s wr => r = .slice Ar 0 cr ∧ s = .slice As 0 cs ∧ Below w.heap.size w wr) (fun _ _ _ => 0)
  case atStart => exact ⟨rfl, rfl, hba2⟩
  case round =>
    obtain ⟨rfl, rfl, hb⟩ := hrel
    go_wp2
    go_ret3
    exact ⟨rfl, hb⟩
end Go.Proofs.YtiohededmcfhjaaDoor
