/- The walk of law3.SpongeSpreads. -/
import Derived.Test.YtabhndfdioimcaaLv3
import Derived.Test.YtabhndfdioimcaaDf
import Derived.Test.YtabhndfdioimcaaArg
set_option linter.unusedVariables false
namespace Go.Proofs.Ytabhndfdioimcaa
open Go.RowKit Zp

theorem sl8 {w : World} {A : Option Addr} {xs : List Int} (h : SL w A xs) (h8 : xs.length = 8) : ∃ ad, A = some ad ∧ ad.block < w.heap.size ∧ ∀ i, i < 8 → w.cell? (ad.add i) = some (vi (xs.getD i 0)) := by
  obtain ⟨ad, e, hb, hc⟩ := h.2 (by omega)
  refine ⟨ad, e, hb, fun i hi => hc i _ ?_⟩
  have hi' : i < xs.length := by omega
  simp [List.getD, hi']
theorem nzN_congr {p : Nat} [NeZero p] {u v : Nat → Fin p} (h : ∀ i, i < 8 → u i = v i) : nzN u = nzN v := by
  unfold nzN
  congr 1
  apply List.filter_congr
  intro j hj
  rw [h j (by simpa using hj)]
theorem i64_getD3 {xs : List Int} (h : ∀ x ∈ xs, I64 x) (i : Nat) : I64 (xs.getD i 0) := by
  rcases Nat.lt_or_ge i xs.length with hi | hi
  · simp only [List.getD, List.getElem?_eq_getElem hi, Option.getD_some]
    exact h _ (List.getElem_mem hi)
  · simp only [List.getD, List.getElem?_eq_none hi, Option.getD_none]
    constructor <;> omega
set_option maxRecDepth 100000 in
set_option maxHeartbeats 2000000 in
theorem spongeSpreads_walk (w : World) (p : Int) (hp : I64 p) (A : Option Addr) (na ca : Nat) (xs : List Int) (ha : ArgS w A na ca xs) (B : Option Addr) (nb cb : Nat) (ys : List Int) (hb : ArgS w B nb cb ys) :
    Calls Try.prog 3 #[vi p, .slice A na ca, .slice B nb cb] w fun e w' => SaysW (.bool true) w e w' := by
  have hl := lives3_any w
  have HL := Lib.hid hl
  have HA := Lib.hid ha
  have HB := Lib.hid hb
  clear hl ha hb
  go_enter Try.func3, Try.ntmps3
  go_wp2_with fail
  refine (HL.out).mono ?_
  rintro _ w1 ⟨rfl, hb1⟩
  have HB1 := Lib.hid hb1
  clear hb1
  go_wp2_with fail
  refine (plain3_any p w1).mono ?_
  intro e w2 h
  cases h with
  | no h he hw =>
    subst he
    go_wp2
    go_ret
    exact ⟨rfl, HB1.out.trans (hw.mono HB1.out.size)⟩
  | yes n hn h23 hm hpn hw hF =>
    subst hn
    haveI := hpn.ne
    obtain ⟨S, s, b, k, z, oo, rfl, F, G, hs1, hs2⟩ := hF inferInstance
    have HW := Lib.hid (HB1.out.trans (hw.mono HB1.out.size))
    by_cases h8 : na = 8
    · by_cases g8 : nb = 8
      · subst h8 g8
        have HFF := Lib.hid F
        have HGG := Lib.hid G
        clear F G hF
        obtain ⟨ad, rfl, had, hca⟩ := sl8 (HA.out.sl.below HW.out) HA.out.len
        obtain ⟨bd, rfl, hbd, hcb⟩ := sl8 (HB.out.sl.below HW.out) HB.out.len
        have hm1 := mix_any n S b s k z oo ad ca (fun i => xs.getD i 0) (i64_getD3 HA.out.i64) w2 HFF.out HGG.out had hca
        have HM1 := Lib.hid hm1
        have HBD := Lib.hid (⟨hbd, hcb⟩ : _ ∧ _)
        clear hm1 hca hcb
        go_wp2_with fail
        refine (HM1.out).mono ?_
        rintro _ w3 ⟨v3, rfl, ho3, hb3⟩
        have hm2 := mix_any n S b s k z oo bd cb (fun i => ys.getD i 0) (i64_getD3 HB.out.i64) w3 (HFF.out.below hb3 HFF.out.le) (HGG.out.below hb3 hs2) (Nat.lt_of_lt_of_le hbd hb3.size) (fun i hi => (hb3.cell (p := bd.add i) (by unfold Addr.add; split <;> exact hbd)).trans (HBD.out.2 i hi))
        have HM2 := Lib.hid hm2
        have HB3 := Lib.hid hb3
        clear hm2 hb3
        go_wp2_with fail
        refine (HM2.out).mono ?_
        rintro _ w4 ⟨v4, rfl, ho4, hb4⟩
        obtain ⟨A3, n3, c3, rfl, hl3, hc3, _, hs3⟩ := ho3.shapeN
        obtain ⟨A4, n4, c4, rfl, hl4, hc4, _, hs4⟩ := ho4.shapeN
        have e3 : n3 = 8 := by rw [← hl3]; simp
        have e4 : n4 = 8 := by rw [← hl4]; simp
        subst e3 e4
        obtain ⟨a3, rfl, h3b, h3c⟩ := sl8 (hs3.below hb4) (by simp)
        obtain ⟨a4, rfl, h4b, h4c⟩ := sl8 hs4 (by simp)
        have hb24 := HB3.out.trans (hb4.mono HB3.out.size)
        have hd1 := differ_any n hm ad bd ca cb (fun i => xs.getD i 0) (fun i => ys.getD i 0) (i64_getD3 HA.out.i64) (i64_getD3 HB.out.i64) w4 (fun i hi => (hb24.cell (p := ad.add i) (by unfold Addr.add; split <;> exact had)).trans ((sl8 (HA.out.sl.below HW.out) HA.out.len).elim fun ad' h => by obtain ⟨he, _, hc⟩ := h; injection he with he; subst he; exact hc i hi)) (fun i hi => (hb24.cell (p := bd.add i) (by unfold Addr.add; split <;> exact hbd)).trans (HBD.out.2 i hi))
        have hd2 := differ_any n hm a3 a4 c3 c4 _ _ (i64_getD3 (by intro x hx; obtain ⟨i, _, rfl⟩ := List.mem_map.1 hx; exact i64_fv _ hm)) (i64_getD3 (by intro x hx; obtain ⟨i, _, rfl⟩ := List.mem_map.1 hx; exact i64_fv _ hm)) w4 h3c h4c
        have HD1 := Lib.hid hd1
        have HD2 := Lib.hid hd2
        clear hd1 hd2 ho3 ho4 hs3 hs4 h3c h4c hl3 hl4
        have hN2 : nzN (fun i => el n (((List.range 8).map fun i => fv (ap (cauchy n) (fun j => el n (xs.getD j 0)) i)).getD i 0) - el n (((List.range 8).map fun i => fv (ap (cauchy n) (fun j => el n (ys.getD j 0)) i)).getD i 0)) = nzN (ap (cauchy n) fun j => el n (xs.getD j 0) - el n (ys.getD j 0)) := by
          refine nzN_congr fun i hi => ?_
          rw [ap_sub]
          simp [List.getD, hi, el_fv]
        obtain ⟨D, hD⟩ : ∃ D : Nat → Fin n, D = fun j => el n (xs.getD j 0) - el n (ys.getD j 0) := ⟨_, rfl⟩
        rw [hN2] at HD2
        rw [← hD] at HD1 HD2
        obtain ⟨N1, h1⟩ : ∃ N1, N1 = nzN D := ⟨_, rfl⟩
        obtain ⟨N2, h2⟩ : ∃ N2, N2 = nzN (ap (cauchy n) D) := ⟨_, rfl⟩
        rw [← h1] at HD1
        rw [← h2] at HD2
        have hle1 : N1 ≤ 8 := h1 ▸ nzN_le _
        have hle2 : N2 ≤ 8 := h2 ▸ nzN_le _
        have hWW := HW.out.trans (hb24.mono HW.out.size)
        have HWW := Lib.hid hWW
        by_cases z1 : N1 = 0
        · have z2 : N2 = 0 := by
            rw [h2, nzN_zero]
            intro j hj
            exact ap_zero _ (nzN_zero.1 (h1 ▸ z1)) j
          subst z1 z2
          clear h1 h2 hD hN2 hb24 hWW hle1 hle2
          go_wp2_with (refine (HD1.out).mono ?_; rintro _ _ ⟨rfl, rfl⟩; clear HD1)
          go_wp2_with (refine (HD2.out).mono ?_; rintro _ _ ⟨rfl, rfl⟩; clear HD2)
          go_ret
          exact ⟨rfl, HWW.out⟩
        · have hs := spreads hpn h23 D (by omega)
          rw [← h1, ← h2] at hs
          have t1 : ((N1 : Int) == 0) = false := by rw [beq_eq_false_iff_ne]; omega
          have k1 : (0 : Int) ≤ N1 := by omega
          have k2 : (N1 : Int) ≤ 8 := by omega
          have k3 : (0 : Int) ≤ N2 := by omega
          have k4 : (N2 : Int) ≤ 8 := by omega
          have k5 : (9 : Int) ≤ (N1 : Int) + (N2 : Int) := by omega
          clear h1 h2 hD hN2 hb24 hWW hle1 hle2 z1 hs
          go_wp2_with (refine (HD1.out).mono ?_; rintro _ _ ⟨rfl, rfl⟩; clear HD1)
          go_wp2_with (refine (HD2.out).mono ?_; rintro _ _ ⟨rfl, rfl⟩; clear HD2)
          go_ret
          exact ⟨by simp, HWW.out⟩
      · have t1 : ((na : Int) != 8) = false := by rw [h8]; rfl
        have t2 : ((nb : Int) != 8) = true := by rw [bne_iff_ne]; omega
        clear h8 g8 F G hF
        go_wp2
        go_ret
        exact ⟨rfl, HW.out⟩
    · have t1 : ((na : Int) != 8) = true := by rw [bne_iff_ne]; omega
      clear h8 F G hF
      go_wp2
      go_ret
      exact ⟨rfl, HW.out⟩
end Go.Proofs.Ytabhndfdioimcaa
