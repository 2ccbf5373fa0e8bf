/- The walk of law3.ChainForks. -/
import Derived.Test.YtabhndfdioimcaaLv3
import Derived.Test.YtabhndfdioimcaaCh
import Derived.Test.YtabhndfdioimcaaArg
import Derived.Test.YtabhndfdioimcaaInts
set_option linter.unusedVariables false
namespace Go.Proofs.Ytabhndfdioimcaa
open Go.RowKit Zp

/-- where a chain's memory is kept by what is done to a later one -/
theorem below_step {c : Nat} {w w' : World} (h : w.grownBy w' (some c)) (hc : c ≤ w.heap.size) : Below c w w' := (Below.refl c w).grown h hc (fun k hk => by injection hk with hk; omega)
set_option maxRecDepth 100000 in
set_option maxHeartbeats 4000000 in
theorem chainForks_walk (w : World) (p : Int) (hp : I64 p) (A : Option Addr) (na ca : Nat) (xs : List Int) (ha : ArgS w A na ca xs) (B : Option Addr) (nb cb : Nat) (ys : List Int) (hb : ArgS w B nb cb ys) (C : Option Addr) (nc cc : Nat) (zs : List Int) (hc : ArgS w C nc cc zs) (n : Int) (hn : I64 n) :
    Calls Try.prog 5 #[vi p, .slice A na ca, .slice B nb cb, .slice C nc cc, vi n] w fun e w' => SaysW (.bool true) w e w' := by
  have hl := lives3_any w
  have HL := Lib.hid hl
  have HA := Lib.hid ha
  have HB := Lib.hid hb
  have HC := Lib.hid hc
  have HN := Lib.hid hn
  have ra : na * 8 ≤ 140737488351232 := by rw [← ha.len]; exact ha.r8
  have rb : nb * 8 ≤ 140737488351232 := by rw [← hb.len]; exact hb.r8
  have rc : nc * 8 ≤ 140737488351232 := by rw [← hc.len]; exact hc.r8
  clear hl ha hb hc hn
  go_enter Try.func5, Try.ntmps5
  go_wp2_with fail
  refine (HL.out).mono ?_
  rintro _ w1 ⟨rfl, hb1⟩
  have HB1 := Lib.hid hb1
  clear hb1
  go_wp2_with fail
  refine (plain3_any p w1).mono ?_
  intro e w2 h
  cases h with
  | no h he hw =>
    subst he
    go_wp2
    go_ret
    exact ⟨rfl, HB1.out.trans (hw.mono HB1.out.size)⟩
  | yes q hq h23 hm hpq hw hF =>
    subst hq
    haveI := hpq.ne
    obtain ⟨S, s, b, k, z, oo, rfl, F, G, hs1, hs2⟩ := hF inferInstance
    have HW := Lib.hid (HB1.out.trans (hw.mono HB1.out.size))
    have hSw := F.le
    have HF := Lib.hid F
    have HG := Lib.hid G
    have HC2 := Lib.hid (chnew_any q S b s k z oo A na ca xs HA.out.len HA.out.i64 ra w2 F G (HA.out.sl.below HW.out))
    clear F G hF hw
    -- c
    go_wp2_with fail
    refine (HC2.out).mono ?_
    rintro _ w3 ⟨rfl, hc3, hb3⟩
    obtain ⟨c, hcc⟩ : ∃ c, c = w2.heap.size := ⟨_, rfl⟩
    rw [← hcc] at hc3 ⊢
    have hb3' : Below c w2 w3 := by rw [hcc]; exact hb3
    have hSc : S ≤ c := by omega
    have hsc : s < c := by omega
    have hc3l := hc3.lt
    have hbw3 := HW.out.trans (hb3.mono HW.out.size)
    have hwc : w.heap.size ≤ c := by rw [hcc]; exact HW.out.size
    have HT3 := Lib.hid (chtake_any q S b s k z c oo _ B nb cb ys HB.out.len HB.out.i64 rb w3 (HF.out.below hb3' hSc) (HG.out.below hb3' hsc) hSc hsc hc3 (HB.out.sl.below hbw3))
    have HK3 := Lib.hid hb3'
    have HW3 := Lib.hid hbw3
    clear hb3 hb3' hc3 hbw3 hcc
    go_wp2_with fail
    refine (HT3.out).mono ?_
    rintro _ w4 ⟨⟨r4, rfl⟩, hc4, hg4, _⟩
    have hk4 : Below c w2 w4 := HK3.out.trans (below_step hg4 (by omega))
    have hbw4 : Below w.heap.size w w4 := HW3.out.trans ((below_step hg4 (by omega)).mono hwc)
    obtain ⟨D, hD⟩ : ∃ D, D = digL q k (3 :: (digL q k (2 :: xs) ++ ys)) := ⟨_, rfl⟩
    rw [← hD] at hc4
    have HC4 := Lib.hid hc4
    have HK4 := Lib.hid hk4
    have HW4 := Lib.hid hbw4
    clear hc4 hk4 hbw4 hg4 hD
    -- d, e
    go_wp2_with fail
    refine (chfork_any c s D w4 HC4.out).mono ?_
    rintro _ w5 ⟨d, rfl, hd5, hd, hb5⟩
    have hc5 := HC4.out.below hb5
    have hcd : c < d := Nat.lt_of_lt_of_le HC4.out.lt hd
    have HK5 := Lib.hid (HK4.out.trans (hb5.mono (Nat.le_of_lt HC4.out.lt)))
    have HW5 := Lib.hid (HW4.out.trans (hb5.mono HW4.out.size))
    have HC5 := Lib.hid hc5
    have HD5 := Lib.hid hd5
    clear hb5 hc5 hd5
    go_wp2_with fail
    refine (chfork_any c s D w5 HC5.out).mono ?_
    rintro _ w6 ⟨e, rfl, he6, he, hb6⟩
    have hc6 := HC5.out.below hb6
    have hd6 := HD5.out.below hb6
    have hde : d < e := Nat.lt_of_lt_of_le HD5.out.lt he
    have HK6 := Lib.hid (HK5.out.trans (hb6.mono (Nat.le_of_lt HC5.out.lt)))
    have HW6 := Lib.hid (HW5.out.trans (hb6.mono HW5.out.size))
    have HC6 := Lib.hid hc6
    have HD6 := Lib.hid hd6
    have HE6 := Lib.hid he6
    clear hb6 hc6 hd6 he6
    -- d.Take(b)
    have HT6 := Lib.hid (chtake_any q S b s k z d oo _ C nc cc zs HC.out.len HC.out.i64 rc w6 (HF.out.below HK6.out hSc) (HG.out.below HK6.out hsc) (by omega) (by omega) HD6.out (HC.out.sl.below HW6.out))
    go_wp2_with fail
    refine (HT6.out).mono ?_
    rintro _ w7 ⟨⟨r7, rfl⟩, hd7, hg7, _⟩
    obtain ⟨vd6, hod6⟩ := HD6.out.obj
    have HC7 := Lib.hid (HC6.out.far hod6 hg7 (by omega))
    have HE7 := Lib.hid (HE6.out.far hod6 hg7 (by omega))
    have hb67 := below_step hg7 (Nat.le_of_lt HD6.out.lt)
    have HK7 := Lib.hid (HK6.out.trans (hb67.mono (by omega)))
    have HW7 := Lib.hid (HW6.out.trans (hb67.mono (by omega)))
    have HD7 := Lib.hid hd7
    clear hod6 hg7 hb67 hd7 HT6
    -- d.Draw()
    have HT7 := Lib.hid (chdraw_any q S b s k z d oo _ w7 (HF.out.below HK7.out hSc) (HG.out.below HK7.out hsc) (by omega) (by omega) HD7.out)
    go_wp2_with fail
    refine (HT7.out).mono ?_
    rintro _ w8 ⟨rfl, hd8, hg8, _⟩
    obtain ⟨vd7, hod7⟩ := HD7.out.obj
    have HC8 := Lib.hid (HC7.out.far hod7 hg8 (by omega))
    have HE8 := Lib.hid (HE7.out.far hod7 hg8 (by omega))
    have hb78 := below_step hg8 (Nat.le_of_lt HD7.out.lt)
    have HK8 := Lib.hid (HK7.out.trans (hb78.mono (by omega)))
    have HW8 := Lib.hid (HW7.out.trans (hb78.mono (by omega)))
    clear hod7 hg8 hb78 hd8 HT7
    -- the end, from two chains that are alike
    have hend : ∀ (E : List Int) (W : World), Chn W c s E → Chn W e s E → Below c w2 W → Below w.heap.size w W → ∃ N : List Int, N.length = 3 ∧ Calls Try.prog 20 #[.pointer (some ⟨c, 0, none⟩), .int .i64 3] W (fun r W' => ∃ v, r = .returned v ∧ Own W' W.heap.size v N ∧ Below w.heap.size w W' ∧ Calls Try.prog 20 #[.pointer (some ⟨e, 0, none⟩), .int .i64 3] W' (fun r W'' => ∃ v', r = .returned v' ∧ Own W'' W.heap.size v N ∧ Own W'' W'.heap.size v' N ∧ Below w.heap.size w W'')) := by
      intro E W h1 h2 h3 h4
      refine ⟨drawsL q k E 3, by simp [drawsL], ?_⟩
      refine (chdraws_any q S b s k z c oo E 3 (by omega) (by omega) W (HF.out.below h3 hSc) (HG.out.below h3 hsc) hSc hsc h1).mono ?_
      rintro _ W' ⟨v, rfl, hv, hc', hg'⟩
      obtain ⟨vc, hoc⟩ := h1.obj
      have he' := h2.far hoc hg' (by omega)
      have hbs := below_step hg' (Nat.le_of_lt h1.lt)
      refine ⟨v, rfl, hv, h4.trans (hbs.mono hwc), ?_⟩
      refine (chdraws_any q S b s k z e oo E 3 (by omega) (by omega) W' (HF.out.below (h3.trans hbs) hSc) (HG.out.below (h3.trans hbs) hsc) (by omega) (by omega) he').mono ?_
      rintro _ W'' ⟨v', rfl, hv', he'', hg''⟩
      obtain ⟨ve, hoe⟩ := he'.obj
      have hbs' := below_step hg'' (Nat.le_of_lt he'.lt)
      refine ⟨v', rfl, ?_, hv', h4.trans ((hbs.mono hwc).trans (hbs'.mono (by omega)))⟩
      exact hv.grown hg'' (by
        rcases hv.2 with ⟨e0, _⟩ | ⟨g, cap, cur, e0, hbg, hh, _⟩
        · left; rw [e0]; rfl
        · right
          rw [e0]
          intro e2
          have e3 : g = e := by injection e2
          have := h2.lt
          omega)
    have HEND := Lib.hid hend
    clear hend
    by_cases hnr : 1 ≤ n ∧ n ≤ 65536
    · obtain ⟨n1, n2⟩ := hnr
      have HP8 := Lib.hid (chplace_any q S b s k z c oo D n n1 n2 w8 (HF.out.below HK8.out hSc) (HG.out.below HK8.out hsc) hSc hsc HC8.out)
      go_wp2_with fail
      refine (HP8.out).mono ?_
      rintro _ w9 ⟨rfl, hc9, hg9⟩
      obtain ⟨vc8, hoc8⟩ := HC8.out.obj
      have he9 := HE8.out.far hoc8 hg9 (by omega)
      have hb89 := below_step hg9 (Nat.le_of_lt HC8.out.lt)
      have HK9 := Lib.hid (HK8.out.trans hb89)
      have HW9 := Lib.hid (HW8.out.trans (hb89.mono hwc))
      have HC9 := Lib.hid hc9
      have HE9 := Lib.hid he9
      have HP9 := Lib.hid (chplace_any q S b s k z e oo D n n1 n2 w9 (HF.out.below HK9.out hSc) (HG.out.below HK9.out hsc) (by omega) (by omega) he9)
      clear hoc8 hg9 hb89 hc9 he9
      go_wp2_with fail
      refine (HP9.out).mono ?_
      rintro _ w10 ⟨rfl, he10, hg10⟩
      obtain ⟨ve9, hoe9⟩ := HE9.out.obj
      have hc10 := HC9.out.far hoe9 hg10 (by omega)
      have hb90 := below_step hg10 (Nat.le_of_lt HE9.out.lt)
      obtain ⟨N, hN3, hcalls⟩ := HEND.out _ w10 hc10 he10 (HK9.out.trans (hb90.mono (by omega))) (HW9.out.trans (hb90.mono (by omega)))
      have HN3 := Lib.hid hN3
      have HCA := Lib.hid hcalls
      generalize placeV q (drawnL q k D) n = X
      clear hc10 he10 hg10 hoe9 hb90 hN3 hcalls
      go_wp2_with fail
      refine (HCA.out).mono ?_
      rintro _ w11 ⟨v, rfl, hv, hb11, hcb⟩
      obtain ⟨A1, m1, k1, rfl, hl1, hc1, hm1, _⟩ := hv.shapeN
      have e1 : m1 = 3 := by rw [← hl1]; exact HN3.out
      subst e1
      have HCB := Lib.hid hcb
      clear hcb hv hl1 HCA
      go_wp2_with fail
      refine (HCB.out).mono ?_
      rintro _ w12 ⟨v', rfl, hv12, hv', hb12⟩
      obtain ⟨A2, m2, k2, rfl, hl2, hc2, hm2, hs2'⟩ := hv'.shapeN
      have e2 : m2 = 3 := by rw [← hl2]; exact HN3.out
      subst e2
      have hs1' : SL w12 A1 N := (Own.shape hv12).elim fun A h => by
        obtain ⟨c, e, _, _, _, h⟩ := h; injection e with e _ _; subst e; exact h
      have hi := ints_any A1 A2 k1 k2 N N (by rw [HN3.out]; omega) (by rw [HN3.out]; omega) w12 hs1' hs2'
      rw [eqB_true rfl, HN3.out] at hi
      have HI := Lib.hid hi
      have HB12 := Lib.hid hb12
      clear hi hv12 hv' hl2 hs1' hs2' hb12 HCB
      go_wp2_with fail
      refine (HI.out).mono ?_
      rintro _ _ ⟨rfl, j1, rfl⟩
      go_wp2
      go_ret
      exact ⟨rfl, below_drewN HB12.out _⟩
    · have hno : n < 1 ∨ 65536 < n := by omega
      have HP8 := Lib.hid (fun c W => chplace_no c n HN.out hno W)
      have HHN := Lib.hid hno
      clear hno hnr
      go_wp2_with fail
      refine (HP8.out c _).mono ?_
      rintro _ _ ⟨rfl, rfl⟩
      go_wp2_with fail
      refine (HP8.out e _).mono ?_
      rintro _ _ ⟨rfl, rfl⟩
      obtain ⟨N, hN3, hcalls⟩ := HEND.out _ w8 HC8.out HE8.out HK8.out HW8.out
      have HN3 := Lib.hid hN3
      have HCA := Lib.hid hcalls
      clear hN3 hcalls
      go_wp2_with fail
      refine (HCA.out).mono ?_
      rintro _ w11 ⟨v, rfl, hv, hb11, hcb⟩
      obtain ⟨A1, m1, k1, rfl, hl1, hc1, hm1, _⟩ := hv.shapeN
      have e1 : m1 = 3 := by rw [← hl1]; exact HN3.out
      subst e1
      have HCB := Lib.hid hcb
      clear hcb hv hl1 HCA
      go_wp2_with fail
      refine (HCB.out).mono ?_
      rintro _ w12 ⟨v', rfl, hv12, hv', hb12⟩
      obtain ⟨A2, m2, k2, rfl, hl2, hc2, hm2, hs2'⟩ := hv'.shapeN
      have e2 : m2 = 3 := by rw [← hl2]; exact HN3.out
      subst e2
      have hs1' : SL w12 A1 N := (Own.shape hv12).elim fun A h => by
        obtain ⟨c, e, _, _, _, h⟩ := h; injection e with e _ _; subst e; exact h
      have hi := ints_any A1 A2 k1 k2 N N (by rw [HN3.out]; omega) (by rw [HN3.out]; omega) w12 hs1' hs2'
      rw [eqB_true rfl, HN3.out] at hi
      have HI := Lib.hid hi
      have HB12 := Lib.hid hb12
      clear hi hv12 hv' hl2 hs1' hs2' hb12 HCB
      go_wp2_with fail
      refine (HI.out).mono ?_
      rintro _ _ ⟨rfl, j1, rfl⟩
      go_wp2
      go_ret
      exact ⟨rfl, below_drewN HB12.out _⟩
end Go.Proofs.Ytabhndfdioimcaa
