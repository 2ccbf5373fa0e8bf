/- Walks of the reference's Vanish and Fit; attestref4.At. -/
import Derived.Test.YtiohededmcfhjaaDoorRq
set_option linter.unusedVariables false
namespace Go.Proofs.YtiohededmcfhjaaDoor
open Go.RowKit Zp

set_option maxRecDepth 100000 in
set_option maxHeartbeats 1000000 in
theorem rvanish_n (p : Nat) [NeZero p] (hp1 : 2 ≤ p) (hp2 : p ≤ 2147483647) (A : Option Addr) (na ca : Nat) (xs : List Int) (hna : xs.length = na) (hxs : ∀ n ∈ xs, I64 n) (hr : na ≤ 4294967296) (K : Int) (hK : I64 K) (w : World) (hsx : SL w A xs) :
    Calls Tryd.prog 16 #[vi p, .slice A na ca, vi K] w fun e w' => Made (fvs (vanL (butI (els p xs) K))) w e w' := by
  obtain ⟨l, hl⟩ : ∃ l, l = els p xs := ⟨_, rfl⟩
  rw [← hl]
  have hll : l.length = na := by rw [hl]; simp [hna]
  have hco : ∀ k (hk : k < xs.length) (hk' : k < l.length), l[k] = el p xs[k] := fun k hk hk' => by simp [hl]
  have hone : own_lit w w.heap.size [1] (Nat.le_refl _) (by simp [maxLen]) = own_lit w w.heap.size [1] (Nat.le_refl _) (by simp [maxLen]) := rfl
  have ho1 : Own (w.alloc (.cells #[vi 1] 3)) w.heap.size (.slice (some ⟨w.heap.size, 0, none⟩) 1 1) (fvs (vanL (butI (l.take 0) K))) := by
    have h := own_lit w w.heap.size [1] (Nat.le_refl _) (by simp [maxLen])
    have e : fvs (vanL (butI (l.take 0) K)) = [1] := by rw [List.take_zero, butI_nil, vanL]; simp [fv_one hp1]
    rw [e]; exact h
  have HO1 := Lib.hid ho1
  have HLL := Lib.hid hll
  have HCO := Lib.hid hco
  have HNA := Lib.hid hna
  clear hl hll hna hco hone ho1
  go_enter Tryd.func16, Tryd.ntmps16
  go_wp2
  go_loopw [7, 8, 9] (fun v i _ wr => ∃ k : Nat, k ≤ na ∧ i = vi k ∧ Own wr w.heap.size v (fvs (vanL (butI (l.take k) K))) ∧ Below w.heap.size w wr) (fun _ i _ _ => na - (intOf i).toNat)
  case atStart => exact ⟨0, Nat.zero_le _, rfl, HO1.out, (Below.refl _ _).alloc (Nat.le_refl _) _⟩
  case round =>
    obtain ⟨k, hk, rfl, hown, hb⟩ := hrel
    by_cases hkn : k < na
    · have hkl : k < l.length := by rw [HLL.out]; exact hkn
      by_cases hkK : (k : Int) = K
      · have hst := butI_hit l k hkl K hkK
        rw [← hst] at hown
        have HOWN := Lib.hid hown
        clear hst hown
        have t1 : ((k : Int) == K) = true := by rw [beq_iff_eq]; exact hkK
        clear hkK
        go_wp2
        go_roundw
        case rel => exact ⟨k + 1, by omega, by go_num, HOWN.out, hb⟩
        case measure => simp [intOf]; omega
      · have t1 : ((k : Int) == K) = false := by rw [beq_eq_false_iff_ne]; exact hkK
        have hkx : k < xs.length := by rw [HNA.out]; exact hkn
        obtain ⟨ad, rfl, hab, hcell⟩ := (hsx.below hb).at_ hkx
        have hI := hxs _ (List.getElem_mem hkx)
        have hst := butI_miss l k hkl K hkK
        have hst2 := vanL_snoc (butI (l.take k) K) (l[k])
        rw [← hst, HCO.out k hkx hkl] at hst2
        generalize xs[k] = x at hcell hI hst2
        have hlen : (vanL (butI (l.take k) K)).length ≤ 4294967297 := by
          have h1 := vanL_length (butI (l.take k) K)
          have h2 : (butI (l.take k) K).length ≤ k := by
            unfold butI
            split
            · have := List.length_eraseIdx_le (l.take k) K.toNat
              rw [List.length_take] at this; omega
            · rw [List.length_take]; omega
          omega
        have hsub := fun W => rsub_any p hp2 0 x (by constructor <;> decide) hI W
        rw [el_zero] at hsub
        rw [vanS] at hst2
        generalize hV : vanL (butI (l.take k) K) = V at hown hlen hst2
        obtain ⟨A1, n1, c1, rfl, hl1, hc1, _, hs1⟩ := hown.shapeN
        have hn1 : n1 ≤ 4294967297 := by rw [← hl1, List.length_map]; exact hlen
        have ht := fun W hs hs' => rtimes_n p hp2 A1 (some ⟨wr.heap.size, 0, none⟩) n1 c1 2 2 (fvs V) [fv (0 - el p x), 1] hl1 rfl (i64_fvsR _ hp2) (by intro y hy; rcases List.mem_cons.1 hy with rfl | hy; exact i64_fv _ hp2; rw [List.mem_singleton] at hy; subst hy; constructor <;> decide) (by omega) W hs hs'
        have e2 : els p [fv (0 - el p x), 1] = [0 - el p x, 1] := by simp [el_fv, el_one]
        simp only [els_fvs, e2] at ht
        rw [← hst2] at ht
        have hs2 := sl_lit' wr [fv (0 - el p x), 1]
        have hba : Below wr.heap.size wr (wr.alloc (.cells #[vi (fv (0 - el p x)), vi 1] 3)) := (Below.refl _ _).alloc (Nat.le_refl _) _
        have HT := Lib.hid (ht _ (hs1.below hba) hs2)
        have HSUB := Lib.hid hsub
        clear ht hst hst2 hsub e2 hV hl1 hlen hown hkK hs2
        go_wp2_with fail
        refine (HSUB.out _).mono ?_
        rintro e w' ⟨rfl, rfl⟩
        go_wp2_with fail
        refine (HT.out).mono ?_
        rintro e w2 ⟨v2, rfl, hown2, hb2⟩
        have hbel2 := hb.trans ((hba.trans (hb2.mono hba.size)).mono hb.size)
        have hown3 := hown2.more (Nat.le_trans hb.size hba.size)
        clear hown2 hb2
        go_wp2
        go_roundw
        case rel => exact ⟨k + 1, by omega, by go_num, hown3, hbel2⟩
        case measure => simp [intOf]; omega
    · obtain rfl : k = na := by omega
      rw [List.take_of_length_le (by rw [HLL.out]; exact Nat.le_refl _)] at hown
      go_wp2
      go_ret
      exact ⟨_, rfl, hown, hb⟩

/-- a list that meets the points is handed back -/
def MadeFit (p : Nat) [NeZero p] (xs ys : List (Fin p)) (w : World) (e : Ending) (w' : World) : Prop := ∃ o : List (Fin p), Fitted xs ys xs.length o ∧ Made (fvs o) w e w'

set_option maxRecDepth 100000 in
set_option maxHeartbeats 1000000 in
theorem rfit_n (p : Nat) [NeZero p] (hp : IsPrime p) (hp1 : 2 ≤ p) (hp2 : p ≤ 2147483647) (A B : Option Addr) (na ca cb : Nat) (xs ys : List Int) (hna : xs.length = na) (hnb : ys.length = na) (hxs : ∀ n ∈ xs, I64 n) (hys : ∀ n ∈ ys, I64 n) (hr : na ≤ 2147483648) (hnd : (els p xs).Nodup) (w : World) (hsx : SL w A xs) (hsy : SL w B ys) :
    Calls Tryd.prog 14 #[vi p, .slice A na ca, .slice B na cb] w fun e w' => MadeFit p (els p xs) (els p ys) w e w' := by
  obtain ⟨l, hl⟩ : ∃ l, l = els p xs := ⟨_, rfl⟩
  obtain ⟨m, hm⟩ : ∃ m, m = els p ys := ⟨_, rfl⟩
  have hll : l.length = na := by rw [hl]; simp [hna]
  have hco : ∀ k (hk : k < xs.length), co l k = el p xs[k] := fun k hk => by rw [hl, co_of_lt (by simpa using hk)]; simp
  have hcm : ∀ k (hk : k < ys.length), co m k = el p ys[k] := fun k hk => by rw [hm, co_of_lt (by simpa using hk)]; simp
  have hvan := fun (K : Int) hK W hs => rvanish_n p hp1 hp2 A na ca xs hna hxs (by omega) K hK W hs
  rw [← hl] at hvan hnd ⊢
  rw [← hm]
  have HLL := Lib.hid hll
  have HCO := Lib.hid hco
  have HCM := Lib.hid hcm
  have HNA := Lib.hid hna
  have HNB := Lib.hid hnb
  have HVAN := Lib.hid hvan
  have HND := Lib.hid hnd
  have HP := Lib.hid hp
  clear hl hm hll hna hnb hco hcm hvan hnd hp
  go_enter Tryd.func14, Tryd.ntmps14
  go_wp2
  go_loopw [7, 8, 9, 10, 11, 12] (fun v i _ _ _ _ wr => ∃ (k : Nat) (o : List (Fin p)), k ≤ na ∧ i = vi k ∧ Fitted l m k o ∧ Own wr w.heap.size v (fvs o) ∧ Below w.heap.size w wr) (fun _ i _ _ _ _ _ => na - (intOf i).toNat)
  case atStart => exact ⟨0, [], Nat.zero_le _, rfl, Fitted.start _ _, World.ownsRow_nil _ _ _ _, Below.refl _ _⟩
  case round =>
    obtain ⟨k, o, hk, rfl, hfit, hown, hb⟩ := hrel
    by_cases hkn : k < na
    · have hkx : k < xs.length := by rw [HNA.out]; exact hkn
      have hky : k < ys.length := by rw [HNB.out]; exact hkn
      have hkl : k < l.length := by rw [HLL.out]; exact hkn
      have hsx' := hsx.below hb
      have hsy' := hsy.below hb
      have hIx := hxs _ (List.getElem_mem hkx)
      have hIy := hys _ (List.getElem_mem hky)
      have hst := hfit.step HP.out HND.out hkl
      rw [HCO.out k hkx, HCM.out k hky] at hst
      have hvan := HVAN.out (k : Int) (by constructor <;> omega) _ hsx'
      have hVl : (vanL (butI l (k : Int))).length ≤ 4294967296 := by
        have h1 := vanL_length (butI l (k : Int))
        have h2 := butI_length l k hkl
        rw [HLL.out] at h2; omega
      have hol : o.length ≤ 4294967296 := by have := hfit.len; rw [HLL.out] at this; omega
      generalize vanL (butI l (k : Int)) = V at hst hvan hVl
      have hcx : ∀ W, Below wr.heap.size wr W → ∃ ad, A = some ad ∧ W.cell? (ad.add k) = some (vi xs[k]) := fun W hW => by
        obtain ⟨ad, h1, _, h2⟩ := (hsx'.below hW).at_ hkx
        exact ⟨ad, h1, h2⟩
      have hcy : ∀ W, Below wr.heap.size wr W → ∃ ad, B = some ad ∧ W.cell? (ad.add k) = some (vi ys[k]) := fun W hW => by
        obtain ⟨ad, h1, _, h2⟩ := (hsy'.below hW).at_ hky
        exact ⟨ad, h1, h2⟩
      generalize xs[k] = x at hcx hIx hst
      generalize ys[k] = y at hcy hIy hst
      have hev := fun (C : Option Addr) (nc cc : Nat) hl hr W hs => reval_n p hp1 hp2 C nc cc (fvs V) hl (i64_fvsR _ hp2) hr x hIx W hs
      have hdiv := fun W => rdiv_any p hp1 hp2 y (fv (ev V (el p x))) hIy (i64_fv _ hp2) W
      have hsc := fun (C : Option Addr) (nc cc : Nat) hl hr W hs => rscaled_n p hp2 C nc cc (fvs V) hl (i64_fvsR _ hp2) (fv (el p y * Zp.inv (ev V (el p x)))) (i64_fv _ hp2) 0 (by omega) hr W hs
      simp only [els_fvs, el_fv] at hev hdiv hsc
      have hsl := sclL_length V (el p y * Zp.inv (ev V (el p x))) 0
      generalize sclL V (el p y * Zp.inv (ev V (el p x))) 0 = S at hst hsc hsl
      generalize el p y * Zp.inv (ev V (el p x)) = Q at hdiv hsc
      generalize ev V (el p x) = E at hev hdiv
      obtain ⟨A0, n0, c0, rfl, hl0, hc0, _, hs0⟩ := hown.shapeN
      have hpl := fun (C : Option Addr) (nc cc : Nat) hl hr W hsx' hsy' => rplus_n p hp2 A0 C n0 c0 nc cc (fvs o) (fvs S) hl0 hl (i64_fvsR _ hp2) (i64_fvsR _ hp2) (by rw [← hl0, List.length_map]; omega) hr W hsx' hsy'
      simp only [els_fvs] at hpl
      generalize trimL (addL o S) = O2 at hpl hst
      have HST := Lib.hid hst
      have HV := Lib.hid hvan
      have HEV := Lib.hid hev
      have HDIV := Lib.hid hdiv
      have HSC := Lib.hid hsc
      have HPL := Lib.hid hpl
      have HCX := Lib.hid hcx
      have HCY := Lib.hid hcy
      have HVL := Lib.hid hVl
      have HSL := Lib.hid hsl
      clear hst hvan hev hdiv hsc hpl hcx hcy hVl hol hl0 hown hsl
      go_wp2_with fail
      refine (HV.out).mono ?_
      rintro e w1 ⟨v1, rfl, hown1, hb1⟩
      obtain ⟨A1, n1, c1, rfl, hl1, hc1, _, hs1⟩ := hown1.shapeN
      have hn1 : n1 ≤ 4294967296 := by rw [← hl1, List.length_map]; exact HVL.out
      have HL1 := Lib.hid hl1
      obtain ⟨ad, rfl, hcell⟩ := HCX.out _ hb1
      obtain ⟨ad2, rfl, hcell2⟩ := HCY.out _ hb1
      have i1 : (0 : Int) ≤ (k : Int) := by omega
      have i2 : (k : Int) < na := by omega
      clear hl1 hown1
      go_wp2_with fail
      refine (HEV.out A1 n1 c1 HL1.out (by omega) _ hs1).mono ?_
      rintro e w' ⟨rfl, rfl⟩
      go_wp2_with fail
      refine (HDIV.out _).mono ?_
      rintro e w' ⟨rfl, rfl⟩
      go_wp2_with fail
      refine (HSC.out A1 n1 c1 HL1.out (by omega) _ hs1).mono ?_
      rintro e w2 ⟨v2, rfl, hown2, hb2⟩
      obtain ⟨A2, n2, c2, rfl, hl2, hc2, _, hs2⟩ := hown2.shapeN
      have hn2 : n2 ≤ 8589934592 := by
        have h1 := HSL.out
        have h2 := HVL.out
        rw [List.length_map] at hl2; omega
      have HL2 := Lib.hid hl2
      clear hl2 hown2
      go_wp2_with fail
      refine (HPL.out A2 n2 c2 HL2.out (Nat.le_trans hn2 (by decide)) _ ((hs0.below hb1).below hb2) hs2).mono ?_
      rintro e w3 ⟨v3, rfl, hown3, hb3⟩
      have hb12 := hb1.trans (hb2.mono hb1.size)
      have hb13 := hb12.trans (hb3.mono hb12.size)
      have hbel := hb.trans (hb13.mono hb.size)
      have hown4 := hown3.more (Nat.le_trans hb.size hb12.size)
      clear hown3 hb3 hb2
      go_wp2
      go_roundw
      case rel => exact ⟨k + 1, O2, by omega, by go_num, HST.out, hown4, hbel⟩
      case measure => simp [intOf]; omega
    · obtain rfl : k = na := by omega
      go_wp2
      go_ret
      exact ⟨o, by rw [HLL.out]; exact hfit, _, rfl, hown, hb⟩
end Go.Proofs.YtiohededmcfhjaaDoor
