/- Walks of the reference's Coefficients and Is. -/
import Derived.Test.YtkhkoeibigpdnaaDoorQp
set_option linter.unusedVariables false
namespace Go.Proofs.YtkhkoeibigpdnaaDoor
open Go.RowKit Zp

set_option maxRecDepth 100000 in
set_option maxHeartbeats 1000000 in
theorem rcoefs_n (q : Nat) [NeZero q] (hq2 : 2 ≤ q) (hqm : q ≤ 2147483647) (n : Nat) (hn1 : 1 ≤ n) (hn : n ≤ 65536) (s r : Fin q) (A : Option Addr) (ca : Nat) (xs : List Int) (hml : xs.length = n) (hxs : ∀ x ∈ xs, I64 x) (w : World) (hs : SL w A xs) :
    Calls Tryd.prog 82 #[RDom q n (fv s) (fv r), .slice A n ca] w fun e w' => Made (fvs (trimL (coefL s r n (els q xs)))) w e w' := by
  obtain ⟨ad, rfl, ua, ub⟩ := hs.at_ (k := 0) (by omega)
  clear ua ub
  have hba : Below w.heap.size w (w.alloc (.cells #[vi q, vi n, vi (fv s), vi (fv r)] 31)) := (Below.refl _ _).alloc (Nat.le_refl _) _
  have hrd := RD.new w 31 q n (fv s) (fv r)
  have hlt : w.heap.size < (w.alloc (.cells #[vi q, vi n, vi (fv s), vi (fv r)] 31)).heap.size := by simp
  have hi1 := fun W => rinv_any q hq2 hqm (n : Int) ⟨by omega, by omega⟩ W
  have hi2 := fun W => rinv_any q hq2 hqm (fv r) (i64_fv _ hqm) W
  have hi3 := fun W => rinv_any q hq2 hqm (fv s) (i64_fv _ hqm) W
  simp only [el_fv] at hi2 hi3
  have hmulF := fun (x y : Fin q) W => rmul_any q hqm (fv x) (fv y) (i64_fv _ hqm) (i64_fv _ hqm) W
  simp only [el_fv] at hmulF
  have hmulC := fun (c : Int) (hc : I64 c) (y : Fin q) W => rmul_any q hqm c (fv y) hc (i64_fv _ hqm) W
  simp only [el_fv] at hmulC
  obtain ⟨l, hl⟩ : ∃ l, l = coefL s r n (els q xs) := ⟨_, rfl⟩
  rw [← hl]
  have hll : l.length = n := by rw [hl]; exact tab_length _ _
  obtain ⟨X, hX⟩ : ∃ X, X = els q xs := ⟨_, rfl⟩
  have hXl : X.length = n := by rw [hX, List.length_map, hml]
  have hXc : ∀ k (hk : k < xs.length) (hk' : k < X.length), X[k] = el q xs[k] := fun k hk hk' => by simp [hX]
  have hlc : ∀ k (hk : k < l.length), l[k] = ev X (pw (Zp.inv r) k) * (Zp.inv (el q (n : Int)) * pw (Zp.inv s) k) := fun k hk => by
    have hkn : k < n := by rw [← hll]; exact hk
    rw [← co_of_lt hk, hl, hX]
    unfold coefL
    rw [co_tab, if_pos hkn]
  generalize Zp.inv r = ir at hi2 hlc
  generalize Zp.inv s = is at hi3 hlc
  generalize Zp.inv (el q (n : Int)) = iN at hi1 hlc
  have HI1 := Lib.hid hi1
  have HI2 := Lib.hid hi2
  have HI3 := Lib.hid hi3
  have HMF := Lib.hid hmulF
  have HMC := Lib.hid hmulC
  have HLL := Lib.hid hll
  have HXL := Lib.hid hXl
  have HXC := Lib.hid hXc
  have HLC := Lib.hid hlc
  have HML := Lib.hid hml
  have f1 : fv (1 : Fin q) = 1 := fv_one hq2
  have HF1 := Lib.hid f1
  have HT := Lib.hid (fun B c W hB hW => rtrim_n q hqm B n c (fvs l) (by rw [List.length_map, hll]) (i64_fvsR l hqm) (by omega) hB W hW)
  have hels : els q (fvs l) = l := els_fvs l
  rw [hels] at HT
  clear hl hX hi1 hi2 hi3 hmulF hmulC hll hXl hXc hlc hml f1 hels
  go_enter Tryd.func82, Tryd.ntmps82
  go_wp2_with fail
  generalize w.alloc (.cells #[vi q, vi n, vi (fv s), vi (fv r)] 31) = w0 at hba hrd hlt ⊢
  obtain ⟨B, hB⟩ : ∃ B, B = w.heap.size := ⟨_, rfl⟩
  rw [← hB] at hrd hlt ⊢
  have HB := Lib.hid hB
  clear hB
  refine (HI1.out _).mono ?_
  rintro e w' ⟨rfl, rfl⟩
  have c0 := hrd.c0
  have c1 := hrd.c1
  have c2 := hrd.c2
  have c3 := hrd.c3
  go_wp2_with fail
  refine (HI2.out _).mono ?_
  rintro e w' ⟨rfl, rfl⟩
  go_wp2_with fail
  refine (HI3.out _).mono ?_
  rintro e w' ⟨rfl, rfl⟩
  clear c0 c1 c2 c3
  go_wp2
  go_loopw [5, 9, 10, 11, 12, 13, 14, 15, 16] (fun v tu sc i _ _ _ _ _ wr => ∃ k : Nat, k ≤ n ∧ i = vi k ∧ tu = vi (fv (pw ir k)) ∧ sc = vi (fv (iN * pw is k)) ∧ Own wr w0.heap.size v ((fvs l).take k) ∧ Below w0.heap.size w0 wr) (fun _ _ _ i _ _ _ _ _ _ => n - (intOf i).toNat)
  case atStart => exact ⟨0, Nat.zero_le _, rfl, by rw [pw_zero, HF1.out], by rw [pw_zero, mul_one_], World.ownsRow_nil _ _ _ _, Below.refl _ _⟩
  case round =>
    obtain ⟨k, hk, rfl, rfl, rfl, hown, hb⟩ := hrel
    have hrw := hrd.below hb hlt
    have c0 := hrw.c0
    have c1 := hrw.c1
    by_cases hkn : k < n
    · have hkl : k < l.length := by rw [HLL.out]; exact hkn
      have h2 := map_take_succ fv l k hkl
      rw [HLC.out k hkl] at h2
      have hm1 := fun W => HMF.out (pw ir k) ir W
      have hm2 := fun W => HMF.out (iN * pw is k) is W
      have hst1 : pw ir k * ir = pw ir (k + 1) := (pw_succ ir k).symm
      have hst2 : iN * pw is k * is = iN * pw is (k + 1) := by rw [pw_succ, mul_assoc_]
      rw [hst1] at hm1
      rw [hst2] at hm2
      have hlk : ((fvs l).take k).length < 17592186044416 := by
        have := List.length_take_le k (fvs l); omega
      have H2 := Lib.hid h2
      have HM1 := Lib.hid hm1
      have HM2 := Lib.hid hm2
      have HLK := Lib.hid hlk
      clear h2 hm1 hm2 hst1 hst2 hlk
      obtain ⟨TU', hTU⟩ : ∃ T, T = pw ir (k + 1) := ⟨_, rfl⟩
      obtain ⟨SC', hSC⟩ : ∃ T, T = iN * pw is (k + 1) := ⟨_, rfl⟩
      rw [← hTU] at HM1
      rw [← hSC] at HM2
      have HTU := Lib.hid hTU
      have HSC := Lib.hid hSC
      clear hTU hSC
      generalize pw ir k = TU at H2 HM1 ⊢
      generalize iN * pw is k = SC at H2 HM2 ⊢
      have hsW := hs.below (hba.trans (hb.mono hba.size))
      go_wp2
      go_loopw [12, 13, 14, 15] (fun po su j _ wi => ∃ (m h : Nat), m ≤ n ∧ j = vi m ∧ po = vi (fv (pw TU m)) ∧ su = vi (fv (ev (X.take m) TU)) ∧ wi = wr.drewN h) (fun _ _ j _ _ => n - (intOf j).toNat)
      case atStart => exact ⟨0, 0, Nat.zero_le _, rfl, by rw [pw_zero, HF1.out], rfl, rfl⟩
      case round =>
        obtain ⟨m, h, hm, rfl, rfl, rfl, rfl⟩ := hrel
        by_cases hmn : m < n
        · have hmx : m < xs.length := by rw [HML.out]; exact hmn
          have hmX : m < X.length := by rw [HXL.out]; exact hmn
          obtain ⟨ad2, hAD, hab, hcell⟩ := hsW.at_ hmx
          injection hAD with hAD
          subst hAD
          have hI := hxs _ (List.getElem_mem hmx)
          have hst : ev (X.take (m + 1)) TU = ev (X.take m) TU + el q xs[m] * pw TU m := by
            rw [List.take_succ_eq_append_getElem hmX, ev_snoc, HXC.out m hmx hmX, List.length_take]
            congr 3; omega
          have hpw := pw_succ TU m
          have hmul := fun W => HMC.out xs[m] hI (pw TU m) W
          have hmul2 := fun W => HMF.out (pw TU m) TU W
          rw [← hpw] at hmul2
          generalize xs[m] = c at hcell hI hst hmul
          generalize el q c * pw TU m = Z at hst hmul
          have z1 := fv_nonneg Z
          have z2 := fv_lt Z
          have z3 := fv_nonneg (ev (X.take m) TU)
          have z4 := fv_lt (ev (X.take m) TU)
          have hsum := fv_add (ev (X.take m) TU) Z
          rw [← hst] at hsum
          have HMUL := Lib.hid hmul
          have HMUL2 := Lib.hid hmul2
          have HSUM := Lib.hid hsum
          clear hmul hmul2 hsum hst hpw
          go_wp2
          go_quiet ((go_at_call 69; exact quiet_eq2 (HMUL.out _)))
          go_wp2_with fail
          refine (HMUL2.out _).mono ?_
          rintro e w' ⟨rfl, rfl⟩
          go_wp2
          go_roundw
          case rel => exact ⟨m + 1, _, by omega, by go_num, rfl, by rw [HSUM.out], rfl⟩
          case measure => simp [intOf]; omega
        · obtain rfl : m = n := by omega
          have he : X.take m = X := List.take_of_length_le (by rw [HXL.out]; exact Nat.le_refl _)
          have hmf := fun W => HMF.out (ev X TU) SC W
          have HE := Lib.hid he
          have HMV := Lib.hid hmf
          clear he hmf
          rw [HE.out]
          go_wp2_with fail
          refine (HMV.out _).mono ?_
          rintro e w' ⟨rfl, rfl⟩
          have hownh := hown.drewN h
          have hbh := below_drewN hb h
          go_wp2_with (at_builtin; refine wpList_app1 _ (fv (ev X TU * SC)) rfl _ _ rfl w0.heap.size _ _ rfl rfl hownh HLK.out hbh.size ?_; intro v' w1 hg; have hb1 := hg.below hbh hownh (Nat.le_refl _) hbh.size; have hr1 := hrd.below hb1 hlt; have d0 := hr1.c0; have d1 := hr1.c1)
          refine (HM1.out _).mono ?_
          rintro e w' ⟨rfl, rfl⟩
          go_wp2_with fail
          refine (HM2.out _).mono ?_
          rintro e w' ⟨rfl, rfl⟩
          go_wp2
          go_roundw
          case rel => exact ⟨k + 1, by omega, by go_num, by rw [HTU.out], by rw [HSC.out], by rw [← H2.out]; exact hg.own, hb1⟩
          case measure => simp [intOf]; omega
    · obtain rfl : k = n := by omega
      rw [List.take_of_length_le (by rw [List.length_map, HLL.out]; exact Nat.le_refl _)] at hown
      obtain ⟨A1, n1, c1', rfl, hl1, hc1, _, sl1⟩ := hown.shapeN
      rw [List.length_map, HLL.out] at hl1
      subst hl1
      have hbw := hba.trans (hb.mono hba.size)
      go_wp2_with fail
      refine (HT.out A1 c1' _ hc1 sl1).mono ?_
      rintro e w1 hm
      obtain ⟨v, rfl, ho1, hb1⟩ := made_boxed (by rw [← HB.out] at *; exact hbw) hm
      go_wp2
      go_ret
      exact ⟨v, rfl, ho1, hb1⟩
set_option maxHeartbeats 2000000 in
theorem ris_any (q : Nat) [NeZero q] (hq2 : 2 ≤ q) (hqm : q ≤ 2147483647) (n : Nat) (hn1 : 1 ≤ n) (hn : n ≤ 65536) (s : Fin q) (k : Int) (hk : I64 k) (A : Option Addr) (m ca : Nat) (xs : List Int) (hml : xs.length = m) (hxs : ∀ x ∈ xs, I64 x) (w : World) (hs : SL w A xs) :
    Calls Tryd.prog 38 #[RDom q n (fv s) (fv (rootI q n)), vi k, .slice A m ca] w fun e w' => SaysW (.bool (cwB q n s k xs)) w e w' := by
  obtain ⟨r, hr⟩ : ∃ r, r = rootI q (n : Int) := ⟨_, rfl⟩
  have hba : Below w.heap.size w (w.alloc (.cells #[vi q, vi n, vi (fv s), vi (fv r)] 31)) := (Below.refl _ _).alloc (Nat.le_refl _) _
  have hrd := RD.new w 31 q n (fv s) (fv r)
  have hc := fun (e : m = n) W hW => rcoefs_n q hq2 hqm n hn1 hn s r A ca xs (by rw [hml, e]) hxs W hW
  have hB1 : ∀ N : Nat, m = n → (fvs (trimL (coefL s r n (els q xs)))).length = N → (1 ≤ k ∧ k ≤ n) → cwB q n s k xs = decide ((N : Int) ≤ k) := fun N e e2 h => by
    rw [List.length_map] at e2
    unfold cwB
    rw [← hr, decide_eq_decide, e2]
    exact ⟨fun h => h.2.2, fun h' => ⟨h, by rw [hml, e], h'⟩⟩
  have hB2 : ¬ (1 ≤ k ∧ k ≤ n) → cwB q n s k xs = false := fun h => decide_eq_false (fun h' => h h'.1)
  have hB3 : ¬ m = n → cwB q n s k xs = false := fun h => decide_eq_false (fun h' => h (by rw [← hml]; exact h'.2.1))
  rw [← hr]
  generalize cwB q n s k xs = C at hB1 hB2 hB3 ⊢
  have HB1 := Lib.hid hB1
  have HB2 := Lib.hid hB2
  have HB3 := Lib.hid hB3
  have HC := Lib.hid hc
  have HML := Lib.hid hml
  clear hB1 hB2 hB3 hc hml hr
  have hsl := hs.below hba
  have d1 := hrd.c1
  by_cases h1 : k < 1
  · have t1 : decide (k < 1) = true := decide_eq_true h1
    have hC := Lib.hid (HB2.out (by omega))
    go_enter Tryd.func38, Tryd.ntmps38
    go_wp2
    go_ret
    exact ⟨ret_bool hC.out.symm, hba⟩
  · by_cases h2 : k > n
    · have t2 : decide ((n : Int) < k) = true := decide_eq_true h2
      have hC := Lib.hid (HB2.out (by omega))
      go_enter Tryd.func38, Tryd.ntmps38
      go_wp2
      go_ret
      exact ⟨ret_bool hC.out.symm, hba⟩
    · by_cases h3 : m = n
      · have H3 := Lib.hid h3
        have hB1 := Lib.hid (fun N h => HB1.out N h3 h (by omega))
        clear d1
        subst h3
        have HC2 := Lib.hid (HC.out rfl)
        clear HC
        go_enter Tryd.func38, Tryd.ntmps38
        have d0 := hrd.c0
        have d1 := hrd.c1
        have d2 := hrd.c2
        have d3 := hrd.c3
        go_wp2_with fail
        refine (HC2.out _ hsl).mono ?_
        rintro e w1 ⟨v, rfl, hown, hb1⟩
        obtain ⟨A1, n1, c1, rfl, hl1, _, _, _⟩ := hown.shapeN
        have hbw := hba.trans (hb1.mono hba.size)
        have hC := hB1.out n1 hl1
        clear hown hl1
        by_cases h4 : (n1 : Int) ≤ k
        · rw [decide_eq_true h4] at hC
          have HCC := Lib.hid hC
          clear hC
          go_wp2
          go_ret
          exact ⟨ret_bool HCC.out.symm, hbw⟩
        · have t5 : decide ((n1 : Int) ≤ k) = false := decide_eq_false h4
          rw [decide_eq_false h4] at hC
          clear h4
          have HCC := Lib.hid hC
          clear hC
          go_wp2
          go_ret
          exact ⟨ret_bool HCC.out.symm, hbw⟩
      · have hC := Lib.hid (HB3.out h3)
        have t3 : ((m : Int) != (n : Int)) = true := by rw [bne_iff_ne]; omega
        go_enter Tryd.func38, Tryd.ntmps38
        go_wp2
        go_ret
        exact ⟨ret_bool hC.out.symm, hba⟩
end Go.Proofs.YtkhkoeibigpdnaaDoor
