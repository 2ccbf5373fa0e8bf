/- A bundle of texts: Rv, At4, Rck, LawM3, Oa. -/
import Derived.Test.YtgmkcmahbefcoaaDoorB04
import Derived.Test.YtgmkcmahbefcoaaDoorB06
import Derived.Test.YtgmkcmahbefcoaaDoorB01
import Derived.Test.YtgmkcmahbefcoaaDoorB03
import Derived.Deep.RegionHeld3
import Derived.Test.YtgmkcmahbefcoaaDoorB05
import Derived.Test.YtgmkcmahbefcoaaDoorB02
import Derived.Lib.SmallJoins
import Derived.ChangeOld
import Derived.Below
import Derived.OpenShut
/- Walks of the reference's Vanish and Fit; attestref4.At. -/
set_option linter.unusedVariables false
namespace Go.Proofs.YtgmkcmahbefcoaaDoor
open Go.RowKit Zp

set_option maxRecDepth 100000 in
set_option maxHeartbeats 1000000 in
theorem rvanish_n (p : Nat) [NeZero p] (hp1 : 2 ≤ p) (hp2 : p ≤ 2147483647) (A : Option Addr) (na ca : Nat) (xs : List Int) (hna : xs.length = na) (hxs : ∀ n ∈ xs, I64 n) (hr : na ≤ 4194304) (K : Int) (hK : I64 K) (w : World) (hsx : SL w A xs) :
    Calls Tryd.prog 102 #[vi p, .slice A na ca, vi K] w fun e w' => Made (fvs (vanL (butI (els p xs) K))) w e w' := by
  obtain ⟨l, hl⟩ : ∃ l, l = els p xs := ⟨_, rfl⟩
  rw [← hl]
  have hll : l.length = na := by rw [hl]; simp [hna]
  have hco : ∀ k (hk : k < xs.length) (hk' : k < l.length), l[k] = el p xs[k] := fun k hk hk' => by simp [hl]
  have hone : own_lit w w.heap.size [1] (Nat.le_refl _) (by simp [maxLen]) = own_lit w w.heap.size [1] (Nat.le_refl _) (by simp [maxLen]) := rfl
  have ho1 : Own (w.alloc (.cells #[vi 1] 3)) w.heap.size (.slice (some ⟨w.heap.size, 0, none⟩) 1 1) (fvs (vanL (butI (l.take 0) K))) := by
    have h := own_lit w w.heap.size [1] (Nat.le_refl _) (by simp [maxLen])
    have e : fvs (vanL (butI (l.take 0) K)) = [1] := by rw [List.take_zero, butI_nil, vanL]; simp [fv_one hp1]
    rw [e]; exact h
  have HO1 := Lib.hid ho1
  have HLL := Lib.hid hll
  have HCO := Lib.hid hco
  have HNA := Lib.hid hna
  clear hl hll hna hco hone ho1
  go_enter Tryd.func102, Tryd.ntmps102
  go_wp2
  go_loopw [7, 8, 9] (fun v i _ wr => ∃ k : Nat, k ≤ na ∧ i = vi k ∧ Own wr w.heap.size v (fvs (vanL (butI (l.take k) K))) ∧ Below w.heap.size w wr) (fun _ i _ _ => na - (intOf i).toNat)
  case atStart => exact ⟨0, Nat.zero_le _, rfl, HO1.out, (Below.refl _ _).alloc (Nat.le_refl _) _⟩
  case round =>
    obtain ⟨k, hk, rfl, hown, hb⟩ := hrel
    by_cases hkn : k < na
    · have hkl : k < l.length := by rw [HLL.out]; exact hkn
      by_cases hkK : (k : Int) = K
      · have hst := butI_hit l k hkl K hkK
        rw [← hst] at hown
        have HOWN := Lib.hid hown
        clear hst hown
        have t1 : ((k : Int) == K) = true := by rw [beq_iff_eq]; exact hkK
        clear hkK
        go_wp2
        go_roundw
        case rel => exact ⟨k + 1, by omega, by go_num, HOWN.out, hb⟩
        case measure => simp [intOf]; omega
      · have t1 : ((k : Int) == K) = false := by rw [beq_eq_false_iff_ne]; exact hkK
        have hkx : k < xs.length := by rw [HNA.out]; exact hkn
        obtain ⟨ad, rfl, hab, hcell⟩ := (hsx.below hb).at_ hkx
        have hI := hxs _ (List.getElem_mem hkx)
        have hst := butI_miss l k hkl K hkK
        have hst2 := vanL_snoc (butI (l.take k) K) (l[k])
        rw [← hst, HCO.out k hkx hkl] at hst2
        generalize xs[k] = x at hcell hI hst2
        have hlen : (vanL (butI (l.take k) K)).length ≤ 4194305 := by
          have h1 := vanL_length (butI (l.take k) K)
          have h2 : (butI (l.take k) K).length ≤ k := by
            unfold butI
            split
            · have := List.length_eraseIdx_le (l.take k) K.toNat
              rw [List.length_take] at this; omega
            · rw [List.length_take]; omega
          omega
        have hsub := fun W => rsub_any p hp2 0 x (by constructor <;> decide) hI W
        rw [el_zero] at hsub
        rw [vanS] at hst2
        generalize hV : vanL (butI (l.take k) K) = V at hown hlen hst2
        obtain ⟨A1, n1, c1, rfl, hl1, hc1, _, hs1⟩ := hown.shapeN
        have hn1 : n1 ≤ 4194305 := by rw [← hl1, List.length_map]; exact hlen
        have ht := fun W hs hs' => rtimes_n p hp2 A1 (some ⟨wr.heap.size, 0, none⟩) n1 c1 2 2 (fvs V) [fv (0 - el p x), 1] hl1 rfl (i64_fvsR _ hp2) (by intro y hy; rcases List.mem_cons.1 hy with rfl | hy; exact i64_fv _ hp2; rw [List.mem_singleton] at hy; subst hy; constructor <;> decide) (by omega) W hs hs'
        have e2 : els p [fv (0 - el p x), 1] = [0 - el p x, 1] := by simp [el_fv, el_one]
        simp only [els_fvs, e2] at ht
        rw [← hst2] at ht
        have hs2 := sl_lit' wr [fv (0 - el p x), 1]
        have hba : Below wr.heap.size wr (wr.alloc (.cells #[vi (fv (0 - el p x)), vi 1] 3)) := (Below.refl _ _).alloc (Nat.le_refl _) _
        have HT := Lib.hid (ht _ (hs1.below hba) hs2)
        have HSUB := Lib.hid hsub
        clear ht hst hst2 hsub e2 hV hl1 hlen hown hkK hs2
        go_wp2_with fail
        refine (HSUB.out _).mono ?_
        rintro e w' ⟨rfl, rfl⟩
        go_wp2_with fail
        refine (HT.out).mono ?_
        rintro e w2 ⟨v2, rfl, hown2, hb2⟩
        have hbel2 := hb.trans ((hba.trans (hb2.mono hba.size)).mono hb.size)
        have hown3 := hown2.more (Nat.le_trans hb.size hba.size)
        clear hown2 hb2
        go_wp2
        go_roundw
        case rel => exact ⟨k + 1, by omega, by go_num, hown3, hbel2⟩
        case measure => simp [intOf]; omega
    · obtain rfl : k = na := by omega
      rw [List.take_of_length_le (by rw [HLL.out]; exact Nat.le_refl _)] at hown
      go_wp2
      go_ret
      exact ⟨_, rfl, hown, hb⟩

/-- a list that meets the points is handed back -/
def MadeFit (p : Nat) [NeZero p] (xs ys : List (Fin p)) (w : World) (e : Ending) (w' : World) : Prop := ∃ o : List (Fin p), Fitted xs ys xs.length o ∧ Made (fvs o) w e w'

set_option maxRecDepth 100000 in
set_option maxHeartbeats 1000000 in
theorem rfit_n (p : Nat) [NeZero p] (hp : IsPrime p) (hp1 : 2 ≤ p) (hp2 : p ≤ 2147483647) (A B : Option Addr) (na ca cb : Nat) (xs ys : List Int) (hna : xs.length = na) (hnb : ys.length = na) (hxs : ∀ n ∈ xs, I64 n) (hys : ∀ n ∈ ys, I64 n) (hr : na ≤ 2097152) (hnd : (els p xs).Nodup) (w : World) (hsx : SL w A xs) (hsy : SL w B ys) :
    Calls Tryd.prog 80 #[vi p, .slice A na ca, .slice B na cb] w fun e w' => MadeFit p (els p xs) (els p ys) w e w' := by
  obtain ⟨l, hl⟩ : ∃ l, l = els p xs := ⟨_, rfl⟩
  obtain ⟨m, hm⟩ : ∃ m, m = els p ys := ⟨_, rfl⟩
  have hll : l.length = na := by rw [hl]; simp [hna]
  have hco : ∀ k (hk : k < xs.length), co l k = el p xs[k] := fun k hk => by rw [hl, co_of_lt (by simpa using hk)]; simp
  have hcm : ∀ k (hk : k < ys.length), co m k = el p ys[k] := fun k hk => by rw [hm, co_of_lt (by simpa using hk)]; simp
  have hvan := fun (K : Int) hK W hs => rvanish_n p hp1 hp2 A na ca xs hna hxs (by omega) K hK W hs
  rw [← hl] at hvan hnd ⊢
  rw [← hm]
  have HLL := Lib.hid hll
  have HCO := Lib.hid hco
  have HCM := Lib.hid hcm
  have HNA := Lib.hid hna
  have HNB := Lib.hid hnb
  have HVAN := Lib.hid hvan
  have HND := Lib.hid hnd
  have HP := Lib.hid hp
  clear hl hm hll hna hnb hco hcm hvan hnd hp
  go_enter Tryd.func80, Tryd.ntmps80
  go_wp2
  go_loopw [7, 8, 9, 10, 11, 12] (fun v i _ _ _ _ wr => ∃ (k : Nat) (o : List (Fin p)), k ≤ na ∧ i = vi k ∧ Fitted l m k o ∧ Own wr w.heap.size v (fvs o) ∧ Below w.heap.size w wr) (fun _ i _ _ _ _ _ => na - (intOf i).toNat)
  case atStart => exact ⟨0, [], Nat.zero_le _, rfl, Fitted.start _ _, World.ownsRow_nil _ _ _ _, Below.refl _ _⟩
  case round =>
    obtain ⟨k, o, hk, rfl, hfit, hown, hb⟩ := hrel
    by_cases hkn : k < na
    · have hkx : k < xs.length := by rw [HNA.out]; exact hkn
      have hky : k < ys.length := by rw [HNB.out]; exact hkn
      have hkl : k < l.length := by rw [HLL.out]; exact hkn
      have hsx' := hsx.below hb
      have hsy' := hsy.below hb
      have hIx := hxs _ (List.getElem_mem hkx)
      have hIy := hys _ (List.getElem_mem hky)
      have hst := hfit.step HP.out HND.out hkl
      rw [HCO.out k hkx, HCM.out k hky] at hst
      have hvan := HVAN.out (k : Int) (by constructor <;> omega) _ hsx'
      have hVl : (vanL (butI l (k : Int))).length ≤ 4194304 := by
        have h1 := vanL_length (butI l (k : Int))
        have h2 := butI_length l k hkl
        rw [HLL.out] at h2; omega
      have hol : o.length ≤ 4194304 := by have := hfit.len; rw [HLL.out] at this; omega
      generalize vanL (butI l (k : Int)) = V at hst hvan hVl
      have hcx : ∀ W, Below wr.heap.size wr W → ∃ ad, A = some ad ∧ W.cell? (ad.add k) = some (vi xs[k]) := fun W hW => by
        obtain ⟨ad, h1, _, h2⟩ := (hsx'.below hW).at_ hkx
        exact ⟨ad, h1, h2⟩
      have hcy : ∀ W, Below wr.heap.size wr W → ∃ ad, B = some ad ∧ W.cell? (ad.add k) = some (vi ys[k]) := fun W hW => by
        obtain ⟨ad, h1, _, h2⟩ := (hsy'.below hW).at_ hky
        exact ⟨ad, h1, h2⟩
      generalize xs[k] = x at hcx hIx hst
      generalize ys[k] = y at hcy hIy hst
      have hev := fun (C : Option Addr) (nc cc : Nat) hl hr W hs => reval_n p hp1 hp2 C nc cc (fvs V) hl (i64_fvsR _ hp2) hr x hIx W hs
      have hdiv := fun W => rdiv_any p hp1 hp2 y (fv (ev V (el p x))) hIy (i64_fv _ hp2) W
      have hsc := fun (C : Option Addr) (nc cc : Nat) hl hr W hs => rscaled_n p hp2 C nc cc (fvs V) hl (i64_fvsR _ hp2) (fv (el p y * Zp.inv (ev V (el p x)))) (i64_fv _ hp2) 0 (by omega) hr W hs
      simp only [els_fvs, el_fv] at hev hdiv hsc
      have hsl := sclL_length V (el p y * Zp.inv (ev V (el p x))) 0
      generalize sclL V (el p y * Zp.inv (ev V (el p x))) 0 = S at hst hsc hsl
      generalize el p y * Zp.inv (ev V (el p x)) = Q at hdiv hsc
      generalize ev V (el p x) = E at hev hdiv
      obtain ⟨A0, n0, c0, rfl, hl0, hc0, _, hs0⟩ := hown.shapeN
      have hpl := fun (C : Option Addr) (nc cc : Nat) hl hr W hsx' hsy' => rplus_n p hp2 A0 C n0 c0 nc cc (fvs o) (fvs S) hl0 hl (i64_fvsR _ hp2) (i64_fvsR _ hp2) (by rw [← hl0, List.length_map]; omega) hr W hsx' hsy'
      simp only [els_fvs] at hpl
      generalize trimL (addL o S) = O2 at hpl hst
      have HST := Lib.hid hst
      have HV := Lib.hid hvan
      have HEV := Lib.hid hev
      have HDIV := Lib.hid hdiv
      have HSC := Lib.hid hsc
      have HPL := Lib.hid hpl
      have HCX := Lib.hid hcx
      have HCY := Lib.hid hcy
      have HVL := Lib.hid hVl
      have HSL := Lib.hid hsl
      clear hst hvan hev hdiv hsc hpl hcx hcy hVl hol hl0 hown hsl
      go_wp2_with fail
      refine (HV.out).mono ?_
      rintro e w1 ⟨v1, rfl, hown1, hb1⟩
      obtain ⟨A1, n1, c1, rfl, hl1, hc1, _, hs1⟩ := hown1.shapeN
      have hn1 : n1 ≤ 4194304 := by rw [← hl1, List.length_map]; exact HVL.out
      have HL1 := Lib.hid hl1
      obtain ⟨ad, rfl, hcell⟩ := HCX.out _ hb1
      obtain ⟨ad2, rfl, hcell2⟩ := HCY.out _ hb1
      have i1 : (0 : Int) ≤ (k : Int) := by omega
      have i2 : (k : Int) < na := by omega
      clear hl1 hown1
      go_wp2_with fail
      refine (HEV.out A1 n1 c1 HL1.out (by omega) _ hs1).mono ?_
      rintro e w' ⟨rfl, rfl⟩
      go_wp2_with fail
      refine (HDIV.out _).mono ?_
      rintro e w' ⟨rfl, rfl⟩
      go_wp2_with fail
      refine (HSC.out A1 n1 c1 HL1.out (by omega) _ hs1).mono ?_
      rintro e w2 ⟨v2, rfl, hown2, hb2⟩
      obtain ⟨A2, n2, c2, rfl, hl2, hc2, _, hs2⟩ := hown2.shapeN
      have hn2 : n2 ≤ 8388608 := by
        have h1 := HSL.out
        have h2 := HVL.out
        rw [List.length_map] at hl2; omega
      have HL2 := Lib.hid hl2
      clear hl2 hown2
      go_wp2_with fail
      refine (HPL.out A2 n2 c2 HL2.out hn2 _ ((hs0.below hb1).below hb2) hs2).mono ?_
      rintro e w3 ⟨v3, rfl, hown3, hb3⟩
      have hb12 := hb1.trans (hb2.mono hb1.size)
      have hb13 := hb12.trans (hb3.mono hb12.size)
      have hbel := hb.trans (hb13.mono hb.size)
      have hown4 := hown3.more (Nat.le_trans hb.size hb12.size)
      clear hown3 hb3 hb2
      go_wp2
      go_roundw
      case rel => exact ⟨k + 1, O2, by omega, by go_num, HST.out, hown4, hbel⟩
      case measure => simp [intOf]; omega
    · obtain rfl : k = na := by omega
      go_wp2
      go_ret
      exact ⟨o, by rw [HLL.out]; exact hfit, _, rfl, hown, hb⟩
end Go.Proofs.YtgmkcmahbefcoaaDoor

/- Walk: attestref4.At. -/
set_option linter.unusedVariables false
namespace Zp
section
variable {p : Nat} [NeZero p]
/-- the polynomial through points -/
noncomputable def fitL (xs ys : List (Fin p)) : List (Fin p) := open Classical in if h : ∃ o, Fitted xs ys xs.length o then h.choose else []
theorem fitL_eq (hp : IsPrime p) {xs ys o : List (Fin p)} (hx : xs.Nodup) (h : Fitted xs ys xs.length o) : fitL xs ys = o := by
  have he : ∃ o, Fitted xs ys xs.length o := ⟨o, h⟩
  unfold fitL
  rw [dif_pos he]
  exact Fitted.unique hp hx he.choose_spec h
theorem fit_exists (hp : IsPrime p) {xs : List (Fin p)} (ys : List (Fin p)) (hx : xs.Nodup) : ∀ k, k ≤ xs.length → ∃ o, Fitted xs ys k o
  | 0, _ => ⟨[], Fitted.start _ _⟩
  | k + 1, hk => by
    obtain ⟨o, ho⟩ := fit_exists hp ys hx k (by omega)
    exact ⟨_, ho.step hp hx hk⟩
theorem fitL_fitted (hp : IsPrime p) {xs : List (Fin p)} (ys : List (Fin p)) (hx : xs.Nodup) : Fitted xs ys xs.length (fitL xs ys) := by
  obtain ⟨o, ho⟩ := fit_exists hp ys hx xs.length (Nat.le_refl _)
  rw [fitL_eq hp hx ho]
  exact ho
/-- 0, 1, .. -/
def idsI (n : Nat) : List Int := (List.range n).map (fun (i : Nat) => (i : Int))
theorem idsI_length (n : Nat) : (idsI n).length = n := by simp [idsI]
theorem idsI_take (n k : Nat) (hk : k < n) : (idsI n).take k ++ [(k : Int)] = (idsI n).take (k + 1) := by
  rw [List.take_succ_eq_append_getElem (by rw [idsI_length]; exact hk)]; simp [idsI]
theorem co_ids {n k : Nat} (hk : k < n) : co (els p (idsI n)) k = el p (k : Int) := by
  rw [co_of_lt (by rw [List.length_map, idsI_length]; exact hk)]; simp [idsI]
theorem ids_nodup {n : Nat} (hn : n ≤ p) : (els p (idsI n)).Nodup := by
  have hl : (els p (idsI n)).length = n := by rw [List.length_map, idsI_length]
  refine nodup_of_lt fun i k hi hk he => ?_
  rw [← co_of_lt hi, ← co_of_lt (by omega), co_ids (by omega), co_ids (by omega), el_eq_iff] at he
  rw [Int.emod_eq_of_lt (by omega) (by omega), Int.emod_eq_of_lt (by omega) (by omega)] at he
  omega
end
end Zp
namespace Go.Proofs.YtgmkcmahbefcoaaDoor
open Go.RowKit Zp

theorem ids_i64 (n : Nat) (hn : n ≤ 2097152) : ∀ x ∈ idsI n, I64 x := fun x hx => by
  obtain ⟨i, hi, rfl⟩ := List.mem_map.1 hx
  have := List.mem_range.1 hi
  constructor <;> omega
set_option maxRecDepth 100000 in
set_option maxHeartbeats 1000000 in
theorem at4_any (q : Nat) [NeZero q] (hp : IsPrime q) (hp1 : 2 ≤ q) (hp2 : q ≤ 2147483647) (A : Option Addr) (n c : Nat) (l : List Int) (hml : l.length = n) (hl : ∀ x ∈ l, I64 x) (hn : n ≤ 2097152) (hnq : n ≤ q) (r : Int) (hr : I64 r) (w : World) (hs : SL w A l) :
    Calls Tryd.prog 49 #[vi q, .slice A n c, vi r] w fun e w' => SaysW (vi (fv (ev (fitL (els q (idsI n)) (els q l)) (el q r)))) w e w' := by
  have hfit := fun (B : Option Addr) (cb : Nat) W hsx hsy => rfit_n q hp hp1 hp2 B A n cb c (idsI n) l (idsI_length n) hml (ids_i64 n hn) hl hn (ids_nodup hnq) W hsx hsy
  have HEQ := Lib.hid (fun o (h : Fitted (els q (idsI n)) (els q l) (els q (idsI n)).length o) => fitL_eq hp (ids_nodup hnq) h)
  have hlen : (els q (idsI n)).length = n := by rw [List.length_map, idsI_length]
  have HLEN := Lib.hid hlen
  have HFIT := Lib.hid hfit
  clear hp hml hfit hlen
  go_enter Tryd.func49, Tryd.ntmps49
  go_wp2
  go_loopw [7, 8] (fun v i wr => ∃ k : Nat, k ≤ n ∧ i = vi k ∧ Own wr w.heap.size v ((idsI n).take k) ∧ Below w.heap.size w wr) (fun _ i _ => n - (intOf i).toNat)
  case atStart => exact ⟨0, Nat.zero_le _, rfl, World.ownsRow_nil _ _ _ _, Below.refl _ _⟩
  case round =>
    obtain ⟨k, hk, rfl, hown, hb⟩ := hrel
    by_cases hkn : k < n
    · have h2 := idsI_take n k hkn
      have hlk : ((idsI n).take k).length < 17592186044416 := by
        have := List.length_take_le k (idsI n); omega
      have H2 := Lib.hid h2
      have HLK := Lib.hid hlk
      clear h2 hlk
      go_wp2_with (at_builtin; refine wpList_app1 wr (k : Int) rfl _ _ rfl w.heap.size _ _ rfl rfl hown HLK.out hb.size ?_; intro v' w1 hg)
      go_roundw
      case rel => exact ⟨k + 1, by omega, by go_num, by rw [← H2.out]; exact hg.own, hg.below hb hown (Nat.le_refl _) hb.size⟩
      case measure => simp [intOf]; omega
    · obtain rfl : k = n := by omega
      rw [List.take_of_length_le (by rw [idsI_length]; exact Nat.le_refl _)] at hown
      obtain ⟨A1, n1, c1, rfl, hl1, _, _, hs1⟩ := hown.shapeN
      rw [idsI_length] at hl1
      subst hl1
      clear hown
      go_wp2_with fail
      refine (HFIT.out A1 c1 _ hs1 (hs.below hb)).mono ?_
      rintro e w2 ⟨o, ho, v2, rfl, hown2, hb2⟩
      have he := HEQ.out o ho
      have hol := ho.len
      rw [HLEN.out] at hol
      obtain ⟨A2, n2, c2, rfl, hl2, _, _, hs2⟩ := hown2.shapeN
      have hev := reval_n q hp1 hp2 A2 n2 c2 (fvs o) hl2 (i64_fvsR _ hp2) (by rw [← hl2, List.length_map]; omega) r hr _ hs2
      rw [els_fvs, ← he] at hev
      have HEV := Lib.hid hev
      clear hev he ho hown2 hl2 hol
      go_wp2_with fail
      refine (HEV.out).mono ?_
      rintro e w' ⟨rfl, rfl⟩
      go_wp2
      go_ret
      exact ⟨rfl, hb.trans (hb2.mono hb.size)⟩
end Go.Proofs.YtgmkcmahbefcoaaDoor

/- The walk of the reference's Check of a sum. -/
set_option linter.unusedVariables false
namespace Go.Proofs.YtgmkcmahbefcoaaDoor
open Go.RowKit Zp

theorem fitL_fitP {q : Nat} [NeZero q] (xs ys : List (Fin q)) : fitL xs ys = fitP xs ys := rfl
theorem ids_up (n : Nat) : idsI n = upI n := rfl
theorem below_drewX {w w' : World} (h : Below w.drew.heap.size w.drew w') : Below w.heap.size w w' := (show Below w.heap.size w w.drew from below_drewN (Below.refl _ _) 1).trans h
set_option maxRecDepth 100000 in
set_option maxHeartbeats 4000000 in
theorem rcheck_out (q : Nat) (claim d : Int) (hd : I64 d) (AR AF B : Option Addr) (nR cR nF cF m cb : Nat) (hR : nR < 9223372036854775808) (hF : nF < 9223372036854775808) (hm : m < 9223372036854775808) (h : ¬ ChkIn q d nR nF m) (w : World) :
    Calls Tryd.prog 19 #[vi q, vi claim, vi d, .agg #[.slice AR nR cR, .slice AF nF cF], .slice B m cb] w fun e w' => e = .returned (.bool false) ∧ Below w.heap.size w w' := by
  have hb1 : Below w.heap.size w (w.alloc (.cells #[.slice AR nR cR, .slice AF nF cF] 29)) := (Below.refl _ _).alloc (Nat.le_refl _) _
  have hS := Blk.new w 29 #[.slice AR nR cR, .slice AF nF cF]
  have s0 := (Blk.cell hS 0).trans (show _ = some (Value.slice AR nR cR) from rfl)
  have s1 := (Blk.cell hS 1).trans (show _ = some (Value.slice AF nF cF) from rfl)
  have HB := Lib.hid hb1
  obtain ⟨hd1, hd2⟩ := hd
  clear hb1 hS
  rcases (show d < 1 ∨ (1 ≤ d ∧ 4 < d) ∨ (1 ≤ d ∧ d ≤ 4 ∧ (q : Int) ≤ d) ∨ (1 ≤ d ∧ d ≤ 4 ∧ d < q ∧ 12 < m) ∨ (1 ≤ d ∧ d ≤ 4 ∧ d < q ∧ m ≤ 12 ∧ nR ≠ m) ∨ (1 ≤ d ∧ d ≤ 4 ∧ d < q ∧ m ≤ 12 ∧ nR = m ∧ (nF : Int) ≠ d) by unfold ChkIn at h; omega) with h1 | ⟨h1, h2⟩ | ⟨h1, h2, h3⟩ | ⟨h1, h2, h3, h4⟩ | ⟨h1, h2, h3, h4, h5⟩ | ⟨h1, h2, h3, h4, h5, h6⟩
  · have t1 : decide (d < 1) = true := by simp; omega
    clear h
    go_enter Tryd.func19, Tryd.ntmps19
    go_wp2
    go_ret
    exact ⟨rfl, HB.out⟩
  · have t1 : decide (d < 1) = false := by simp; omega
    have t2 : decide (4 < d) = true := by simp; omega
    clear h
    go_enter Tryd.func19, Tryd.ntmps19
    go_wp2
    go_ret
    exact ⟨rfl, HB.out⟩
  · have t1 : decide (d < 1) = false := by simp; omega
    have t2 : decide (4 < d) = false := by simp; omega
    have t3 : decide ((q : Int) ≤ d) = true := by simp; omega
    clear h
    go_enter Tryd.func19, Tryd.ntmps19
    go_wp2
    go_ret
    exact ⟨rfl, HB.out⟩
  · have t1 : decide (d < 1) = false := by simp; omega
    have t2 : decide (4 < d) = false := by simp; omega
    have t3 : decide ((q : Int) ≤ d) = false := by simp; omega
    have t4 : decide ((12 : Int) < (m : Int)) = true := by simp; omega
    have t4' : decide (12 < m) = true := by simp; omega
    clear h
    go_enter Tryd.func19, Tryd.ntmps19
    go_wp2
    go_ret
    exact ⟨rfl, HB.out⟩
  · have t1 : decide (d < 1) = false := by simp; omega
    have t2 : decide (4 < d) = false := by simp; omega
    have t3 : decide ((q : Int) ≤ d) = false := by simp; omega
    have t4 : decide ((12 : Int) < (m : Int)) = false := by simp; omega
    have t4' : decide (12 < m) = false := by simp; omega
    have t5 : ((nR : Int) != (m : Int)) = true := by rw [bne_iff_ne]; omega
    clear h5
    clear h
    go_enter Tryd.func19, Tryd.ntmps19
    go_wp2
    go_ret
    exact ⟨rfl, HB.out⟩
  · have t1 : decide (d < 1) = false := by simp; omega
    have t2 : decide (4 < d) = false := by simp; omega
    have t3 : decide ((q : Int) ≤ d) = false := by simp; omega
    have t4 : decide ((12 : Int) < (m : Int)) = false := by simp; omega
    have t4' : decide (12 < m) = false := by simp; omega
    have t5 : ((nR : Int) != (m : Int)) = false := by rw [bne_eq_false_iff_eq]; omega
    have t6 : ((nF : Int) != d) = true := by rw [bne_iff_ne]; omega
    clear h5 h6
    clear h
    go_enter Tryd.func19, Tryd.ntmps19
    go_wp2
    go_ret
    exact ⟨rfl, HB.out⟩
set_option maxRecDepth 100000 in
set_option maxHeartbeats 8000000 in
theorem rcheck_in (q : Nat) [NeZero q] (hp : IsPrime q) (hq2 : 2 ≤ q) (hqm : q ≤ 2147483647) (claim : Int) (hcl : I64 claim) (d : Nat) (hd1 : 1 ≤ d) (hd2 : d ≤ 4) (hdq : d < q) (AR AF B : Option Addr) (m cR cF cb : Nat) (hm : m ≤ 12) (ls : List (List Int)) (fs rs : List Int) (hl : ls.length = m) (hf : fs.length = d) (hr : rs.length = m) (hfI : ∀ x ∈ fs, I64 x) (hrI : ∀ x ∈ rs, I64 x) (w : World) (hT : TB w AR ls) (hF : SL w AF fs) (hB : SL w B rs) :
    Calls Tryd.prog 19 #[vi q, vi claim, vi d, .agg #[.slice AR m cR, .slice AF d cF], .slice B m cb] w fun e w' => e = .returned (.bool (chkB q d claim ls fs rs)) ∧ Below w.heap.size w w' := by
  have hb1 : Below w.heap.size w (w.alloc (.cells #[.slice AR m cR, .slice AF d cF] 29)) := (Below.refl _ _).alloc (Nat.le_refl _) _
  have hS := Blk.new w 29 #[.slice AR m cR, .slice AF d cF]
  have s0 := (Blk.cell hS 0).trans (show _ = some (Value.slice AR m cR) from rfl)
  have s1 := (Blk.cell hS 1).trans (show _ = some (Value.slice AF d cF) from rfl)
  have HL := Lib.hid hl
  have HFL := Lib.hid hf
  have HRL := Lib.hid hr
  have hro := fun W => rof_any q hqm claim hcl W
  have hcl0 : fv (el q claim) = fv (clK d claim ls rs 0 : Fin q) := rfl
  rw [hcl0] at hro
  have HRO := Lib.hid hro
  have hsl := hS.lt
  have HTT := Lib.hid (hT.below hb1)
  have HSF := Lib.hid (hF.below hb1)
  have HSB := Lib.hid (hB.below hb1)
  have HB1 := Lib.hid hb1
  have t1 : decide ((d : Int) < 1) = false := by simp; omega
  have t1' : decide (d < 1) = false := by simp; omega
  have t2 : decide ((4 : Int) < (d : Int)) = false := by simp; omega
  have t2' : decide (4 < d) = false := by simp; omega
  have t3 : decide ((q : Int) ≤ (d : Int)) = false := by simp; omega
  have t3' : decide (q ≤ d) = false := by simp; omega
  have t4 : decide ((12 : Int) < (m : Int)) = false := by simp; omega
  have t4' : decide (12 < m) = false := by simp; omega
  have t5 : ((m : Int) != (m : Int)) = false := by simp
  have t6 : ((d : Int) != (d : Int)) = false := by simp
  obtain ⟨W1, hW1⟩ : ∃ W1, W1 = w.alloc (.cells #[.slice AR m cR, .slice AF d cF] 29) := ⟨_, rfl⟩
  rw [← hW1] at s0 s1 hsl HTT HSF HSB HB1
  have HW1 := Lib.hid hW1
  clear hb1 hS hl hf hr hro hcl0 hT hF hB hW1
  go_enter Tryd.func19, Tryd.ntmps19
  go_wp2_with fail
  rw [← HW1.out]
  refine (HRO.out _).mono ?_
  rintro _ _ ⟨rfl, rfl⟩
  clear HW1
  go_wp2
  go_loopw [12] (fun t wr => ∃ k : Nat, k ≤ m ∧ t = vi k ∧ (∀ i (h : i < ls.length), i < k → ls[i].length = d + 1) ∧ W1 = wr) (fun t _ => m - (intOf t).toNat)
  case atStart => exact ⟨0, by omega, rfl, fun i _ hi => absurd hi (by omega), rfl⟩
  case round =>
    obtain ⟨k, hk, rfl, hall, rfl⟩ := hrel
    have HALL := Lib.hid hall
    clear hall
    by_cases hkm : k < m
    · have hkl : k < ls.length := by rw [HL.out]; exact hkm
      obtain ⟨ad, A1, n1, c1, rfl, hbd, hcc, hl1, hn1, hs1, hi1⟩ := HTT.out k hkl
      have HL1 := Lib.hid hl1
      have k1 : (0 : Int) ≤ (k : Int) := by omega
      have k2 : (k : Int) < (m : Int) := by omega
      clear hl1 hs1 hi1
      by_cases hn : n1 = d + 1
      · have t7 : ((n1 : Int) != (d : Int) + 1) = false := by rw [bne_eq_false_iff_eq]; omega
        have HN := Lib.hid hn
        clear hn
        go_wp2
        go_roundw
        case rel => exact ⟨k + 1, by omega, by go_num, fun i h hi => by
          by_cases e : i = k
          · subst e; rw [HL1.out, HN.out]
          · exact HALL.out i h (by omega), by trivial⟩
        case measure => simp [intOf]; omega
      · have t7 : ((n1 : Int) != (d : Int) + 1) = true := by rw [bne_iff_ne]; omega
        have hres : chkB q d claim ls fs rs = false := by
          unfold chkB
          rw [decide_eq_false_iff_not]
          rintro ⟨h, _⟩
          exact hn (by rw [← HL1.out]; exact h _ (List.getElem_mem hkl))
        have HR := Lib.hid hres
        clear hres hn
        go_wp2
        go_ret
        exact ⟨ret_bool HR.out.symm, HB1.out⟩
    · have ek : k = m := by omega
      have t8 : ¬ (k : Int) < (m : Int) := by omega
      have hlen : ∀ l ∈ ls, l.length = d + 1 := by
        intro l hl
        obtain ⟨i, hi, rfl⟩ := List.getElem_of_mem hl
        exact HALL.out i hi (by rw [ek, ← HL.out]; exact hi)
      have HLEN := Lib.hid hlen
      clear hlen ek
      go_wp2
      go_loopw [11, 13, 14] (fun c t _ wr' => ∃ k : Nat, k ≤ m ∧ t = vi k ∧ c = vi (fv (clK d claim ls rs k : Fin q)) ∧ (∀ i, i < k → SumAt (q := q) d claim ls rs i) ∧ Below W1.heap.size W1 wr') (fun _ t _ _ => m - (intOf t).toNat)
      case atStart => exact ⟨0, by omega, rfl, rfl, fun i hi => absurd hi (by omega), Below.refl _ _⟩
      case round =>
        obtain ⟨i, hi, rfl, rfl, hall, hb⟩ := hrel
        have HALL := Lib.hid hall
        clear hall
        have s0r := (hb.cell (p := ⟨w.heap.size, 0, none⟩) hsl).trans s0
        by_cases him : i < m
        · have hil : i < ls.length := by rw [HL.out]; exact him
          have hir : i < rs.length := by rw [HRL.out]; exact him
          obtain ⟨ad, A1, n1, c1, rfl, hbd, hcc, hl1, hn1, hs1, hi1⟩ := HTT.out i hil
          have en1 : n1 = d + 1 := by rw [← hl1]; exact HLEN.out _ (List.getElem_mem hil)
          subst en1
          have hccr := (hb.cell (p := ad.add i) hbd).trans hcc
          obtain ⟨ae, rfl, hae, hce0⟩ := hs1.at_ (k := 0) (by rw [hl1]; omega)
          obtain ⟨ae', e2, _, hce1⟩ := hs1.at_ (k := 1) (by rw [hl1]; omega)
          injection e2 with e2
          subst e2
          have hce0' := (hb.cell (p := ae.add 0) (by rw [block_of_add]; exact hae)).trans hce0
          have hce1' := (hb.cell (p := ae.add 1) (by rw [block_of_add]; exact hae)).trans hce1
          rw [show ae.add 0 = ae by simp [Addr.add]] at hce0'
          have hi0 := hi1 _ (List.getElem_mem (show 0 < ls[i].length by rw [hl1]; omega))
          have hi01 := hi1 _ (List.getElem_mem (show 1 < ls[i].length by rw [hl1]; omega))
          have hsumat : SumAt (q := q) d claim ls rs i ↔ el q (ls[i][0]'(by rw [hl1]; omega)) + el q (ls[i][1]'(by rw [hl1]; omega)) = (clK d claim ls rs i : Fin q) := by
            unfold SumAt
            rw [List.getD_eq_getElem?_getD (l := ls), List.getElem?_eq_getElem hil, Option.getD_some, List.getD_eq_getElem?_getD, List.getElem?_eq_getElem (show 0 < ls[i].length by rw [hl1]; omega), List.getD_eq_getElem?_getD, List.getElem?_eq_getElem (show 1 < ls[i].length by rw [hl1]; omega)]
            rfl
          obtain ⟨x0, hx0'⟩ : ∃ x, x = ls[i][0]'(by rw [hl1]; omega) := ⟨_, rfl⟩
          obtain ⟨x1, hx1'⟩ : ∃ x, x = ls[i][1]'(by rw [hl1]; omega) := ⟨_, rfl⟩
          rw [← hx0'] at hce0' hi0 hsumat
          rw [← hx1'] at hce1' hi01 hsumat
          have HADD := Lib.hid (fun W => radd_any q hqm x0 x1 hi0 hi01 W)
          obtain ⟨C, hC⟩ : ∃ C : Fin q, C = clK d claim ls rs i := ⟨_, rfl⟩
          rw [← hC] at hsumat ⊢
          have i1 : (0 : Int) ≤ (i : Int) := by omega
          have i2 : (i : Int) < (m : Int) := by omega
          have hce1'' : wr.cell? ⟨ae.block, ae.off + 1, none⟩ = some (vi x1) := by
            have : ae.add 1 = ⟨ae.block, ae.off + 1, none⟩ := by simp [Addr.add]
            rw [← this]; exact hce1'
          have d1 : (1 : Int) < (d : Int) + 1 := by omega
          have d1' : 1 < d + 1 := by omega
          have hat := at4_any q hp hq2 hqm (some ae) (d + 1) c1 ls[i] hl1 hi1 (by omega) (by omega) (rs[i]) (hrI _ (List.getElem_mem hir))
          have hnx : ev (fitL (els q (idsI (d + 1))) (els q ls[i])) (el q rs[i]) = (clK d claim ls rs (i + 1) : Fin q) := by
            show _ = ev (fitP (els q (upI (d + 1))) (els q (ls.getD i []))) (el q (rs.getD i 0))
            rw [fitL_fitP, ids_up, List.getD_eq_getElem?_getD (l := ls), List.getElem?_eq_getElem hil, List.getD_eq_getElem?_getD (l := rs), List.getElem?_eq_getElem hir]
            rfl
          rw [hnx] at hat
          obtain ⟨bd, rfl, hbdl, hcr⟩ := HSB.out.at_ hir
          have hcrr := (hb.cell (p := bd.add i) (by rw [block_of_add]; exact hbdl)).trans hcr
          obtain ⟨r, hrr⟩ : ∃ r, r = rs[i] := ⟨_, rfl⟩
          rw [← hrr] at hcrr hat
          have HSL := Lib.hid (hs1.below hb)
          have HAT := Lib.hid hat
          have HB := Lib.hid hb
          have HSA := Lib.hid hsumat
          have HC := Lib.hid hC
          have hwr0 := Nat.lt_of_lt_of_le hsl hb.size
          have hwr1 := Nat.lt_of_lt_of_le hbd hb.size
          have hwr2 : (bd.add i).block < wr.heap.size := by rw [block_of_add]; exact Nat.lt_of_lt_of_le hbdl hb.size
          clear hb hsumat hC hl1 hs1 hi1 hx0' hx1' hce0 hce1 hcc hce1' hat hnx hcr hrr
          by_cases hsum : el q x0 + el q x1 = C
          · have t9 : (fv (el q x0 + el q x1) != fv C) = false := by rw [hsum]; simp
            have HSUM := Lib.hid hsum
            clear hsum
            go_wp2
            go_quiet ((go_at_call 48; exact quiet_eq (HADD.out _)))
            go_wp2
            have HSLN := Lib.hid (HSL.out.drewN nq)
            have hbN := below_drewN HB.out nq
            have c1a : (wr.drewN nq).cell? ⟨w.heap.size, 0, none⟩ = some (.slice (some ad) m cR) := s0r
            have c2a : (wr.drewN nq).cell? (ad.add i) = some (.slice (some ae) (d + 1) c1) := hccr
            have c3a : (wr.drewN nq).cell? (bd.add i) = some (vi r) := hcrr
            have hw0 : w.heap.size < (wr.drewN nq).heap.size := hwr0
            have hw1 : (ad.add i).block < (wr.drewN nq).heap.size := hwr1
            have hw2 : (bd.add i).block < (wr.drewN nq).heap.size := hwr2
            generalize wr.drewN nq = wq at HSLN hbN c1a c2a c3a hw0 hw1 hw2 ⊢
            have HBN := Lib.hid hbN
            clear hbN s0r hccr hcrr hce0' hce1''
            go_region_held3 (fun w' => w'.cell? ⟨w.heap.size, 0, none⟩ = some (.slice (some ad) m cR) ∧ w'.cell? (ad.add i) = some (.slice (some ae) (d + 1) c1) ∧ w'.cell? (bd.add i) = some (vi r)) (first | exact ⟨c1a, c2a, c3a⟩ | exact ⟨(hb5.cell (p := ⟨w.heap.size, 0, none⟩) hw0).trans c1a, (hb5.cell hw1).trans c2a, (hb5.cell hw2).trans c3a⟩) ((go_at_call 49; refine (HAT.out wq.drew HSLN.out).mono ?_; rintro e w5 ⟨rfl, hb5d⟩; have hb5 := below_drewX hb5d; clear hb5d))
            all_goals
              have hb35 := HBN.out.trans (hb5.mono HBN.out.size)
              go_wp2
              go_roundw
              case rel => exact ⟨i + 1, by omega, by go_num, rfl, fun j hj => by
                by_cases e : j = i
                · subst e; rw [HSA.out]; exact HSUM.out
                · exact HALL.out j (by omega), hb35⟩
              case measure => simp [intOf]; omega
          · have t9 : (fv (el q x0 + el q x1) != fv C) = true := by rw [bne_iff_ne]; exact fun e => hsum (fv_inj e)
            have hres : chkB q d claim ls fs rs = false := by
              unfold chkB
              rw [decide_eq_false_iff_not]
              rintro ⟨_, h, _⟩
              exact hsum (HSA.out.1 (h i hil))
            have HR := Lib.hid hres
            clear hsum hres
            go_wp2
            go_quiet ((go_at_call 48; exact quiet_eq (HADD.out _)))
            go_wp2
            go_ret
            exact ⟨ret_bool HR.out.symm, below_drewN (HB1.out.trans (HB.out.mono HB1.out.size)) _⟩
        · have ei : i = m := by omega
          have t9 : ¬ (i : Int) < (m : Int) := by omega
          subst ei
          have s1r := (hb.cell (p := ⟨w.heap.size, 1, none⟩) hsl).trans s1
          have hSFr := HSF.out.below hb
          have HBR := Lib.hid (HB1.out.trans (hb.mono HB1.out.size))
          have HSFR := Lib.hid hSFr
          obtain ⟨C, hC⟩ : ∃ C : Fin q, C = clK d claim ls rs i := ⟨_, rfl⟩
          rw [← hC]
          have HC := Lib.hid hC
          clear hb hSFr hC
          obtain ⟨w7, hw7⟩ : ∃ w7, w7 = wr := ⟨_, rfl⟩
          subst hw7
          go_wp2
          go_loopw [15, 16] (fun c t wr' => ∃ (k : Nat) (X : Fin q), k ≤ d ∧ t = vi k ∧ c = vi (fv X) ∧ X = prodE (fs.take k) ∧ wr' = w7) (fun _ t _ => d - (intOf t).toNat)
          case atStart => exact ⟨0, 1, by omega, rfl, by rw [fv_one hq2], rfl, rfl⟩
          case round =>
            obtain ⟨k, X, hk, rfl, rfl, hX, rfl⟩ := hrel
            have HX := Lib.hid hX
            clear hX
            by_cases hkd : k < d
            · have hkf : k < fs.length := by rw [HFL.out]; exact hkd
              obtain ⟨ag, rfl, hag, hcg⟩ := HSFR.out.at_ hkf
              have hgi := hfI _ (List.getElem_mem hkf)
              have hpr : (prodE (fs.take (k + 1)) : Fin q) = prodE (fs.take k) * el q fs[k] := by
                unfold prodE
                rw [List.take_succ_eq_append_getElem hkf, List.foldl_append]
                rfl
              obtain ⟨g, hg⟩ : ∃ g, g = fs[k] := ⟨_, rfl⟩
              rw [← hg] at hcg hgi hpr
              have hmu := rmul_any q hqm (fv X) g (i64_fv _ hqm) hgi wr
              rw [el_fv] at hmu
              have HMU := Lib.hid hmu
              have HPR := Lib.hid hpr
              have k1 : (0 : Int) ≤ (k : Int) := by omega
              have k2 : (k : Int) < (d : Int) := by omega
              clear hmu hpr hg
              go_wp2_with fail
              refine (HMU.out).mono ?_
              rintro _ _ ⟨rfl, rfl⟩
              go_wp2
              go_roundw
              case rel => exact ⟨k + 1, _, by omega, by go_num, rfl, by rw [HPR.out, HX.out], by trivial⟩
              case measure => simp [intOf]; omega
            · have ek : k = d := by omega
              have t10 : ¬ (k : Int) < (d : Int) := by omega
              have hres : chkB q d claim ls fs rs = (fv X == fv C) := by
                have hXX : X = prodE fs := by rw [HX.out, ek, List.take_of_length_le (by rw [HFL.out]; exact Nat.le_refl _)]
                by_cases he : (prodE fs : Fin q) = C
                · rw [chkB_true ⟨HLEN.out, by rw [HL.out]; exact HALL.out, by rw [HL.out, ← HC.out]; exact he⟩, hXX, he]
                  simp
                · rw [chkB_false fun h => he (by have := h.2.2; rw [HL.out, ← HC.out] at this; exact this)]
                  symm
                  rw [beq_eq_false_iff_ne, hXX]
                  exact fun e => he (fv_inj e)
              have HRES := Lib.hid hres
              clear hres ek
              generalize fv X = Y at HRES
              go_wp2
              go_ret
              exact ⟨ret_bool HRES.out.symm, HBR.out⟩
end Go.Proofs.YtgmkcmahbefcoaaDoor

/- The walk of the law SumsChecks. -/
set_option linter.unusedVariables false
namespace Go.Proofs.YtgmkcmahbefcoaaDoor
open Go.RowKit Zp

set_option maxRecDepth 100000 in
set_option maxHeartbeats 4000000 in
theorem schecks_some (w : World) (q : Nat) [NeZero q] (h3 : 3 ≤ q) (hqm : q ≤ 2147483647) (hpr : IsPrime q) (claim d : Int) (R : Bool) (AR : Option Addr) (nR cR : Nat) (ls : List (List Int)) (hR : ArgMS w AR nR cR ls) (AF : Option Addr) (nF cF : Nat) (fs : List Int) (hF : ArgS w AF nF cF fs) (B : Option Addr) (m cb : Nat) (rs : List Int) (hb : ArgS w B m cb rs)
    (hck : ∀ S A2 AX c2 cX b W (F : Fld W S b q), TB W A2 ls → SL W AX fs → SL W B rs → Calls Tryd.prog 18 #[.pointer (some ⟨b, 0, none⟩), vi claim, vi d, .agg #[.slice A2 nR c2, .slice AX nF cX], .slice B m cb] W fun e w' => e = .returned (.bool R) ∧ Below W.heap.size W w')
    (hrk : ∀ W, TB W AR ls → SL W AF fs → SL W B rs → Calls Tryd.prog 19 #[vi q, vi claim, vi d, .agg #[.slice AR nR cR, .slice AF nF cF], .slice B m cb] W fun e w' => e = .returned (.bool R) ∧ Below W.heap.size W w') (hT : Typed w) :
    Calls Tryd.prog 4 #[vi q, vi claim, vi d, .agg #[.slice AR nR cR, .slice AF nF cF], .slice B m cb] w fun e w' => SaysW (.bool true) w e w' := by
  have hb0 : Below w.heap.size w (w.alloc (.cells #[.slice AR nR cR, .slice AF nF cF] 29)) := (Below.refl _ _).alloc (Nat.le_refl _) _
  have hS := Blk.new w 29 #[.slice AR nR cR, .slice AF nF cF]
  have HTA := Lib.hid (hR.m.tb.below hb0)
  have HSF := Lib.hid (hF.sl.below hb0)
  have HSB := Lib.hid (hb.sl.below hb0)
  have HLA := Lib.hid hR.m.len
  have HIA := Lib.hid hR.i64
  have HLF := Lib.hid hF.len
  have hF8 : nF * 8 ≤ 140737488351232 := by have := hF.r8; rw [hF.len] at this; exact this
  have HC := Lib.hid (fun W hW => copied_any AR nR cR ls hR.m.len hR.n24 hR.rows W hW)
  have HRK := Lib.hid hrk
  obtain ⟨W0, hW0⟩ : ∃ W0, W0 = w.alloc (.cells #[.slice AR nR cR, .slice AF nF cF] 29) := ⟨_, rfl⟩
  rw [← hW0] at HTA HSF HSB hS hb0
  have HF := Lib.hid (sfield_yes q h3 hqm hpr W0 (hT.below hb0))
  have HB0 := Lib.hid hb0
  have HCK := Lib.hid hck
  have HW0 := Lib.hid hW0
  clear hb0 hR hF hb hck hrk hW0 hT
  go_enter Tryd.func4, Tryd.ntmps4
  go_wp2_with fail
  rw [← HW0.out]
  refine (HF.out).mono ?_
  rintro e w1 ⟨b, rfl, F1, hb1⟩
  have hs1 := HTA.out.below hb1
  have hf1 := HSF.out.below hb1
  have hb1d := HSB.out.below hb1
  have HB1 := Lib.hid (HB0.out.trans (hb1.mono HB0.out.size))
  have hS1 := hS.below hb1 hS.lt
  have c0 := (Blk.cell hS1 0).trans (show _ = some (Value.slice AR nR cR) from rfl)
  have c1 := (Blk.cell hS1 1).trans (show _ = some (Value.slice AF nF cF) from rfl)
  have hl1 := hS1.lt
  clear hb1 hS HW0
  go_wp2_with fail
  refine (HC.out _ hs1).mono ?_
  rintro e w2 ⟨v2, us, rfl, hownR, hrows, hb2⟩
  obtain ⟨A2, n2, c2, rfl, hl2, _⟩ := ownR_shape hownR
  have hl2' : nR = n2 := by have h := hrows.1; rw [HLA.out, hl2] at h; exact h.symm
  subst hl2'
  have tb2 := tb_own hownR hrows HIA.out
  have F2 := F1.below hb2 F1.le
  have HS2 := Lib.hid (hs1.below hb2)
  have HFF2 := Lib.hid (hf1.below hb2)
  have HDD2 := Lib.hid (hb1d.below hb2)
  have HB2 := Lib.hid (HB1.out.trans (hb2.mono HB1.out.size))
  have c02 := (hb2.cell (p := ⟨w.heap.size, 0, none⟩) hl1).trans c0
  have c12 := (hb2.cell (p := ⟨w.heap.size, 1, none⟩) hl1).trans c1
  have hl2 := Nat.lt_of_lt_of_le hl1 hb2.size
  have hba2 : Below w2.heap.size w2 (w2.alloc (.cells #[] 3)) := (Below.refl _ _).alloc (Nat.le_refl _) _
  have ho2 := own_empty w2 w2.heap.size (Nat.le_refl _)
  have sf2 := HFF2.out.below hba2
  have HTB2 := Lib.hid tb2
  have c12a := (hba2.cell (p := ⟨w.heap.size, 1, none⟩) hl2).trans c12
  clear hownR hrows hs1 hb2 c0 c1 F1 hf1 hb1d tb2
  go_wp2_with (at_builtin; refine wpList_appA _ rfl _ _ rfl w2.heap.size _ [] AF nF cF fs rfl rfl HLF.out ho2 sf2 (by simp; omega) (by simp) ?_; intro v' w3 hg; have hown := hg.own; have hb3 := hg.below hba2 ho2 (Nat.le_refl _) (by simp); rw [List.nil_append] at hown; clear hg; obtain ⟨AX, nX, cX, rfl, hlX, hcX, _, sx3⟩ := hown.shapeN; rw [HLF.out] at hlX; subst hlX; clear hown)
  have F3 := F2.below hb3 F2.le
  have HTB3 := Lib.hid (HTB2.out.below hb3)
  have HS3 := Lib.hid (HS2.out.below hb3)
  have HFF3 := Lib.hid (HFF2.out.below hb3)
  have HDD3 := Lib.hid (HDD2.out.below hb3)
  have HSX3 := Lib.hid sx3
  have HB3 := Lib.hid (HB2.out.trans (hb3.mono HB2.out.size))
  have c03 := (hb3.cell (p := ⟨w.heap.size, 0, none⟩) hl2).trans c02
  have c13 := (hb3.cell (p := ⟨w.heap.size, 1, none⟩) hl2).trans c12
  have hl3 := Nat.lt_of_lt_of_le hl2 hb3.size
  have hck := HCK.out _ A2 AX c2 cX b _ F3 HTB3.out HSX3.out HDD3.out
  have HCC := Lib.hid hck
  clear hb3 c02 c12 c12a sf2 ho2 hba2 hck sx3
  refine (HCC.out).mono ?_
  rintro e w4 ⟨rfl, hb4⟩
  have c04 := (hb4.cell (p := ⟨w.heap.size, 0, none⟩) hl3).trans c03
  have c14 := (hb4.cell (p := ⟨w.heap.size, 1, none⟩) hl3).trans c13
  have hrk := HRK.out _ (HS3.out.below hb4) (HFF3.out.below hb4) (HDD3.out.below hb4)
  have HRR := Lib.hid hrk
  have HB4 := Lib.hid (HB3.out.trans (hb4.mono HB3.out.size))
  clear hrk hb4 c03 c13
  go_wp2_with fail
  refine (HRR.out).mono ?_
  rintro e w5 ⟨rfl, hb5⟩
  have HB5 := Lib.hid (HB4.out.trans (hb5.mono HB4.out.size))
  clear hb5
  go_wp2
  go_ret
  exact ⟨ret_bool (by simp), HB5.out⟩
theorem schecks_walk (w : World) (p : Int) (hp : I64 p) (claim : Int) (hcl : I64 claim) (d : Int) (hd : I64 d) (AR : Option Addr) (nR cR : Nat) (ls : List (List Int)) (hR : ArgMS w AR nR cR ls) (AF : Option Addr) (nF cF : Nat) (fs : List Int) (hF : ArgS w AF nF cF fs) (B : Option Addr) (m cb : Nat) (rs : List Int) (hb : ArgS w B m cb rs) (hT : Typed w) :
    Calls Tryd.prog 4 #[vi p, vi claim, vi d, .agg #[.slice AR nR cR, .slice AF nF cF], .slice B m cb] w fun e w' => SaysW (.bool true) w e w' := by
  have hm63 : m < 9223372036854775808 := by have := hb.cap; have := hb.reach; omega
  have hF63 : nF < 9223372036854775808 := by have := hF.cap; have := hF.reach; omega
  have hR63 : nR < 9223372036854775808 := by have := hR.n24; omega
  by_cases hFd : HasField p
  · obtain ⟨h3, hm, hpr⟩ := hFd
    obtain ⟨q, rfl⟩ := Int.eq_ofNat_of_zero_le (a := p) (by omega)
    rw [Int.toNat_natCast] at hpr
    haveI := hpr.ne
    by_cases hin : ChkIn q d nR nF m
    · obtain ⟨g1, g2, g3, g4, g5, g6⟩ := hin
      obtain ⟨e, rfl⟩ := Int.eq_ofNat_of_zero_le (a := d) (by omega)
      have g6' : nF = e := by omega
      subst g5 g6'
      refine schecks_some w q (by omega) (by omega) hpr claim nF (chkB q nF claim ls fs rs) AR nR cR ls hR AF nF cF fs hF B nR cb rs hb ?_ ?_ hT
      · intro S A2 AX c2 cX b W F h1 h2 h3
        exact scheck_in q S b claim hcl nF (by omega) (by omega) (by omega) A2 AX B nR c2 cX cb g4 ls fs rs hR.m.len hF.len hb.len hF.i64 hb.i64 W F h1 h2 h3
      · intro W h1 h2 h3
        exact rcheck_in q hpr (by omega) (by omega) claim hcl nF (by omega) (by omega) (by omega) AR AF B nR cR cF cb g4 ls fs rs hR.m.len hF.len hb.len hF.i64 hb.i64 W h1 h2 h3
    · refine schecks_some w q (by omega) (by omega) hpr claim d false AR nR cR ls hR AF nF cF fs hF B m cb rs hb ?_ ?_ hT
      · intro S A2 AX c2 cX b W F h1 h2 h3
        exact scheck_out q b (by omega) claim d hd A2 AX B nR c2 nF cX m cb hR63 hF63 hm63 hin W F.c0
      · intro W h1 h2 h3
        exact rcheck_out q claim d hd AR AF B nR cR nF cF m cb hR63 hF63 hm63 hin W
  · have hb0 : Below w.heap.size w (w.alloc (.cells #[.slice AR nR cR, .slice AF nF cF] 29)) := (Below.refl _ _).alloc (Nat.le_refl _) _
    have HN := Lib.hid (sfield_no p hp hFd _ (hT.below hb0))
    have HB0 := Lib.hid hb0
    clear hFd hb0
    go_enter Tryd.func4, Tryd.ntmps4
    go_wp2_with fail
    refine (HN.out).mono ?_
    rintro e w1 ⟨rfl, hb1⟩
    have HBX := Lib.hid (HB0.out.trans (hb1.mono HB0.out.size))
    clear hb1
    go_wp2
    go_ret
    exact ⟨rfl, HBX.out⟩
end Go.Proofs.YtgmkcmahbefcoaaDoor

/- Arguments that are structs of slices: each field opened. -/
set_option linter.unusedVariables false
namespace Go.Proofs.YtgmkcmahbefcoaaDoor
open Go.RowKit Go.ChangeShapes Go.WideShapes Go.ChangeAt

theorem sized_agg {H : Type} {P : Program} {ts : List TypeId} {ds : List (DataW H)} (h : (DataW.weightsEach P ts ds).all (· ≤ reachBytes) = true) {j : Nat} {t : TypeId} {fs : Array Field} {parts : List (DataW H)} (ht : ts[j]? = some t) (hd : ds[j]? = some (.agg parts)) (hu : P.underlying t = some (.struct fs)) :
    (DataW.weightsEach P (fs.toList.map (·.type)) parts).all (· ≤ reachBytes) = true := by
  rw [List.all_eq_true]
  intro n hn
  refine List.all_eq_true.1 h n (DataW.weights_mem_each ht hd n ?_)
  simp only [DataW.weights, hu]; exact hn
theorem arg_ints {H : Type} {enc : TypeId × Value → H} {tys : List TypeId} {ds : List (DataW H)} (hsz : (DataW.weightsEach Tryd.prog tys ds).all (· ≤ reachBytes) = true) {j : Nat} (ht : tys[j]? = some 23) {W : World} {n : Nat} {u : Value} {y : DataW H × List MemPlace} (hd : ds[j]? = some y.1)
    (hf : DataW.trod enc Tryd.prog W 0 (fun _ => true) true n 23 [u] = some y) : ∃ A len cap zs, u = .slice A len cap ∧ ArgS W A len cap zs := by
  have lt : ∀ x ∈ y.2, x.block < W.heap.size := DataW.trod_lt n _ _ _ hf
  rcases open_ints Tryd.underlying23 Tryd.underlying3 (by kernel_rfl) hf with ⟨hcs, hx⟩ | ⟨x, l, c, zs, hcs, _, hl, hm, hz, hx, hcell, hwz⟩
  · simp at hcs
    subst hcs
    exact ⟨none, 0, 0, [], rfl, ArgS.nil _⟩
  · simp at hcs
    subst hcs
    rw [hx] at hd lt
    have hb : c * 8 ≤ 140737488351232 := by
      have h := sized_slice hsz (j := j) (t := 23) (e := 3) ht hd Tryd.underlying23
      rw [bytesI] at h
      simp only [lits, List.length_map, List.length_take, List.length_drop, reachBytes] at h
      have hz' : zs.length = c := by simpa using hz
      omega
    exact ⟨some x, l, c, zs.take l, rfl, ArgS.mk_ hl hm (by simpa using hz) (fun p hp' => lt p hp') hcell hwz hb⟩
theorem arg_rows {H : Type} {enc : TypeId × Value → H} {tys : List TypeId} {ds : List (DataW H)} (hsz : (DataW.weightsEach Tryd.prog tys ds).all (· ≤ reachBytes) = true) {j : Nat} (ht : tys[j]? = some 22) {W : World} {n : Nat} {u : Value} {y : DataW H × List MemPlace} (hd : ds[j]? = some y.1)
    (hf : DataW.trod enc Tryd.prog W 0 (fun _ => true) true n 22 [u] = some y) : ∃ A len cap ts, u = .slice A len cap ∧ ArgMS W A len cap ts := by
  rcases Go.Deep.open_int_rows Tryd.underlying22 Tryd.underlying23 Tryd.underlying3 (by kernel_rfl) (by kernel_rfl) hf with ⟨hcs, hx⟩ | ⟨x, l, c, AA, LL, CC, ZZ, hcs, _, hl, hm, hx, hrow⟩
  · simp at hcs
    subst hcs
    exact ⟨none, 0, 0, [], rfl, ArgMS.nil _⟩
  · simp at hcs
    subst hcs
    rw [hx] at hd
    exact ⟨some x, l, c, _, rfl, ArgMS.mk_ hsz (j := j) ht hd hl hm hrow⟩
end Go.Proofs.YtgmkcmahbefcoaaDoor
