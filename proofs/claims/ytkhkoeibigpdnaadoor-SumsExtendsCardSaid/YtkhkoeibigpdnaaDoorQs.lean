/- Walks of the reference's sums: Variables, weight, Extend, Fix. -/
import Derived.Test.YtkhkoeibigpdnaaDoorWt
import Derived.Test.YtkhkoeibigpdnaaDoorRq
import Derived.Test.YtkhkoeibigpdnaaDoorSm3
set_option linter.unusedVariables false
namespace Go.Proofs.YtkhkoeibigpdnaaDoor
open Go.RowKit Zp

set_option maxHeartbeats 1000000 in
theorem rvars_n (A : Option Addr) (n cap : Nat) (hn : n < 9223372036854775808) (w : World) :
    Calls Tryd.prog 43 #[.slice A n cap] w fun e w' => e = .returned (vi (varsI n)) ∧ w = w' := by
  go_enter Tryd.func43, Tryd.ntmps43
  go_wp2
  go_loop [3, 4] (fun a v => ∃ j N : Nat, j ≤ 13 ∧ N = 2 ^ j ∧ a = vi N ∧ v = vi j ∧ ∀ i, i < j → n ≠ 2 ^ i) (fun _ v => 14 - (intOf v).toNat)
  case atStart => exact ⟨0, 1, by omega, rfl, rfl, rfl, fun i hi => absurd hi (by omega)⟩
  case round =>
    obtain ⟨j, N, hj, hN, rfl, rfl, hno⟩ := hrel
    have HNO := Lib.hid hno
    clear hno
    by_cases hj12 : j ≤ 12
    · have hN2 : N ≤ 4096 := by rw [hN]; exact Nat.pow_le_pow_right (n := 2) (by omega) hj12
      have hN3 : N * 2 = 2 ^ (j + 1) := by rw [hN, Nat.pow_succ]
      have HN3 := Lib.hid hN3
      by_cases he : n = N
      · have hv : varsI n = j := varsI_of ⟨hj12, by rw [he, hN]⟩
        have HV := Lib.hid hv
        have t1 : ((n : Int) == (N : Int)) = true := by rw [he]; simp
        clear hv hN hN3 he
        go_wp2
        go_ret
        exact ⟨ret_int HV.out.symm, rfl⟩
      · have t1 : ((n : Int) == (N : Int)) = false := by rw [beq_eq_false_iff_ne]; omega
        have hno2 : ∀ i, i < j + 1 → n ≠ 2 ^ i := fun i hi => by
          by_cases hij : i = j
          · rw [hij, ← hN]; exact he
          · exact HNO.out i (by omega)
        have HNO2 := Lib.hid hno2
        clear hN hN3 he hno2
        go_wp2
        go_round
        case rel => exact ⟨j + 1, N * 2, by omega, HN3.out, by go_num, by go_num, HNO2.out⟩
        case measure => simp [intOf]; omega
    · have hv : varsI n = -1 := varsI_no (fun ⟨v, hv⟩ => HNO.out v (by have := hv.1; omega) hv.2)
      have HV := Lib.hid hv
      clear hv hN
      go_wp2
      go_ret
      exact ⟨ret_int HV.out.symm, rfl⟩

theorem wtL_drop {p : Nat} [NeZero p] (rs : List (Fin p)) (v c i : Nat) (hl : rs.length = v) (hc : c < v) (hh : v - 1 - c < rs.length) : wtL (rs.drop (v - (c + 1))) i = wtL (rs.drop (v - c)) i * wtE rs[v - 1 - c] c i := by
  have e : v - (c + 1) = v - 1 - c := by omega
  rw [e, List.drop_eq_getElem_cons hh, wtL, show v - 1 - c + 1 = v - c by omega, List.length_drop, show rs.length - (v - c) = c by omega]
def WtRel {p : Nat} [NeZero p] (l : List (Fin p)) (v i : Nat) (x h j : Value) : Prop := ∃ c H : Nat, c ≤ v ∧ H = 2 ^ c ∧ h = vi H ∧ j = vi ((v : Int) - 1 - c) ∧ x = vi (fv (wtL (l.drop (v - c)) i))
set_option maxRecDepth 100000 in
set_option maxHeartbeats 1000000 in
theorem rweight_n (p : Nat) [NeZero p] (hp1 : 2 ≤ p) (hp2 : p ≤ 2147483647) (v : Nat) (hv : v ≤ 12) (i : Nat) (hi : i ≤ 4096) (A : Option Addr) (cap : Nat) (rs : List Int) (hl : rs.length = v) (hrs : ∀ x ∈ rs, I64 x) (w : World) (hs : SL w A rs) :
    Calls Tryd.prog 86 #[vi p, vi v, vi i, .slice A v cap] w fun e w' => e = .returned (vi (fv (wtL (els p rs) i))) ∧ w = w' := by
  obtain ⟨l, hll⟩ : ∃ l, l = els p rs := ⟨_, rfl⟩
  rw [← hll]
  have hlen : l.length = v := by rw [hll]; simp [hl]
  have hco : ∀ k (hk : k < rs.length) (hk' : k < l.length), l[k] = el p rs[k] := fun k hk hk' => by simp [hll]
  have HL := Lib.hid hl
  have HLEN := Lib.hid hlen
  have HCO := Lib.hid hco
  clear hll hl hlen hco
  go_enter Tryd.func86, Tryd.ntmps86
  go_wp2
  go_loop [9, 10, 11, 12] (fun x h j _ => WtRel l v i x h j) (fun _ _ j _ => (intOf j + 1).toNat)
  case atStart => exact ⟨0, 1, Nat.zero_le _, rfl, rfl, by simp, by rw [Nat.sub_zero, List.drop_of_length_le (by rw [HLEN.out]; exact Nat.le_refl _), wtL, fv_one hp1]⟩
  case round =>
    obtain ⟨c, H, hc, hH, rfl, rfl, rfl⟩ := hrel
    by_cases hcv : c < v
    · obtain ⟨J, hJ⟩ : ∃ J : Nat, J = v - 1 - c := ⟨_, rfl⟩
      have eJ : (v : Int) - 1 - c = (J : Int) := by omega
      have hJv : J < v := by omega
      have hJr : J < rs.length := by rw [HL.out]; omega
      have hJl : J < l.length := by rw [HLEN.out]; omega
      obtain ⟨ad, rfl, _, hcell⟩ := hs.at_ hJr
      have hI := hrs _ (List.getElem_mem hJr)
      have hst := wtL_drop l v c i HLEN.out hcv (by rw [HLEN.out]; omega)
      have e1 : l[v - 1 - c]'(by rw [HLEN.out]; omega) = el p rs[J] := by
        rw [← HCO.out J hJr hJl]
        congr 1
        exact hJ.symm
      rw [e1] at hst
      generalize rs[J] = r at hcell hI hst e1
      have hH2 : H ≤ 4096 := by rw [hH]; exact Nat.pow_le_pow_right (n := 2) (by omega) (show c ≤ 12 by omega)
      have hH3 : H * 2 = 2 ^ (c + 1) := by rw [hH, Nat.pow_succ]
      have hH1 : 1 ≤ H := by rw [hH]; exact Nat.pow_pos (by omega)
      obtain ⟨d, hd⟩ : ∃ d, d = i / H := ⟨_, rfl⟩
      obtain ⟨b, hb⟩ : ∃ b, b = d % 2 := ⟨_, rfl⟩
      have hdi : d ≤ i := by rw [hd]; exact Nat.div_le_self _ _
      have q1 : (i : Int).tdiv H = (d : Int) := by rw [Int.tdiv_eq_ediv_of_nonneg (by omega), hd]; omega
      have q2 : (i : Int) / H = (d : Int) := by rw [hd]; omega
      have q3 : (d : Int).tmod 2 = (b : Int) := by rw [Int.tmod_eq_emod_of_nonneg (by omega)]; omega
      have q4 : (d : Int) % 2 = (b : Int) := by omega
      have hwt : wtE (el p r) c i = if b = 0 then 1 - el p r else el p r := by unfold wtE; rw [← hH, ← hd, ← hb]
      rw [hwt] at hst
      have hof := fun W => rof_any p hp2 r hI W
      generalize el p r = R at hst hof hwt e1
      generalize wtL (l.drop (v - c)) i = X at hst
      rw [eJ]
      have eJ1 : (J : Int) - 1 = (v : Int) - 1 - ((c + 1 : Nat) : Int) := by omega
      have HOF := Lib.hid hof
      have HH3 := Lib.hid hH3
      have EJ := Lib.hid eJ1
      clear hof hH3 hH hd hb hwt e1 eJ hJ eJ1
      by_cases hb0 : b = 0
      · rw [if_pos hb0] at hst
        have t1 : ((b : Int) == 0) = true := by rw [hb0]; rfl
        have hsub := fun W => rsub_any p hp2 1 (fv R) (by constructor <;> decide) (i64_fv _ hp2) W
        have hmul := fun W => rmul_any p hp2 (fv X) (fv (1 - R)) (i64_fv _ hp2) (i64_fv _ hp2) W
        simp only [el_fv, el_one] at hsub hmul
        rw [← hst] at hmul
        have HSUB := Lib.hid hsub
        have HMUL := Lib.hid hmul
        clear hsub hmul hst hb0
        go_wp2_with fail
        refine (HOF.out _).mono ?_
        rintro e w' ⟨rfl, rfl⟩
        go_wp2_with fail
        refine (HSUB.out _).mono ?_
        rintro e w' ⟨rfl, rfl⟩
        go_wp2_with fail
        refine (HMUL.out _).mono ?_
        rintro e w' ⟨rfl, rfl⟩
        go_wp2
        go_round
        case rel => exact ⟨c + 1, H * 2, by omega, HH3.out, by go_num, by rw [← EJ.out], rfl⟩
        case measure => simp [intOf]
      · rw [if_neg hb0] at hst
        have t1 : ((b : Int) == 0) = false := by rw [beq_eq_false_iff_ne]; omega
        have hmul := fun W => rmul_any p hp2 (fv X) (fv R) (i64_fv _ hp2) (i64_fv _ hp2) W
        simp only [el_fv] at hmul
        rw [← hst] at hmul
        have HMUL := Lib.hid hmul
        clear hmul hst hb0
        go_wp2_with fail
        refine (HOF.out _).mono ?_
        rintro e w' ⟨rfl, rfl⟩
        go_wp2_with fail
        refine (HMUL.out _).mono ?_
        rintro e w' ⟨rfl, rfl⟩
        go_wp2
        go_round
        case rel => exact ⟨c + 1, H * 2, by omega, HH3.out, by go_num, by rw [← EJ.out], rfl⟩
        case measure => simp [intOf]
    · obtain rfl : c = v := by omega
      rw [Nat.sub_self, List.drop_zero]
      have e1 : (c : Int) - 1 - c = -1 := by omega
      rw [e1]
      clear hH e1
      go_wp2
      go_ret
      exact ⟨rfl, rfl⟩

def ExRel {p : Nat} [NeZero p] (f : Nat → Fin p) (n : Nat) (s i : Value) : Prop := ∃ k : Nat, k ≤ n ∧ i = vi k ∧ s = vi (fv (sumT k f))
set_option maxRecDepth 100000 in
set_option maxHeartbeats 1000000 in
theorem rextend_n (p : Nat) [NeZero p] (hp1 : 2 ≤ p) (hp2 : p ≤ 2147483647) (n v : Nat) (hcu : Cube n v) (A : Option Addr) (cap : Nat) (xs : List Int) (hml : xs.length = n) (hxs : ∀ x ∈ xs, I64 x) (B : Option Addr) (cb : Nat) (rs : List Int) (hrl : rs.length = v) (hrs : ∀ x ∈ rs, I64 x) (w : World) (hs : SL w A xs) (hsr : SL w B rs) :
    Calls Tryd.prog 44 #[vi p, .slice A n cap, .slice B v cb] w fun e w' => e = .returned (vi (fv (co (extL (els p xs) (els p rs)) 0))) ∧ w = w' := by
  have hv := hcu.1
  have hn := hcu.le
  have hval : co (extL (els p xs) (els p rs)) 0 = sumT n (fun i => co (els p xs) i * wtL (els p rs) i) := by
    rw [co_extL (by rw [List.length_map, List.length_map, hml, hrl]; exact hcu.2), extF_sum, List.length_map, hrl, ← hcu.2]
  rw [hval]
  have hwt := fun i hi => rweight_n p hp1 hp2 v hv i hi B cb rs hrl hrs w hsr
  have HML := Lib.hid hml
  have HWT := Lib.hid hwt
  clear hval hml hrl hwt hcu
  go_enter Tryd.func44, Tryd.ntmps44
  go_wp2
  go_loop [7, 8, 9, 10] (fun s i _ _ => ExRel (fun i => co (els p xs) i * wtL (els p rs) i) n s i) (fun _ i _ _ => n - (intOf i).toNat)
  case atStart => exact ⟨0, Nat.zero_le _, rfl, by rw [sumT, fv_zero]⟩
  case round =>
    obtain ⟨k, hk, rfl, rfl⟩ := hrel
    by_cases hkn : k < n
    · have hkx : k < xs.length := by rw [HML.out]; exact hkn
      obtain ⟨ad, rfl, _, hcell⟩ := hs.at_ hkx
      have hI := hxs _ (List.getElem_mem hkx)
      have hst := sumT_succ k (fun i => co (els p xs) i * wtL (els p rs) i)
      have hcx : co (els p xs) k = el p xs[k] := by rw [co_of_lt (by simpa using hkx)]; simp
      simp only [hcx] at hst
      have hw := HWT.out k (by omega)
      generalize xs[k] = x at hcell hI hst hcx
      generalize wtL (els p rs) k = W at hst hw
      have hmul := fun w => rmul_any p hp2 x (fv W) hI (i64_fv _ hp2) w
      simp only [el_fv] at hmul
      generalize el p x * W = Z at hst hmul
      generalize sumT k (fun i => co (els p xs) i * wtL (els p rs) i) = S at hst
      have h1 := fv_nonneg Z
      have h2 := fv_lt Z
      have h3 := fv_nonneg S
      have h4 := fv_lt S
      have hsum := fv_add S Z
      rw [← hst] at hsum
      have HW := Lib.hid hw
      have HMUL := Lib.hid hmul
      have HSUM := Lib.hid hsum
      clear hw hmul hst hsum hcx
      go_wp2_with fail
      refine (HW.out).mono ?_
      rintro e w' ⟨rfl, rfl⟩
      go_wp2_with fail
      refine (HMUL.out _).mono ?_
      rintro e w' ⟨rfl, rfl⟩
      go_wp2
      go_round
      case rel => exact ⟨k + 1, by omega, by go_num, by rw [HSUM.out]⟩
      case measure => simp [intOf]; omega
    · obtain rfl : k = n := by omega
      go_wp2
      go_ret
      exact ⟨rfl, rfl⟩

set_option maxRecDepth 100000 in
set_option maxHeartbeats 1000000 in
theorem rfix_n (p : Nat) [NeZero p] (hp2 : p ≤ 2147483647) (n h : Nat) (hn : n = 2 * h) (hn1 : n ≤ 65536) (A : Option Addr) (cap : Nat) (xs : List Int) (hml : xs.length = n) (hxs : ∀ x ∈ xs, I64 x) (r : Int) (hr : I64 r) (w : World) (hs : SL w A xs) :
    Calls Tryd.prog 46 #[vi p, .slice A n cap, vi r] w fun e w' => Made (fvs (fixL h (els p xs) (el p r))) w e w' := by
  obtain ⟨l, hl⟩ : ∃ l, l = fixL h (els p xs) (el p r) := ⟨_, rfl⟩
  rw [← hl]
  have hll : l.length = h := by rw [hl, fixL_length]
  have hco : ∀ k, k < h → co l k = fixE (co (els p xs) k) (co (els p xs) (k + h)) (el p r) := fun k hk => by rw [hl, co_fixL _ _ hk]
  have hsub := fun W => rsub_any p hp2 1 r (by constructor <;> decide) hr W
  rw [el_one] at hsub
  have t2 : (n : Int).tdiv 2 = (h : Int) := by rw [Int.tdiv_eq_ediv_of_nonneg (by omega)]; omega
  have t3 : (n : Int) / 2 = (h : Int) := by omega
  have HML := Lib.hid hml
  have HLL := Lib.hid hll
  have HCO := Lib.hid hco
  have HSUB := Lib.hid hsub
  have hh2 : 2 * h ≤ n := by omega
  have hh3 : h ≤ n := by omega
  clear hl hml hll hco hsub hn
  go_enter Tryd.func46, Tryd.ntmps46
  go_wp2_with fail
  refine (HSUB.out _).mono ?_
  rintro e w' ⟨rfl, rfl⟩
  go_wp2
  clear t2 t3
  go_loopw [7, 10, 11, 12, 13] (fun v i _ _ _ wr => LaidRel (fvs l) h w v i wr) (fun _ i _ _ _ _ => h - (intOf i).toNat)
  case atStart => exact ⟨0, Nat.zero_le _, rfl, World.ownsRow_nil _ _ _ _, Below.refl _ _⟩
  case round =>
    obtain ⟨k, hk, rfl, hown, hb⟩ := hrel
    by_cases hkh : k < h
    · have hsw := hs.below hb
      have hkx : k < xs.length := by rw [HML.out]; omega
      have hkx2 : k + h < xs.length := by rw [HML.out]; omega
      obtain ⟨ad, rfl, _, hc1⟩ := hsw.at_ hkx
      obtain ⟨ad', he, _, hc2⟩ := hsw.at_ hkx2
      injection he with he
      subst he
      have ix := hxs _ (List.getElem_mem hkx)
      have iy := hxs _ (List.getElem_mem hkx2)
      have hcx : co (els p xs) k = el p xs[k] := by rw [co_of_lt (by simpa using hkx)]; simp
      have hcy : co (els p xs) (k + h) = el p xs[k + h] := by rw [co_of_lt (by simpa using hkx2)]; simp
      have h2 := map_take_succ fv l k (by rw [HLL.out]; exact hkh)
      have h3 : l[k]'(by rw [HLL.out]; exact hkh) = fixE (co (els p xs) k) (co (els p xs) (k + h)) (el p r) := by
        rw [← co_of_lt (by rw [HLL.out]; exact hkh), HCO.out k hkh]
      rw [h3, hcx, hcy, fixE] at h2
      generalize xs[k] = x at hc1 ix h2 hcx
      generalize xs[k + h] = y at hc2 iy h2 hcy
      have hm1 := fun W => rmul_any p hp2 x (fv (1 - el p r)) ix (i64_fv _ hp2) W
      have hm2 := fun W => rmul_any p hp2 y r iy hr W
      have ha := fun W => radd_any p hp2 (fv (el p x * (1 - el p r))) (fv (el p y * el p r)) (i64_fv _ hp2) (i64_fv _ hp2) W
      simp only [el_fv] at hm1 ha
      generalize el p x * (1 - el p r) = P1 at hm1 ha h2
      generalize el p y * el p r = P2 at hm2 ha h2
      generalize P1 + P2 = Z at ha h2
      have hlk : ((fvs l).take k).length < 17592186044416 := by
        have := List.length_take_le k (fvs l); omega
      have i1 : (0 : Int) ≤ k := by omega
      have i2 : (k : Int) < n := by omega
      have i3 : (0 : Int) ≤ (k : Int) + h := by omega
      have i4 : (k : Int) + h < n := by omega
      have i5 : ((k : Int) + h).toNat = k + h := by omega
      have HM1 := Lib.hid hm1
      have HM2 := Lib.hid hm2
      have HA := Lib.hid ha
      have H2 := Lib.hid h2
      have HLK := Lib.hid hlk
      clear hm1 hm2 ha h2 h3 hlk hcx hcy
      go_wp2_with fail
      refine (HM1.out _).mono ?_
      rintro e w' ⟨rfl, rfl⟩
      go_wp2_with fail
      refine (HM2.out _).mono ?_
      rintro e w' ⟨rfl, rfl⟩
      go_wp2_with (first | (go_at_call 88; refine (HA.out _).mono ?_; rintro e w' ⟨rfl, rfl⟩) | (at_builtin; refine wpList_app1 wr (fv Z) rfl _ _ rfl w.heap.size _ _ rfl rfl hown HLK.out hb.size ?_; intro v' w1 hg))
      go_roundw
      case rel => exact ⟨k + 1, by omega, by go_num, by rw [← H2.out]; exact hg.own, hg.below hb hown (Nat.le_refl _) hb.size⟩
      case measure => simp [intOf]; omega
    · obtain rfl : k = h := by omega
      go_wp2
      go_ret
      rw [List.take_of_length_le (by rw [List.length_map, HLL.out]; exact Nat.le_refl _)] at hown
      exact ⟨_, rfl, hown, hb⟩
end Go.Proofs.YtkhkoeibigpdnaaDoor
