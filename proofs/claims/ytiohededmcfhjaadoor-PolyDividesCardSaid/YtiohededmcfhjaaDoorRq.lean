/- Walks of the reference's polynomials: Plus, Scaled, Minus, Times, Eval. -/
import Derived.Test.YtiohededmcfhjaaDoorRp
set_option linter.unusedVariables false
namespace Go.Proofs.YtiohededmcfhjaaDoor
open Go.RowKit Zp

/-- what a loop has laid so far, k of n -/
def LaidRel (l : List Int) (n : Nat) (w : World) (v i : Value) (wr : World) : Prop := ∃ k : Nat, k ≤ n ∧ i = vi k ∧ Own wr w.heap.size v (l.take k) ∧ Below w.heap.size w wr

set_option maxRecDepth 100000 in
set_option maxHeartbeats 1000000 in
theorem rplus_n (p : Nat) [NeZero p] (hp2 : p ≤ 2147483647) (A B : Option Addr) (na ca nb cb : Nat) (xs ys : List Int) (hna : xs.length = na) (hnb : ys.length = nb) (hxs : ∀ n ∈ xs, I64 n) (hys : ∀ n ∈ ys, I64 n) (hrx : na ≤ 17592186043904) (hry : nb ≤ 17592186043904)
    (w : World) (hsx : SL w A xs) (hsy : SL w B ys) :
    Calls Tryd.prog 20 #[vi p, .slice A na ca, .slice B nb cb] w fun e w' => Made (fvs (trimL (addL (els p xs) (els p ys)))) w e w' := by
  obtain ⟨n, hn⟩ : ∃ n, n = max na nb := ⟨_, rfl⟩
  have hn8 : n ≤ 17592186043904 := by omega
  obtain ⟨l, hl⟩ : ∃ l, l = addL (els p xs) (els p ys) := ⟨_, rfl⟩
  rw [← hl]
  have hll : l.length = n := by rw [hl, addL, tab_length, List.length_map, List.length_map, hna, hnb, hn]
  have hnn : na ≤ n ∧ nb ≤ n ∧ (n = na ∨ n = nb) := by omega
  obtain ⟨hn1, hn2, hn3⟩ := hnn
  have hco : ∀ k, co l k = el p (xs.getD k 0) + el p (ys.getD k 0) := fun k => by rw [hl, co_addL, co_els, co_els]
  have HLL := Lib.hid hll
  have HCO := Lib.hid hco
  have HNA := Lib.hid hna
  have HNB := Lib.hid hnb
  have HN3 := Lib.hid hn3
  clear hl hn hll hna hnb hco hn3
  go_enter Tryd.func20, Tryd.ntmps20
  go_wp2
  go_loopw [7, 8, 9, 10, 11] (fun v i _ _ _ wr => LaidRel (fvs l) n w v i wr) (fun _ i _ _ _ _ => n - (intOf i).toNat)
  case atStart => exact ⟨0, Nat.zero_le _, rfl, World.ownsRow_nil _ _ _ _, Below.refl _ _⟩
  case round =>
    obtain ⟨k, hk, rfl, hown, hb⟩ := hrel
    by_cases hkn : k < n
    · have hsx' := hsx.below hb
      have hsy' := hsy.below hb
      have h2 := map_take_succ fv l k (by rw [HLL.out]; exact hkn)
      have h3 : l[k]'(by rw [HLL.out]; exact hkn) = el p (xs.getD k 0) + el p (ys.getD k 0) := by
        rw [← co_of_lt (by rw [HLL.out]; exact hkn), HCO.out]
      rw [h3] at h2
      have hatx := fun (W : World) hs => ref_at_n A _ ca xs HNA.out (by omega) k (by constructor <;> omega) W hs
      have haty := fun (W : World) hs => ref_at_n B _ cb ys HNB.out (by omega) k (by constructor <;> omega) W hs
      rw [atI_getD] at hatx haty
      have ix := i64_getD' hxs k
      have iy := i64_getD' hys k
      generalize xs.getD k 0 = x at hatx h2 ix
      generalize ys.getD k 0 = y at haty h2 iy
      have hadd := fun W => radd_any p hp2 x y ix iy W
      generalize el p x + el p y = Z at hadd h2
      have hlk : ((fvs l).take k).length = k := by rw [List.length_take, List.length_map, HLL.out]; omega
      have hl16 : ((fvs l).take k).length < 17592186044416 := by omega
      have H2 := Lib.hid h2
      have HATX := Lib.hid hatx
      have HATY := Lib.hid haty
      have HADD := Lib.hid hadd
      have H16 := Lib.hid hl16
      clear hatx haty hadd h2 h3 hlk hl16
      have hcase : k < na ∨ ¬ k < na ∧ k < nb := by have := HN3.out; omega
      rcases hcase with hlt | ⟨hlt, hlt2⟩
      · go_wp2_with fail
        refine (HATX.out _ hsx').mono ?_
        rintro e w' ⟨rfl, rfl⟩
        go_wp2_with fail
        refine (HATY.out _ hsy').mono ?_
        rintro e w' ⟨rfl, rfl⟩
        go_wp2_with (first | (go_at_call 43; refine (HADD.out _).mono ?_; rintro e w' ⟨rfl, rfl⟩) | (at_builtin; refine wpList_app1 wr (fv Z) rfl _ _ rfl w.heap.size _ _ rfl rfl hown H16.out hb.size ?_; intro v' w1 hg))
        go_roundw
        case rel => exact ⟨k + 1, by omega, by go_num, by rw [← H2.out]; exact hg.own, hg.below hb hown (Nat.le_refl _) hb.size⟩
        case measure => simp [intOf]; omega
      · go_wp2_with fail
        refine (HATX.out _ hsx').mono ?_
        rintro e w' ⟨rfl, rfl⟩
        go_wp2_with fail
        refine (HATY.out _ hsy').mono ?_
        rintro e w' ⟨rfl, rfl⟩
        go_wp2_with (first | (go_at_call 43; refine (HADD.out _).mono ?_; rintro e w' ⟨rfl, rfl⟩) | (at_builtin; refine wpList_app1 wr (fv Z) rfl _ _ rfl w.heap.size _ _ rfl rfl hown H16.out hb.size ?_; intro v' w1 hg))
        go_roundw
        case rel => exact ⟨k + 1, by omega, by go_num, by rw [← H2.out]; exact hg.own, hg.below hb hown (Nat.le_refl _) hb.size⟩
        case measure => simp [intOf]; omega
    · obtain rfl : k = n := by omega
      have hLn : (fvs l).length = k := by rw [List.length_map, HLL.out]
      rw [List.take_of_length_le (by rw [hLn]; exact Nat.le_refl _)] at hown
      obtain ⟨A1, n1, c1, rfl, hl1, hc1, _, hs1⟩ := hown.shapeN
      rw [hLn] at hl1
      subst hl1
      have ht := rtrim_n p hp2 A1 k c1 (fvs l) hLn (i64_fvsR l hp2) (by omega) hc1 wr hs1
      rw [els_fvs] at ht
      have HT := Lib.hid ht
      clear ht hLn hown
      go_wp2_with fail
      refine (HT.out).mono ?_
      rintro e w4 ⟨v4, rfl, hown4, hb4⟩
      go_wp2
      go_ret
      exact ⟨v4, rfl, hown4.more hb.size, hb.trans (hb4.mono hb.size)⟩

set_option maxRecDepth 100000 in
set_option maxHeartbeats 1000000 in
theorem rscaled_n (p : Nat) [NeZero p] (hp2 : p ≤ 2147483647) (A : Option Addr) (na ca : Nat) (xs : List Int) (hna : xs.length = na) (hxs : ∀ n ∈ xs, I64 n) (c : Int) (hc : I64 c) (m : Nat) (hm : m ≤ 17592186043904) (hrx : m + na ≤ 17592186043904)
    (w : World) (hsx : SL w A xs) :
    Calls Tryd.prog 30 #[vi p, .slice A na ca, vi c, vi m] w fun e w' => Made (fvs (sclL (els p xs) (el p c) m)) w e w' := by
  obtain ⟨l, hl⟩ : ∃ l, l = (els p xs).map (· * el p c) := ⟨_, rfl⟩
  obtain ⟨L, hL⟩ : ∃ L, L = List.replicate m 0 ++ l := ⟨_, rfl⟩
  have hsc : sclL (els p xs) (el p c) m = trimL L := by rw [hL, hl]; rfl
  rw [hsc]
  have HL := Lib.hid hL
  have hll : l.length = na := by rw [hl]; simp [hna]
  have hco : ∀ k (hk : k < xs.length) (hk' : k < l.length), l[k] = el p xs[k] * el p c := fun k hk hk' => by simp [hl]
  have hmk := make_ints m m (Nat.le_refl _) (by omega)
  have HLL := Lib.hid hll
  have HCO := Lib.hid hco
  have HNA := Lib.hid hna
  clear hl hll hna hco hsc hL
  go_enter Tryd.func30, Tryd.ntmps30
  go_wp2
  go_loopw [9, 10, 11] (fun v i _ wr => ∃ k : Nat, k ≤ na ∧ i = vi k ∧ Own wr w.heap.size v (List.replicate m 0 ++ (fvs l).take k) ∧ Below w.heap.size w wr) (fun _ i _ _ => na - (intOf i).toNat)
  case atStart => exact ⟨0, Nat.zero_le _, rfl, by simpa using own_made w _ m (Nat.le_refl _) (by omega), (Below.refl _ _).alloc (Nat.le_refl _) _⟩
  case round =>
    obtain ⟨k, hk, rfl, hown, hb⟩ := hrel
    by_cases hkn : k < na
    · have hkx : k < xs.length := by rw [HNA.out]; exact hkn
      have hkl : k < l.length := by rw [HLL.out]; exact hkn
      obtain ⟨ad, rfl, hab, hcell⟩ := (hsx.below hb).at_ hkx
      have hI := hxs _ (List.getElem_mem hkx)
      have h2 := map_take_succ fv l k hkl
      rw [HCO.out k hkx hkl] at h2
      have hmul := fun W => rmul_any p hp2 xs[k] c hI hc W
      generalize xs[k] = x at hcell hI h2 hmul
      generalize el p x * el p c = Z at h2 hmul
      have hlk : (List.replicate m (0 : Int) ++ (fvs l).take k).length < 17592186044416 := by
        rw [List.length_append, List.length_replicate, List.length_take, List.length_map, HLL.out]; omega
      have HLK := Lib.hid hlk
      have H2 := Lib.hid h2
      have HMUL := Lib.hid hmul
      clear h2 hmul hlk
      go_wp2_with (first | (go_at_call 51; refine (HMUL.out _).mono ?_; rintro e w' ⟨rfl, rfl⟩) | (at_builtin; refine wpList_app1 wr (fv Z) rfl _ _ rfl w.heap.size _ _ rfl rfl hown HLK.out hb.size ?_; intro v' w1 hg))
      go_roundw
      case rel =>
        refine ⟨k + 1, by omega, by go_num, ?_, hg.below hb hown (Nat.le_refl _) hb.size⟩
        have h1 := hg.own
        rw [List.append_assoc, H2.out] at h1
        exact h1
      case measure => simp [intOf]; omega
    · obtain rfl : k = na := by omega
      have hfv : List.replicate m (0 : Int) ++ (fvs l).take k = fvs L := by
        rw [List.take_of_length_le (by rw [List.length_map, HLL.out]; exact Nat.le_refl _), HL.out]; simp [fv_zero]
      rw [hfv] at hown
      have hLn : (fvs L).length = m + k := by rw [HL.out, List.length_map, List.length_append, List.length_replicate, HLL.out]
      obtain ⟨A1, n1, c1, rfl, hl1, hc1, _, hs1⟩ := hown.shapeN
      have ht := rtrim_n p hp2 A1 n1 c1 (fvs L) hl1 (i64_fvsR L hp2) (by omega) hc1 wr hs1
      rw [els_fvs] at ht
      have HT := Lib.hid ht
      clear ht hLn hown hl1 hfv
      go_wp2_with fail
      refine (HT.out).mono ?_
      rintro e w4 ⟨v4, rfl, hown4, hb4⟩
      go_wp2
      go_ret
      exact ⟨v4, rfl, hown4.more hb.size, hb.trans (hb4.mono hb.size)⟩

theorem rminus_n (p : Nat) [NeZero p] (hp2 : p ≤ 2147483647) (A B : Option Addr) (na ca nb cb : Nat) (xs ys : List Int) (hna : xs.length = na) (hnb : ys.length = nb) (hxs : ∀ n ∈ xs, I64 n) (hys : ∀ n ∈ ys, I64 n) (hrx : na ≤ 17592186043904) (hry : nb ≤ 17592186043904)
    (w : World) (hsx : SL w A xs) (hsy : SL w B ys) :
    Calls Tryd.prog 31 #[vi p, .slice A na ca, .slice B nb cb] w fun e w' => Made (fvs (trimL (subL (els p xs) (els p ys)))) w e w' := by
  have hs := Lib.hid (rscaled_n p hp2 B nb cb ys hnb hys (-1) (by constructor <;> decide) 0 (by omega) (by omega) w hsy)
  have hpl := fun (C : Option Addr) (nc cc : Nat) hl hr W hsx' hsy' => rplus_n p hp2 A C na ca nc cc xs (fvs (sclL (els p ys) (el p (-1)) 0)) hna hl hxs (i64_fvsR _ hp2) hrx hr W hsx' hsy'
  have e : trimL (addL (els p xs) (sclL (els p ys) (el p (-1)) 0)) = trimL (subL (els p xs) (els p ys)) := trimL_congr fun i => by
    rw [co_addL, co_subL, co_sclL, if_neg (by omega), Nat.sub_zero, el_neg, el_one]; grind
  simp only [els_fvs] at hpl
  rw [e] at hpl
  have hsl : (sclL (els p ys) (el p (-1)) 0).length ≤ 17592186043904 := by
    have := sclL_length (els p ys) (el p (-1)) 0
    rw [List.length_map, hnb] at this; omega
  have HPL := Lib.hid hpl
  have HSL := Lib.hid hsl
  clear hpl hna hnb e hsl
  go_enter Tryd.func31, Tryd.ntmps31
  go_wp2_with fail
  refine (hs.out).mono ?_
  rintro e w1 ⟨v, rfl, hown, hb⟩
  obtain ⟨A1, n1, c1, rfl, hl1, hc1, _, hs1⟩ := hown.shapeN
  have hr : n1 ≤ 17592186043904 := by rw [← hl1, List.length_map]; exact HSL.out
  have H1 := Lib.hid hl1
  clear hl1 hown
  go_wp2_with fail
  refine (HPL.out A1 n1 c1 H1.out hr _ (hsx.below hb) hs1).mono ?_
  rintro e w2 ⟨v2, rfl, hown2, hb2⟩
  go_wp2
  go_ret
  exact ⟨v2, rfl, hown2.more hb.size, hb.trans (hb2.mono hb.size)⟩

theorem trim_times {p : Nat} [NeZero p] (a b : List (Fin p)) (k : Nat) (hk : k < a.length) : trimL (addL (trimL (mulL (a.take k) b)) (sclL b a[k] k)) = trimL (mulL (a.take (k + 1)) b) := trimL_congr fun i => by
  have hl : (a.take k).length = k := by rw [List.length_take]; omega
  rw [List.take_succ_eq_append_getElem hk, co_mulL_snoc, co_addL, co_trim, co_sclL, hl]
  by_cases h : i < k
  · rw [if_pos h, if_neg (by omega)]
  · rw [if_neg h, if_pos (by omega)]; grind

set_option maxRecDepth 100000 in
set_option maxHeartbeats 1000000 in
theorem rtimes_n (p : Nat) [NeZero p] (hp2 : p ≤ 2147483647) (A B : Option Addr) (na ca nb cb : Nat) (xs ys : List Int) (hna : xs.length = na) (hnb : ys.length = nb) (hxs : ∀ n ∈ xs, I64 n) (hys : ∀ n ∈ ys, I64 n) (hr : na + nb ≤ 17592186043904)
    (w : World) (hsx : SL w A xs) (hsy : SL w B ys) :
    Calls Tryd.prog 19 #[vi p, .slice A na ca, .slice B nb cb] w fun e w' => Made (fvs (trimL (mulL (els p xs) (els p ys)))) w e w' := by
  have HNA := Lib.hid hna
  have HNB := Lib.hid hnb
  clear hna hnb
  go_enter Tryd.func19, Tryd.ntmps19
  go_wp2
  go_loopw [7, 8, 9] (fun v i _ wr => ∃ k : Nat, k ≤ na ∧ i = vi k ∧ Own wr w.heap.size v (fvs (trimL (mulL ((els p xs).take k) (els p ys)))) ∧ Below w.heap.size w wr) (fun _ i _ _ => na - (intOf i).toNat)
  case atStart => exact ⟨0, Nat.zero_le _, rfl, World.ownsRow_nil _ _ _ _, Below.refl _ _⟩
  case round =>
    obtain ⟨k, hk, rfl, hown, hb⟩ := hrel
    by_cases hkn : k < na
    · have hkx : k < xs.length := by rw [HNA.out]; exact hkn
      have hke : k < (els p xs).length := by simpa using hkx
      obtain ⟨ad, rfl, hab, hcell⟩ := (hsx.below hb).at_ hkx
      have hI := hxs _ (List.getElem_mem hkx)
      have hst := trim_times (els p xs) (els p ys) k hke
      have e1 : (els p xs)[k] = el p xs[k] := by simp
      rw [e1] at hst
      generalize xs[k] = x at hcell hI hst e1
      have hlen : (trimL (mulL ((els p xs).take k) (els p ys))).length ≤ 17592186043904 := by
        have h1 := mulL_trim_length ((els p xs).take k) (els p ys)
        rw [List.length_take, List.length_map, HNA.out, List.length_map, HNB.out] at h1; omega
      have hlen2 : (sclL (els p ys) (el p x) k).length ≤ 17592186043904 := by
        have h1 := sclL_length (els p ys) (el p x) k
        rw [List.length_map, HNB.out] at h1; omega
      generalize trimL (mulL ((els p xs).take k) (els p ys)) = O at hown hlen hst
      have hsc := rscaled_n p hp2 B nb cb ys HNB.out hys x hI k (by omega) (by omega) _ (hsy.below hb)
      generalize sclL (els p ys) (el p x) k = S at hsc hlen2 hst
      obtain ⟨A1, n1, c1, rfl, hl1, hc1, _, hs1⟩ := hown.shapeN
      rw [List.length_map] at hl1
      have hpl := fun (C : Option Addr) (nc cc : Nat) hl hr W hsx' hsy' => rplus_n p hp2 A1 C n1 c1 nc cc (fvs O) (fvs S) (by rw [List.length_map]; exact hl1) hl (i64_fvsR _ hp2) (i64_fvsR _ hp2) (by omega) hr W hsx' hsy'
      simp only [els_fvs] at hpl
      rw [hst] at hpl
      have HPL := Lib.hid hpl
      have HSC := Lib.hid hsc
      have HL2 := Lib.hid hlen2
      clear hpl hsc hst hlen2 hlen hl1 hown e1
      go_wp2_with fail
      refine (HSC.out).mono ?_
      rintro e w1 ⟨v, rfl, hown1, hb1⟩
      obtain ⟨A2, n2, c2, rfl, hl2, hc2, _, hs2⟩ := hown1.shapeN
      have hr2 : n2 ≤ 17592186043904 := by rw [← hl2, List.length_map]; exact HL2.out
      have H2 := Lib.hid hl2
      clear hl2 hown1
      go_wp2_with fail
      refine (HPL.out A2 n2 c2 H2.out hr2 _ (hs1.below hb1) hs2).mono ?_
      rintro e w2 ⟨v2, rfl, hown2, hb2⟩
      have hbel2 := hb.trans ((hb1.trans (hb2.mono hb1.size)).mono hb.size)
      have hown3 := hown2.more (Nat.le_trans hb.size hb1.size)
      clear hown2 hb2
      go_wp2
      go_roundw
      case rel => exact ⟨k + 1, by omega, by go_num, hown3, hbel2⟩
      case measure => simp [intOf]; omega
    · obtain rfl : k = na := by omega
      rw [List.take_of_length_le (by rw [List.length_map, HNA.out]; exact Nat.le_refl _)] at hown
      go_wp2
      go_ret
      exact ⟨_, rfl, hown, hb⟩

def EvalRel {p : Nat} [NeZero p] (l : List (Fin p)) (X : Fin p) (s q i : Value) : Prop := ∃ k : Nat, k ≤ l.length ∧ i = vi k ∧ s = vi (fv (ev (l.take k) X)) ∧ q = vi (fv (pw X k))
set_option maxRecDepth 100000 in
set_option maxHeartbeats 1000000 in
theorem reval_n (p : Nat) [NeZero p] (hp1 : 2 ≤ p) (hp2 : p ≤ 2147483647) (A : Option Addr) (na ca : Nat) (xs : List Int) (hna : xs.length = na) (hxs : ∀ n ∈ xs, I64 n) (hr : na * 8 ≤ 281474976710656) (x : Int) (hx : I64 x) (w : World) (hsx : SL w A xs) :
    Calls Tryd.prog 37 #[vi p, .slice A na ca, vi x] w fun e w' => e = .returned (vi (fv (ev (els p xs) (el p x)))) ∧ w = w' := by
  obtain ⟨l, hl⟩ : ∃ l, l = els p xs := ⟨_, rfl⟩
  rw [← hl]
  have hll : l.length = na := by rw [hl]; simp [hna]
  have hco : ∀ k (hk : k < xs.length) (hk' : k < l.length), l[k] = el p xs[k] := fun k hk hk' => by simp [hl]
  have HLL := Lib.hid hll
  have HCO := Lib.hid hco
  have HNA := Lib.hid hna
  clear hl hll hna hco
  go_enter Tryd.func37, Tryd.ntmps37
  go_wp2
  go_loop [7, 8, 9, 10] (fun s q i _ => EvalRel l (el p x) s q i) (fun _ _ i _ => na - (intOf i).toNat)
  case atStart => exact ⟨0, Nat.zero_le _, rfl, rfl, by rw [pw_zero, fv_one hp1]⟩
  case round =>
    obtain ⟨k, hk, rfl, rfl, rfl⟩ := hrel
    rw [HLL.out] at hk
    by_cases hkn : k < na
    · have hkx : k < xs.length := by rw [HNA.out]; exact hkn
      have hkl : k < l.length := by rw [HLL.out]; exact hkn
      obtain ⟨ad, rfl, hab, hcell⟩ := hsx.at_ hkx
      have hI := hxs _ (List.getElem_mem hkx)
      have hst : ev (l.take (k + 1)) (el p x) = ev (l.take k) (el p x) + el p xs[k] * pw (el p x) k := by
        rw [List.take_succ_eq_append_getElem hkl, ev_snoc, HCO.out k hkx hkl, List.length_take]
        congr 3; omega
      have hpw := pw_succ (el p x) k
      have hmul := fun W => rmul_any p hp2 xs[k] (fv (pw (el p x) k)) hI (i64_fv _ hp2) W
      have hmul2 := fun W => rmul_any p hp2 (fv (pw (el p x) k)) x (i64_fv _ hp2) hx W
      rw [el_fv] at hmul hmul2
      rw [← hpw] at hmul2
      generalize xs[k] = c at hcell hI hst hmul
      generalize el p c * pw (el p x) k = Z at hst hmul
      have h1 := fv_nonneg Z
      have h2 := fv_lt Z
      have h3 := fv_nonneg (ev (l.take k) (el p x))
      have h4 := fv_lt (ev (l.take k) (el p x))
      have hsum := fv_add (ev (l.take k) (el p x)) Z
      rw [← hst] at hsum
      have HMUL := Lib.hid hmul
      have HMUL2 := Lib.hid hmul2
      have HSUM := Lib.hid hsum
      clear hmul hmul2 hsum hst hpw
      go_wp2_with fail
      refine (HMUL.out _).mono ?_
      rintro e w' ⟨rfl, rfl⟩
      go_wp2_with fail
      refine (HMUL2.out _).mono ?_
      rintro e w' ⟨rfl, rfl⟩
      go_wp2
      go_round
      case rel => exact ⟨k + 1, by rw [HLL.out]; omega, by go_num, by rw [HSUM.out], rfl⟩
      case measure => simp [intOf]; omega
    · obtain rfl : k = na := by omega
      have he : l.take k = l := List.take_of_length_le (by rw [HLL.out]; exact Nat.le_refl _)
      have HE := Lib.hid he
      clear he
      go_wp2
      go_ret
      exact ⟨ret_int (by rw [HE.out]), rfl⟩
end Go.Proofs.YtiohededmcfhjaaDoor
