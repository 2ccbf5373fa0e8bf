/- A bundle of texts: Rq, Qs, Qo, Qr, Ro, Qd, Lv2, Md, Coef, LawG3, Qp, Sp, LawG5, Se, Sw, Sz, LawG7, LawG8. -/
import Derived.Test.YtgmkcmahbefcoaaDoorB03
import Derived.Test.YtgmkcmahbefcoaaDoorB00
import Derived.Test.YtgmkcmahbefcoaaDoorB02
import Derived.Test.YtgmkcmahbefcoaaDoorB01
import Derived.RegionTactic
import Derived.ChangeAlike
import Derived.Deep.RegionHeld3
import Derived.Deep.DeepCutAuto
import Derived.SizedLaws
import Derived.Deep.Matrix
/- Walks of the reference's polynomials: Plus, Scaled, Minus, Times, Eval. -/
set_option linter.unusedVariables false
namespace Go.Proofs.YtgmkcmahbefcoaaDoor
open Go.RowKit Zp

/-- what a loop has laid so far, k of n -/
def LaidRel (l : List Int) (n : Nat) (w : World) (v i : Value) (wr : World) : Prop := ∃ k : Nat, k ≤ n ∧ i = vi k ∧ Own wr w.heap.size v (l.take k) ∧ Below w.heap.size w wr

set_option maxRecDepth 100000 in
set_option maxHeartbeats 1000000 in
theorem rplus_n (p : Nat) [NeZero p] (hp2 : p ≤ 2147483647) (A B : Option Addr) (na ca nb cb : Nat) (xs ys : List Int) (hna : xs.length = na) (hnb : ys.length = nb) (hxs : ∀ n ∈ xs, I64 n) (hys : ∀ n ∈ ys, I64 n) (hrx : na ≤ 8388608) (hry : nb ≤ 8388608)
    (w : World) (hsx : SL w A xs) (hsy : SL w B ys) :
    Calls Tryd.prog 104 #[vi p, .slice A na ca, .slice B nb cb] w fun e w' => Made (fvs (trimL (addL (els p xs) (els p ys)))) w e w' := by
  obtain ⟨n, hn⟩ : ∃ n, n = max na nb := ⟨_, rfl⟩
  have hn8 : n ≤ 8388608 := by omega
  obtain ⟨l, hl⟩ : ∃ l, l = addL (els p xs) (els p ys) := ⟨_, rfl⟩
  rw [← hl]
  have hll : l.length = n := by rw [hl, addL, tab_length, List.length_map, List.length_map, hna, hnb, hn]
  have hnn : na ≤ n ∧ nb ≤ n ∧ (n = na ∨ n = nb) := by omega
  obtain ⟨hn1, hn2, hn3⟩ := hnn
  have hco : ∀ k, co l k = el p (xs.getD k 0) + el p (ys.getD k 0) := fun k => by rw [hl, co_addL, co_els, co_els]
  have HLL := Lib.hid hll
  have HCO := Lib.hid hco
  have HNA := Lib.hid hna
  have HNB := Lib.hid hnb
  have HN3 := Lib.hid hn3
  clear hl hn hll hna hnb hco hn3
  go_enter Tryd.func104, Tryd.ntmps104
  go_wp2
  go_loopw [7, 8, 9, 10, 11] (fun v i _ _ _ wr => LaidRel (fvs l) n w v i wr) (fun _ i _ _ _ _ => n - (intOf i).toNat)
  case atStart => exact ⟨0, Nat.zero_le _, rfl, World.ownsRow_nil _ _ _ _, Below.refl _ _⟩
  case round =>
    obtain ⟨k, hk, rfl, hown, hb⟩ := hrel
    by_cases hkn : k < n
    · have hsx' := hsx.below hb
      have hsy' := hsy.below hb
      have h2 := map_take_succ fv l k (by rw [HLL.out]; exact hkn)
      have h3 : l[k]'(by rw [HLL.out]; exact hkn) = el p (xs.getD k 0) + el p (ys.getD k 0) := by
        rw [← co_of_lt (by rw [HLL.out]; exact hkn), HCO.out]
      rw [h3] at h2
      have hatx := fun (W : World) hs => ref_at_n A _ ca xs HNA.out (by omega) k (by constructor <;> omega) W hs
      have haty := fun (W : World) hs => ref_at_n B _ cb ys HNB.out (by omega) k (by constructor <;> omega) W hs
      rw [atI_getD] at hatx haty
      have ix := i64_getD' hxs k
      have iy := i64_getD' hys k
      generalize xs.getD k 0 = x at hatx h2 ix
      generalize ys.getD k 0 = y at haty h2 iy
      have hadd := fun W => radd_any p hp2 x y ix iy W
      generalize el p x + el p y = Z at hadd h2
      have hlk : ((fvs l).take k).length = k := by rw [List.length_take, List.length_map, HLL.out]; omega
      have hl16 : ((fvs l).take k).length < 17592186044416 := by omega
      have H2 := Lib.hid h2
      have HATX := Lib.hid hatx
      have HATY := Lib.hid haty
      have HADD := Lib.hid hadd
      have H16 := Lib.hid hl16
      clear hatx haty hadd h2 h3 hlk hl16
      have hcase : k < na ∨ ¬ k < na ∧ k < nb := by have := HN3.out; omega
      rcases hcase with hlt | ⟨hlt, hlt2⟩
      · go_wp2_with fail
        refine (HATX.out _ hsx').mono ?_
        rintro e w' ⟨rfl, rfl⟩
        go_wp2_with fail
        refine (HATY.out _ hsy').mono ?_
        rintro e w' ⟨rfl, rfl⟩
        go_wp2_with (first | (go_at_call 48; refine (HADD.out _).mono ?_; rintro e w' ⟨rfl, rfl⟩) | (at_builtin; refine wpList_app1 wr (fv Z) rfl _ _ rfl w.heap.size _ _ rfl rfl hown H16.out hb.size ?_; intro v' w1 hg))
        go_roundw
        case rel => exact ⟨k + 1, by omega, by go_num, by rw [← H2.out]; exact hg.own, hg.below hb hown (Nat.le_refl _) hb.size⟩
        case measure => simp [intOf]; omega
      · go_wp2_with fail
        refine (HATX.out _ hsx').mono ?_
        rintro e w' ⟨rfl, rfl⟩
        go_wp2_with fail
        refine (HATY.out _ hsy').mono ?_
        rintro e w' ⟨rfl, rfl⟩
        go_wp2_with (first | (go_at_call 48; refine (HADD.out _).mono ?_; rintro e w' ⟨rfl, rfl⟩) | (at_builtin; refine wpList_app1 wr (fv Z) rfl _ _ rfl w.heap.size _ _ rfl rfl hown H16.out hb.size ?_; intro v' w1 hg))
        go_roundw
        case rel => exact ⟨k + 1, by omega, by go_num, by rw [← H2.out]; exact hg.own, hg.below hb hown (Nat.le_refl _) hb.size⟩
        case measure => simp [intOf]; omega
    · obtain rfl : k = n := by omega
      have hLn : (fvs l).length = k := by rw [List.length_map, HLL.out]
      rw [List.take_of_length_le (by rw [hLn]; exact Nat.le_refl _)] at hown
      obtain ⟨A1, n1, c1, rfl, hl1, hc1, _, hs1⟩ := hown.shapeN
      rw [hLn] at hl1
      subst hl1
      have ht := rtrim_n p hp2 A1 k c1 (fvs l) hLn (i64_fvsR l hp2) (by omega) hc1 wr hs1
      rw [els_fvs] at ht
      have HT := Lib.hid ht
      clear ht hLn hown
      go_wp2_with fail
      refine (HT.out).mono ?_
      rintro e w4 ⟨v4, rfl, hown4, hb4⟩
      go_wp2
      go_ret
      exact ⟨v4, rfl, hown4.more hb.size, hb.trans (hb4.mono hb.size)⟩

set_option maxRecDepth 100000 in
set_option maxHeartbeats 1000000 in
theorem rscaled_n (p : Nat) [NeZero p] (hp2 : p ≤ 2147483647) (A : Option Addr) (na ca : Nat) (xs : List Int) (hna : xs.length = na) (hxs : ∀ n ∈ xs, I64 n) (c : Int) (hc : I64 c) (m : Nat) (hm : m ≤ 8388608) (hrx : na ≤ 8388608)
    (w : World) (hsx : SL w A xs) :
    Calls Tryd.prog 103 #[vi p, .slice A na ca, vi c, vi m] w fun e w' => Made (fvs (sclL (els p xs) (el p c) m)) w e w' := by
  obtain ⟨l, hl⟩ : ∃ l, l = (els p xs).map (· * el p c) := ⟨_, rfl⟩
  obtain ⟨L, hL⟩ : ∃ L, L = List.replicate m 0 ++ l := ⟨_, rfl⟩
  have hsc : sclL (els p xs) (el p c) m = trimL L := by rw [hL, hl]; rfl
  rw [hsc]
  have HL := Lib.hid hL
  have hll : l.length = na := by rw [hl]; simp [hna]
  have hco : ∀ k (hk : k < xs.length) (hk' : k < l.length), l[k] = el p xs[k] * el p c := fun k hk hk' => by simp [hl]
  have hmk := make_ints m m (Nat.le_refl _) (by omega)
  have HLL := Lib.hid hll
  have HCO := Lib.hid hco
  have HNA := Lib.hid hna
  clear hl hll hna hco hsc hL
  go_enter Tryd.func103, Tryd.ntmps103
  go_wp2
  go_loopw [9, 10, 11] (fun v i _ wr => ∃ k : Nat, k ≤ na ∧ i = vi k ∧ Own wr w.heap.size v (List.replicate m 0 ++ (fvs l).take k) ∧ Below w.heap.size w wr) (fun _ i _ _ => na - (intOf i).toNat)
  case atStart => exact ⟨0, Nat.zero_le _, rfl, by simpa using own_made w _ m (Nat.le_refl _) (by omega), (Below.refl _ _).alloc (Nat.le_refl _) _⟩
  case round =>
    obtain ⟨k, hk, rfl, hown, hb⟩ := hrel
    by_cases hkn : k < na
    · have hkx : k < xs.length := by rw [HNA.out]; exact hkn
      have hkl : k < l.length := by rw [HLL.out]; exact hkn
      obtain ⟨ad, rfl, hab, hcell⟩ := (hsx.below hb).at_ hkx
      have hI := hxs _ (List.getElem_mem hkx)
      have h2 := map_take_succ fv l k hkl
      rw [HCO.out k hkx hkl] at h2
      have hmul := fun W => rmul_any p hp2 xs[k] c hI hc W
      generalize xs[k] = x at hcell hI h2 hmul
      generalize el p x * el p c = Z at h2 hmul
      have hlk : (List.replicate m (0 : Int) ++ (fvs l).take k).length < 17592186044416 := by
        rw [List.length_append, List.length_replicate, List.length_take, List.length_map, HLL.out]; omega
      have HLK := Lib.hid hlk
      have H2 := Lib.hid h2
      have HMUL := Lib.hid hmul
      clear h2 hmul hlk
      go_wp2_with (first | (go_at_call 50; refine (HMUL.out _).mono ?_; rintro e w' ⟨rfl, rfl⟩) | (at_builtin; refine wpList_app1 wr (fv Z) rfl _ _ rfl w.heap.size _ _ rfl rfl hown HLK.out hb.size ?_; intro v' w1 hg))
      go_roundw
      case rel =>
        refine ⟨k + 1, by omega, by go_num, ?_, hg.below hb hown (Nat.le_refl _) hb.size⟩
        have h1 := hg.own
        rw [List.append_assoc, H2.out] at h1
        exact h1
      case measure => simp [intOf]; omega
    · obtain rfl : k = na := by omega
      have hfv : List.replicate m (0 : Int) ++ (fvs l).take k = fvs L := by
        rw [List.take_of_length_le (by rw [List.length_map, HLL.out]; exact Nat.le_refl _), HL.out]; simp [fv_zero]
      rw [hfv] at hown
      have hLn : (fvs L).length = m + k := by rw [HL.out, List.length_map, List.length_append, List.length_replicate, HLL.out]
      obtain ⟨A1, n1, c1, rfl, hl1, hc1, _, hs1⟩ := hown.shapeN
      have ht := rtrim_n p hp2 A1 n1 c1 (fvs L) hl1 (i64_fvsR L hp2) (by omega) hc1 wr hs1
      rw [els_fvs] at ht
      have HT := Lib.hid ht
      clear ht hLn hown hl1 hfv
      go_wp2_with fail
      refine (HT.out).mono ?_
      rintro e w4 ⟨v4, rfl, hown4, hb4⟩
      go_wp2
      go_ret
      exact ⟨v4, rfl, hown4.more hb.size, hb.trans (hb4.mono hb.size)⟩


theorem trim_times {p : Nat} [NeZero p] (a b : List (Fin p)) (k : Nat) (hk : k < a.length) : trimL (addL (trimL (mulL (a.take k) b)) (sclL b a[k] k)) = trimL (mulL (a.take (k + 1)) b) := trimL_congr fun i => by
  have hl : (a.take k).length = k := by rw [List.length_take]; omega
  rw [List.take_succ_eq_append_getElem hk, co_mulL_snoc, co_addL, co_trim, co_sclL, hl]
  by_cases h : i < k
  · rw [if_pos h, if_neg (by omega)]
  · rw [if_neg h, if_pos (by omega)]; grind

set_option maxRecDepth 100000 in
set_option maxHeartbeats 1000000 in
theorem rtimes_n (p : Nat) [NeZero p] (hp2 : p ≤ 2147483647) (A B : Option Addr) (na ca nb cb : Nat) (xs ys : List Int) (hna : xs.length = na) (hnb : ys.length = nb) (hxs : ∀ n ∈ xs, I64 n) (hys : ∀ n ∈ ys, I64 n) (hr : na + nb ≤ 8388608)
    (w : World) (hsx : SL w A xs) (hsy : SL w B ys) :
    Calls Tryd.prog 118 #[vi p, .slice A na ca, .slice B nb cb] w fun e w' => Made (fvs (trimL (mulL (els p xs) (els p ys)))) w e w' := by
  have HNA := Lib.hid hna
  have HNB := Lib.hid hnb
  clear hna hnb
  go_enter Tryd.func118, Tryd.ntmps118
  go_wp2
  go_loopw [7, 8, 9] (fun v i _ wr => ∃ k : Nat, k ≤ na ∧ i = vi k ∧ Own wr w.heap.size v (fvs (trimL (mulL ((els p xs).take k) (els p ys)))) ∧ Below w.heap.size w wr) (fun _ i _ _ => na - (intOf i).toNat)
  case atStart => exact ⟨0, Nat.zero_le _, rfl, World.ownsRow_nil _ _ _ _, Below.refl _ _⟩
  case round =>
    obtain ⟨k, hk, rfl, hown, hb⟩ := hrel
    by_cases hkn : k < na
    · have hkx : k < xs.length := by rw [HNA.out]; exact hkn
      have hke : k < (els p xs).length := by simpa using hkx
      obtain ⟨ad, rfl, hab, hcell⟩ := (hsx.below hb).at_ hkx
      have hI := hxs _ (List.getElem_mem hkx)
      have hst := trim_times (els p xs) (els p ys) k hke
      have e1 : (els p xs)[k] = el p xs[k] := by simp
      rw [e1] at hst
      generalize xs[k] = x at hcell hI hst e1
      have hlen : (trimL (mulL ((els p xs).take k) (els p ys))).length ≤ 8388608 := by
        have h1 := mulL_trim_length ((els p xs).take k) (els p ys)
        rw [List.length_take, List.length_map, HNA.out, List.length_map, HNB.out] at h1; omega
      have hlen2 : (sclL (els p ys) (el p x) k).length ≤ 8388608 := by
        have h1 := sclL_length (els p ys) (el p x) k
        rw [List.length_map, HNB.out] at h1; omega
      generalize trimL (mulL ((els p xs).take k) (els p ys)) = O at hown hlen hst
      have hsc := rscaled_n p hp2 B nb cb ys HNB.out hys x hI k (by omega) (by omega) _ (hsy.below hb)
      generalize sclL (els p ys) (el p x) k = S at hsc hlen2 hst
      obtain ⟨A1, n1, c1, rfl, hl1, hc1, _, hs1⟩ := hown.shapeN
      rw [List.length_map] at hl1
      have hpl := fun (C : Option Addr) (nc cc : Nat) hl hr W hsx' hsy' => rplus_n p hp2 A1 C n1 c1 nc cc (fvs O) (fvs S) (by rw [List.length_map]; exact hl1) hl (i64_fvsR _ hp2) (i64_fvsR _ hp2) (by omega) hr W hsx' hsy'
      simp only [els_fvs] at hpl
      rw [hst] at hpl
      have HPL := Lib.hid hpl
      have HSC := Lib.hid hsc
      have HL2 := Lib.hid hlen2
      clear hpl hsc hst hlen2 hlen hl1 hown e1
      go_wp2_with fail
      refine (HSC.out).mono ?_
      rintro e w1 ⟨v, rfl, hown1, hb1⟩
      obtain ⟨A2, n2, c2, rfl, hl2, hc2, _, hs2⟩ := hown1.shapeN
      have hr2 : n2 ≤ 8388608 := by rw [← hl2, List.length_map]; exact HL2.out
      have H2 := Lib.hid hl2
      clear hl2 hown1
      go_wp2_with fail
      refine (HPL.out A2 n2 c2 H2.out hr2 _ (hs1.below hb1) hs2).mono ?_
      rintro e w2 ⟨v2, rfl, hown2, hb2⟩
      have hbel2 := hb.trans ((hb1.trans (hb2.mono hb1.size)).mono hb.size)
      have hown3 := hown2.more (Nat.le_trans hb.size hb1.size)
      clear hown2 hb2
      go_wp2
      go_roundw
      case rel => exact ⟨k + 1, by omega, by go_num, hown3, hbel2⟩
      case measure => simp [intOf]; omega
    · obtain rfl : k = na := by omega
      rw [List.take_of_length_le (by rw [List.length_map, HNA.out]; exact Nat.le_refl _)] at hown
      go_wp2
      go_ret
      exact ⟨_, rfl, hown, hb⟩

def EvalRel {p : Nat} [NeZero p] (l : List (Fin p)) (X : Fin p) (s q i : Value) : Prop := ∃ k : Nat, k ≤ l.length ∧ i = vi k ∧ s = vi (fv (ev (l.take k) X)) ∧ q = vi (fv (pw X k))
set_option maxRecDepth 100000 in
set_option maxHeartbeats 1000000 in
theorem reval_n (p : Nat) [NeZero p] (hp1 : 2 ≤ p) (hp2 : p ≤ 2147483647) (A : Option Addr) (na ca : Nat) (xs : List Int) (hna : xs.length = na) (hxs : ∀ n ∈ xs, I64 n) (hr : na * 8 ≤ 281474976710656) (x : Int) (hx : I64 x) (w : World) (hsx : SL w A xs) :
    Calls Tryd.prog 59 #[vi p, .slice A na ca, vi x] w fun e w' => e = .returned (vi (fv (ev (els p xs) (el p x)))) ∧ w = w' := by
  obtain ⟨l, hl⟩ : ∃ l, l = els p xs := ⟨_, rfl⟩
  rw [← hl]
  have hll : l.length = na := by rw [hl]; simp [hna]
  have hco : ∀ k (hk : k < xs.length) (hk' : k < l.length), l[k] = el p xs[k] := fun k hk hk' => by simp [hl]
  have HLL := Lib.hid hll
  have HCO := Lib.hid hco
  have HNA := Lib.hid hna
  clear hl hll hna hco
  go_enter Tryd.func59, Tryd.ntmps59
  go_wp2
  go_loop [7, 8, 9, 10] (fun s q i _ => EvalRel l (el p x) s q i) (fun _ _ i _ => na - (intOf i).toNat)
  case atStart => exact ⟨0, Nat.zero_le _, rfl, rfl, by rw [pw_zero, fv_one hp1]⟩
  case round =>
    obtain ⟨k, hk, rfl, rfl, rfl⟩ := hrel
    rw [HLL.out] at hk
    by_cases hkn : k < na
    · have hkx : k < xs.length := by rw [HNA.out]; exact hkn
      have hkl : k < l.length := by rw [HLL.out]; exact hkn
      obtain ⟨ad, rfl, hab, hcell⟩ := hsx.at_ hkx
      have hI := hxs _ (List.getElem_mem hkx)
      have hst : ev (l.take (k + 1)) (el p x) = ev (l.take k) (el p x) + el p xs[k] * pw (el p x) k := by
        rw [List.take_succ_eq_append_getElem hkl, ev_snoc, HCO.out k hkx hkl, List.length_take]
        congr 3; omega
      have hpw := pw_succ (el p x) k
      have hmul := fun W => rmul_any p hp2 xs[k] (fv (pw (el p x) k)) hI (i64_fv _ hp2) W
      have hmul2 := fun W => rmul_any p hp2 (fv (pw (el p x) k)) x (i64_fv _ hp2) hx W
      rw [el_fv] at hmul hmul2
      rw [← hpw] at hmul2
      generalize xs[k] = c at hcell hI hst hmul
      generalize el p c * pw (el p x) k = Z at hst hmul
      have h1 := fv_nonneg Z
      have h2 := fv_lt Z
      have h3 := fv_nonneg (ev (l.take k) (el p x))
      have h4 := fv_lt (ev (l.take k) (el p x))
      have hsum := fv_add (ev (l.take k) (el p x)) Z
      rw [← hst] at hsum
      have HMUL := Lib.hid hmul
      have HMUL2 := Lib.hid hmul2
      have HSUM := Lib.hid hsum
      clear hmul hmul2 hsum hst hpw
      go_wp2_with fail
      refine (HMUL.out _).mono ?_
      rintro e w' ⟨rfl, rfl⟩
      go_wp2_with fail
      refine (HMUL2.out _).mono ?_
      rintro e w' ⟨rfl, rfl⟩
      go_wp2
      go_round
      case rel => exact ⟨k + 1, by rw [HLL.out]; omega, by go_num, by rw [HSUM.out], rfl⟩
      case measure => simp [intOf]; omega
    · obtain rfl : k = na := by omega
      have he : l.take k = l := List.take_of_length_le (by rw [HLL.out]; exact Nat.le_refl _)
      have HE := Lib.hid he
      clear he
      go_wp2
      go_ret
      exact ⟨ret_int (by rw [HE.out]), rfl⟩
end Go.Proofs.YtgmkcmahbefcoaaDoor

/- Walks of the reference's sums: Variables, weight, Extend, Fix. -/
set_option linter.unusedVariables false
namespace Go.Proofs.YtgmkcmahbefcoaaDoor
open Go.RowKit Zp

set_option maxHeartbeats 1000000 in
theorem rvars_n (A : Option Addr) (n cap : Nat) (hn : n < 9223372036854775808) (w : World) :
    Calls Tryd.prog 38 #[.slice A n cap] w fun e w' => e = .returned (vi (varsI n)) ∧ w = w' := by
  go_enter Tryd.func38, Tryd.ntmps38
  go_wp2
  go_loop [3, 4] (fun a v => ∃ j N : Nat, j ≤ 13 ∧ N = 2 ^ j ∧ a = vi N ∧ v = vi j ∧ ∀ i, i < j → n ≠ 2 ^ i) (fun _ v => 14 - (intOf v).toNat)
  case atStart => exact ⟨0, 1, by omega, rfl, rfl, rfl, fun i hi => absurd hi (by omega)⟩
  case round =>
    obtain ⟨j, N, hj, hN, rfl, rfl, hno⟩ := hrel
    have HNO := Lib.hid hno
    clear hno
    by_cases hj12 : j ≤ 12
    · have hN2 : N ≤ 4096 := by rw [hN]; exact Nat.pow_le_pow_right (n := 2) (by omega) hj12
      have hN3 : N * 2 = 2 ^ (j + 1) := by rw [hN, Nat.pow_succ]
      have HN3 := Lib.hid hN3
      by_cases he : n = N
      · have hv : varsI n = j := varsI_of ⟨hj12, by rw [he, hN]⟩
        have HV := Lib.hid hv
        have t1 : ((n : Int) == (N : Int)) = true := by rw [he]; simp
        clear hv hN hN3 he
        go_wp2
        go_ret
        exact ⟨ret_int HV.out.symm, rfl⟩
      · have t1 : ((n : Int) == (N : Int)) = false := by rw [beq_eq_false_iff_ne]; omega
        have hno2 : ∀ i, i < j + 1 → n ≠ 2 ^ i := fun i hi => by
          by_cases hij : i = j
          · rw [hij, ← hN]; exact he
          · exact HNO.out i (by omega)
        have HNO2 := Lib.hid hno2
        clear hN hN3 he hno2
        go_wp2
        go_round
        case rel => exact ⟨j + 1, N * 2, by omega, HN3.out, by go_num, by go_num, HNO2.out⟩
        case measure => simp [intOf]; omega
    · have hv : varsI n = -1 := varsI_no (fun ⟨v, hv⟩ => HNO.out v (by have := hv.1; omega) hv.2)
      have HV := Lib.hid hv
      clear hv hN
      go_wp2
      go_ret
      exact ⟨ret_int HV.out.symm, rfl⟩



set_option maxRecDepth 100000 in
set_option maxHeartbeats 1000000 in
theorem rfix_n (p : Nat) [NeZero p] (hp2 : p ≤ 2147483647) (n h : Nat) (hn : n = 2 * h) (hn1 : n ≤ 65536) (A : Option Addr) (cap : Nat) (xs : List Int) (hml : xs.length = n) (hxs : ∀ x ∈ xs, I64 x) (r : Int) (hr : I64 r) (w : World) (hs : SL w A xs) :
    Calls Tryd.prog 41 #[vi p, .slice A n cap, vi r] w fun e w' => Made (fvs (fixL h (els p xs) (el p r))) w e w' := by
  obtain ⟨l, hl⟩ : ∃ l, l = fixL h (els p xs) (el p r) := ⟨_, rfl⟩
  rw [← hl]
  have hll : l.length = h := by rw [hl, fixL_length]
  have hco : ∀ k, k < h → co l k = fixE (co (els p xs) k) (co (els p xs) (k + h)) (el p r) := fun k hk => by rw [hl, co_fixL _ _ hk]
  have hsub := fun W => rsub_any p hp2 1 r (by constructor <;> decide) hr W
  rw [el_one] at hsub
  have t2 : (n : Int).tdiv 2 = (h : Int) := by rw [Int.tdiv_eq_ediv_of_nonneg (by omega)]; omega
  have t3 : (n : Int) / 2 = (h : Int) := by omega
  have HML := Lib.hid hml
  have HLL := Lib.hid hll
  have HCO := Lib.hid hco
  have HSUB := Lib.hid hsub
  have hh2 : 2 * h ≤ n := by omega
  have hh3 : h ≤ n := by omega
  clear hl hml hll hco hsub hn
  go_enter Tryd.func41, Tryd.ntmps41
  go_wp2_with fail
  refine (HSUB.out _).mono ?_
  rintro e w' ⟨rfl, rfl⟩
  go_wp2
  clear t2 t3
  go_loopw [7, 10, 11, 12, 13] (fun v i _ _ _ wr => LaidRel (fvs l) h w v i wr) (fun _ i _ _ _ _ => h - (intOf i).toNat)
  case atStart => exact ⟨0, Nat.zero_le _, rfl, World.ownsRow_nil _ _ _ _, Below.refl _ _⟩
  case round =>
    obtain ⟨k, hk, rfl, hown, hb⟩ := hrel
    by_cases hkh : k < h
    · have hsw := hs.below hb
      have hkx : k < xs.length := by rw [HML.out]; omega
      have hkx2 : k + h < xs.length := by rw [HML.out]; omega
      obtain ⟨ad, rfl, _, hc1⟩ := hsw.at_ hkx
      obtain ⟨ad', he, _, hc2⟩ := hsw.at_ hkx2
      injection he with he
      subst he
      have ix := hxs _ (List.getElem_mem hkx)
      have iy := hxs _ (List.getElem_mem hkx2)
      have hcx : co (els p xs) k = el p xs[k] := by rw [co_of_lt (by simpa using hkx)]; simp
      have hcy : co (els p xs) (k + h) = el p xs[k + h] := by rw [co_of_lt (by simpa using hkx2)]; simp
      have h2 := map_take_succ fv l k (by rw [HLL.out]; exact hkh)
      have h3 : l[k]'(by rw [HLL.out]; exact hkh) = fixE (co (els p xs) k) (co (els p xs) (k + h)) (el p r) := by
        rw [← co_of_lt (by rw [HLL.out]; exact hkh), HCO.out k hkh]
      rw [h3, hcx, hcy, fixE] at h2
      generalize xs[k] = x at hc1 ix h2 hcx
      generalize xs[k + h] = y at hc2 iy h2 hcy
      have hm1 := fun W => rmul_any p hp2 x (fv (1 - el p r)) ix (i64_fv _ hp2) W
      have hm2 := fun W => rmul_any p hp2 y r iy hr W
      have ha := fun W => radd_any p hp2 (fv (el p x * (1 - el p r))) (fv (el p y * el p r)) (i64_fv _ hp2) (i64_fv _ hp2) W
      simp only [el_fv] at hm1 ha
      generalize el p x * (1 - el p r) = P1 at hm1 ha h2
      generalize el p y * el p r = P2 at hm2 ha h2
      generalize P1 + P2 = Z at ha h2
      have hlk : ((fvs l).take k).length < 17592186044416 := by
        have := List.length_take_le k (fvs l); omega
      have i1 : (0 : Int) ≤ k := by omega
      have i2 : (k : Int) < n := by omega
      have i3 : (0 : Int) ≤ (k : Int) + h := by omega
      have i4 : (k : Int) + h < n := by omega
      have i5 : ((k : Int) + h).toNat = k + h := by omega
      have HM1 := Lib.hid hm1
      have HM2 := Lib.hid hm2
      have HA := Lib.hid ha
      have H2 := Lib.hid h2
      have HLK := Lib.hid hlk
      clear hm1 hm2 ha h2 h3 hlk hcx hcy
      go_wp2_with fail
      refine (HM1.out _).mono ?_
      rintro e w' ⟨rfl, rfl⟩
      go_wp2_with fail
      refine (HM2.out _).mono ?_
      rintro e w' ⟨rfl, rfl⟩
      go_wp2_with (first | (go_at_call 48; refine (HA.out _).mono ?_; rintro e w' ⟨rfl, rfl⟩) | (at_builtin; refine wpList_app1 wr (fv Z) rfl _ _ rfl w.heap.size _ _ rfl rfl hown HLK.out hb.size ?_; intro v' w1 hg))
      go_roundw
      case rel => exact ⟨k + 1, by omega, by go_num, by rw [← H2.out]; exact hg.own, hg.below hb hown (Nat.le_refl _) hb.size⟩
      case measure => simp [intOf]; omega
    · obtain rfl : k = h := by omega
      go_wp2
      go_ret
      rw [List.take_of_length_le (by rw [List.length_map, HLL.out]; exact Nat.le_refl _)] at hown
      exact ⟨_, rfl, hown, hb⟩
end Go.Proofs.YtgmkcmahbefcoaaDoor

/- Walks of the reference's sums: Over, Total. -/
set_option linter.unusedVariables false
namespace Go.Proofs.YtgmkcmahbefcoaaDoor
open Go.RowKit Zp

set_option maxRecDepth 100000 in
set_option maxHeartbeats 1000000 in
theorem rtotal_any (p : Nat) [NeZero p] (hp1 : 2 ≤ p) (hp2 : p ≤ 2147483647) (A : Option Addr) (d cap : Nat) (ts : List (List Int)) (hd : ts.length = d) (hd1 : 1 ≤ d) (hd2 : d ≤ 4) (n : Nat) (hn : ∀ t ∈ ts, t.length = n) (w : World) (hs : TB w A ts) :
    Calls Tryd.prog 40 #[vi p, .slice A d cap] w fun e w' => e = .returned (vi (fv (totP d n (tabOf p ts)))) ∧ w = w' := by
  have HD := Lib.hid hd
  obtain ⟨a0, A0, n0, c0, rfl, z1, hc0, hl0, hb0, z2, z3⟩ := hs 0 (by omega)
  have e0 : n0 = n := by rw [← hl0]; exact hn _ (List.getElem_mem _)
  subst e0
  have hc00 : w.cell? a0 = some (.slice A0 n0 c0) := by
    have e : a0.add 0 = a0 := by cases a0; simp [Addr.add]
    rw [← e]; exact hc0
  have e0 : (0 : Int) ≤ (d : Int) := by omega
  have e1 : (0 : Int) < (d : Int) := by omega
  clear z1 z2 z3 hl0 hc0 hd
  go_enter Tryd.func40, Tryd.ntmps40
  go_wp2
  go_loop [5, 6, 7, 8] (fun v i _ _ => ∃ k : Nat, k ≤ n0 ∧ i = vi k ∧ v = vi (fv (sumT k fun i => prodT d fun j => co (tabOf p ts j) i))) (fun _ i _ _ => n0 - (intOf i).toNat)
  case atStart => exact ⟨0, Nat.zero_le _, rfl, by rw [sumT, fv_zero]⟩
  case round =>
    obtain ⟨k, hk, rfl, rfl⟩ := hrel
    by_cases hkn : k < n0
    · obtain ⟨s, hsx⟩ : ∃ s, s = (sumT k fun i => prodT d fun j => co (tabOf p ts j) i) := ⟨_, rfl⟩
      have HSX := Lib.hid hsx
      rw [← hsx]
      clear hsx
      go_wp2
      go_loop [7, 8] (fun v i => ∃ (j : Nat) (X : Fin p) (x : Int), j ≤ d ∧ i = vi j ∧ v = vi x ∧ 0 ≤ x ∧ x < p ∧ x = fv X ∧ X = (prodT j fun j => co (tabOf p ts j) k)) (fun _ i => d - (intOf i).toNat)
      case atStart => exact ⟨0, 1, 1, Nat.zero_le _, rfl, rfl, by omega, by omega, (fv_one hp1).symm, rfl⟩
      case round =>
        obtain ⟨j, X, x, hj, rfl, rfl, hx1, hx2, hxX, hX⟩ := hrel
        have HX := Lib.hid hX
        have HXX := Lib.hid hxX
        clear hX hxX
        by_cases hjd : j < d
        · have hjt : j < ts.length := by rw [HD.out]; exact hjd
          obtain ⟨ad, A1, n1, c1, he, _, hc1, hl1, _, hs1, hi1⟩ := hs j hjt
          injection he with he
          subst he
          have e1 : n1 = n0 := by rw [← hl1]; exact hn _ (List.getElem_mem _)
          subst e1
          have hkx : k < ts[j].length := by rw [hl1]; exact hkn
          obtain ⟨a1, rfl, _, hc2⟩ := hs1.at_ hkx
          have iy := hi1 _ (List.getElem_mem hkx)
          have hy : co (tabOf p ts j) k = el p ts[j][k] := by
            rw [tabOf, co_els, List.getD_eq_getElem?_getD, List.getD_eq_getElem?_getD, List.getElem?_eq_getElem hjt, Option.getD_some, List.getElem?_eq_getElem hkx, Option.getD_some]
          obtain ⟨y, hyy⟩ : ∃ y, y = ts[j][k] := ⟨_, rfl⟩
          rw [← hyy] at hc2 iy hy
          have HY := Lib.hid hy
          have hm := rmul_any p hp2 x y ⟨by omega, by omega⟩ iy w
          have hXe : el p x = X := by rw [HXX.out, el_fv]
          rw [hXe] at hm
          have HM := Lib.hid hm
          clear hy hyy hl1 hm hXe
          go_wp2_with fail
          refine (HM.out).mono ?_
          rintro e w' ⟨rfl, rfl⟩
          go_wp2
          go_round
          case rel => exact ⟨j + 1, _, _, by omega, by go_num, rfl, fv_nonneg _, fv_lt _, rfl, by rw [HX.out, prodT_succ, HY.out]⟩
          case measure => simp [intOf]; omega
        · obtain rfl : j = d := by omega
          have s1 := fv_nonneg s
          have s2 := fv_lt s
          have hsum : fv (s + X) = (fv s + x) % (p : Int) := by rw [HXX.out]; exact fv_add s X
          have HSUM := Lib.hid hsum
          clear hsum
          go_wp2
          go_round
          case rel => exact ⟨k + 1, by omega, by go_num, by rw [sumT_succ, ← HSX.out, ← HX.out, HSUM.out]⟩
          case measure => simp [intOf]; omega
    · obtain rfl : k = n0 := by omega
      go_wp2
      go_ret
      exact ⟨rfl, rfl⟩

theorem rover_d (A : Option Addr) (d c : Nat) (hd : d < 9223372036854775808) (h : d = 0 ∨ 4 < d) (w : World) :
    Calls Tryd.prog 11 #[.slice A d c] w fun e w' => e = .returned (vi (-1)) ∧ w = w' := by
  rcases h with h | h
  · subst h
    go_enter Tryd.func11, Tryd.ntmps11
    go_wp2
    go_ret
    exact ⟨rfl, rfl⟩
  · have t1 : ¬ d = 0 := by omega
    go_enter Tryd.func11, Tryd.ntmps11
    go_wp2
    go_ret
    exact ⟨rfl, rfl⟩
set_option maxHeartbeats 1000000 in
theorem rover_all (A : Option Addr) (d c : Nat) (ts : List (List Int)) (hd : ts.length = d) (hd1 : 1 ≤ d) (hd2 : d ≤ 4) (n : Nat) (hn0 : (ts.getD 0 []).length = n) (R : Int) (hR1 : (∀ j, j < d → (ts.getD j []).length = n) → R = varsI n) (hR2 : (∃ j, j < d ∧ ¬ (ts.getD j []).length = n) → R = -1) (w : World) (hs : TB w A ts) :
    Calls Tryd.prog 11 #[.slice A d c] w fun e w' => e = .returned (vi R) ∧ ∃ k, w' = w.drewN k := by
  have HD := Lib.hid hd
  obtain ⟨a0, A0, n0, c0, rfl, z1, hc0, hl0, hb0, z2, z3⟩ := hs 0 (by omega)
  have e0 : n0 = n := by
    rw [← hl0, ← hn0, List.getD_eq_getElem?_getD, List.getElem?_eq_getElem (by omega), Option.getD_some]
  subst e0
  have hc00 : w.cell? a0 = some (.slice A0 n0 c0) := by
    have e : a0.add 0 = a0 := by cases a0; simp [Addr.add]
    rw [← e]; exact hc0
  have HV := Lib.hid (fun W => rvars_n A0 n0 c0 hb0 W)
  have HR1 := Lib.hid hR1
  have HR2 := Lib.hid hR2
  have e0 : (0 : Int) ≤ (d : Int) := by omega
  have e1 : (0 : Int) < (d : Int) := by omega
  have t1 : ¬ d = 0 := by omega
  have t1b : ((d : Int) == 0) = false := by rw [beq_eq_false_iff_ne]; omega
  have t1c : decide ((4 : Int) < (d : Int)) = false := decide_eq_false (by omega)
  have t1d : d ≤ 4 := hd2
  obtain ⟨V, hV⟩ : ∃ V, V = varsI n0 := ⟨_, rfl⟩
  rw [← hV] at HV HR1
  clear z1 z2 z3 hl0 hc0 hd hn0 hR1 hR2 hV
  go_enter Tryd.func11, Tryd.ntmps11
  go_wp2_with fail
  refine (HV.out _).mono ?_
  rintro e w' ⟨rfl, rfl⟩
  go_wp2
  go_loopw [4] (fun i wr => ∃ k m : Nat, k ≤ d ∧ i = vi k ∧ (∀ j, j < k → (ts.getD j []).length = n0) ∧ wr = w.drewN m) (fun i _ => d - (intOf i).toNat)
  case atStart => exact ⟨0, 0, Nat.zero_le _, rfl, fun j hj => absurd hj (by omega), rfl⟩
  case round =>
    obtain ⟨k, m, hk, rfl, hall, rfl⟩ := hrel
    have HALL := Lib.hid hall
    clear hall
    by_cases hkd : k < d
    · have hkt : k < ts.length := by rw [HD.out]; exact hkd
      obtain ⟨ad, A1, n1, c1, he, _, hc1, hl1, hb1, _, _⟩ := hs k hkt
      injection he with he
      subst he
      have hg : (ts.getD k []).length = n1 := by rw [← hl1, List.getD_eq_getElem?_getD, List.getElem?_eq_getElem hkt, Option.getD_some]
      have HG := Lib.hid hg
      have hc1' : (w.drewN m).cell? (a0.add k) = some (.slice A1 n1 c1) := hc1
      have hc0' : (w.drewN m).cell? a0 = some (.slice A0 n0 c0) := hc00
      clear hg hl1
      by_cases hnn : n1 = n0
      · have t2 : ((n1 : Int) != (n0 : Int)) = false := by rw [hnn]; simp
        have HN := Lib.hid hnn
        clear hnn
        go_wp2
        go_quiet (fail)
        go_wp2
        go_roundw
        case rel => exact ⟨k + 1, _, by omega, by go_num, fun j hj => by
          by_cases hjk : j = k
          · rw [hjk, HG.out]; exact HN.out
          · exact HALL.out j (by omega), rfl⟩
        case measure => simp [intOf]; omega
      · have t2 : ((n1 : Int) != (n0 : Int)) = true := by rw [bne_iff_ne]; omega
        have hR := Lib.hid (HR2.out ⟨k, hkd, by rw [HG.out]; exact hnn⟩)
        clear hnn
        go_wp2
        go_quiet (fail)
        go_wp2
        go_ret
        exact ⟨ret_int hR.out.symm, _, World.drewN_drewN _ _ _⟩
    · obtain rfl : k = d := by omega
      have hR := Lib.hid (HR1.out HALL.out)
      go_wp2
      go_ret
      exact ⟨ret_int hR.out.symm, _, rfl⟩
end Go.Proofs.YtgmkcmahbefcoaaDoor

/- Walks of the reference's sums: Fixed, Round. -/
set_option linter.unusedVariables false
namespace Go.Proofs.YtgmkcmahbefcoaaDoor
open Go.RowKit Zp

set_option maxRecDepth 100000 in
set_option maxHeartbeats 1000000 in
theorem rfixed_any (q : Nat) [NeZero q] (hqm : q ≤ 2147483647) (A : Option Addr) (d cap : Nat) (ts : List (List Int)) (hd : ts.length = d) (hd2 : d ≤ 4) (n h : Nat) (hn : ∀ t ∈ ts, t.length = n) (hn2 : n = 2 * h) (hn3 : n ≤ 65536) (r : Int) (hr : I64 r) (w : World) (hs : TB w A ts) :
    Calls Tryd.prog 15 #[vi q, .slice A d cap, vi r] w fun e w' => MadeRows (fixI q h ts d (el q r)) w e w' := by
  have HD := Lib.hid hd
  have HN2 := Lib.hid hn2
  have HN := Lib.hid hn
  clear hd hn2 hn
  go_enter Tryd.func15, Tryd.ntmps15
  go_wp2
  go_loopw [7, 8, 9] (fun v i _ wr => FixRel q h ts d (el q r) w v i wr) (fun _ i _ _ => d - (intOf i).toNat)
  case atStart => exact ⟨0, [], Nat.zero_le _, rfl, World.ownsRow_nil _ _ _ _, RowsOwn.nil _ _, Below.refl _ _⟩
  case round =>
    obtain ⟨k, us, hk, rfl, hown, hrows, hb⟩ := hrel
    by_cases hkd : k < d
    · have hkt : k < ts.length := by rw [HD.out]; exact hkd
      obtain ⟨ad, A1, n1, c1, hA, hl, hc, hl1, h63, hs1, hi1⟩ := (hs.below hb) k hkt
      have hnn : n1 = n := by rw [← hl1]; exact HN.out _ (List.getElem_mem hkt)
      have hn16 : n1 ≤ 65536 := by omega
      have hfx := fun (W : World) (hW : SL W A1 ts[k]) => rfix_n q hqm n1 h (by rw [hnn]; exact HN2.out) hn16 A1 c1 ts[k] hl1 hi1 r hr W hW
      have htk : els q ts[k] = tabOf q ts k := by unfold tabOf; rw [List.getD_eq_getElem?_getD, List.getElem?_eq_getElem hkt]; rfl
      rw [htk] at hfx
      have hst := fixI_take q h ts d (el q r) k hkd
      have hlen := hrows.1
      rw [List.length_take, fixI_length] at hlen
      have hus : us.length = k := by omega
      have HFX := Lib.hid hfx
      have HST := Lib.hid hst
      have HUS := Lib.hid hus
      subst hA
      have i1 : (0 : Int) ≤ (k : Int) := by omega
      have i2 : (k : Int) < d := by omega
      clear hfx hst hlen hus htk hnn hl1
      go_wp2_with fail
      refine (HFX.out _ hs1).mono ?_
      rintro e w5 ⟨v5, rfl, hown5, hb5⟩
      obtain ⟨A5, n5, c5, rfl, hl5, hc5, _, _⟩ := hown5.shapeN
      have hb45 := hb.trans (hb5.mono hb.size)
      have hownR5 := OwnR.below hown hb5
      have hrows5 := (hrows.below hb5).snoc (Own.more hown5 hb.size)
      rw [HST.out] at hrows5
      have hsz := hb45.size
      clear hown hrows hown5 hl5 hc5
      go_wp2_with (at_builtin; refine wpList_appR w5 A5 n5 c5 rfl _ _ rfl w.heap.size _ us rfl rfl hownR5 (by rw [HUS.out]; omega) hsz ?_; intro v' w6 hg)
      go_roundw
      case rel => exact ⟨k + 1, us ++ [.slice A5 n5 c5], by omega, by go_num, hg.own, hg.rows hownR5 hrows5, hg.below hb45 hownR5 (Nat.le_refl _) hsz⟩
      case measure => simp [intOf]; omega
    · obtain rfl : k = d := by omega
      rw [List.take_of_length_le (by rw [fixI_length]; exact Nat.le_refl _)] at hrows
      go_wp2
      go_ret
      exact ⟨_, us, rfl, hown, hrows, hb⟩
set_option maxRecDepth 100000 in
set_option maxHeartbeats 1000000 in
theorem rround_any (q : Nat) [NeZero q] (hq2 : 2 ≤ q) (hqm : q ≤ 2147483647) (A : Option Addr) (d cap : Nat) (ts : List (List Int)) (hd : ts.length = d) (hd1 : 1 ≤ d) (hd2 : d ≤ 4) (n h : Nat) (hn : ∀ t ∈ ts, t.length = n) (hn2 : n = 2 * h) (hn3 : n ≤ 65536) (w : World) (hs : TB w A ts) :
    Calls Tryd.prog 13 #[vi q, .slice A d cap] w fun e w' => Made (fvs (roundL q h ts d)) w e w' := by
  have HF := Lib.hid (fun r (hr : I64 r) W (hW : TB W A ts) => rfixed_any q hqm A d cap ts hd hd2 n h hn hn2 hn3 r hr W hW)
  have HTT := Lib.hid (fun r A2 c2 W (hW : TB W A2 (fixI q h ts d r)) => rtotal_any q hq2 hqm A2 d c2 (fixI q h ts d r) (fixI_length _ _ _ _ _) hd1 hd2 h (fixI_len _ _ _ _ _) W hW)
  have HRL := Lib.hid (roundL_length q h ts d)
  have HTK := Lib.hid (roundL_take q h ts d)
  have HII := Lib.hid (fun r => fixI_i64 q h hqm ts d r)
  have HIL := Lib.hid (fun r => fixI_length q h ts d r)
  have HTO := Lib.hid (fun r => fixI_tot q h ts d r)
  have HLL := Lib.hid (show (fvs (roundL q h ts d)).length = d + 1 by rw [List.length_map, roundL_length])
  generalize fvs (roundL q h ts d) = L at HTK HLL ⊢
  clear hd hn hn2
  go_enter Tryd.func13, Tryd.ntmps13
  go_wp2
  go_loopw [5, 6, 7, 8] (fun v i _ _ wr => ∃ k : Nat, k ≤ d + 1 ∧ i = vi k ∧ Own wr w.heap.size v (L.take k) ∧ Below w.heap.size w wr) (fun _ i _ _ _ => d + 1 - (intOf i).toNat)
  case atStart => exact ⟨0, Nat.zero_le _, rfl, World.ownsRow_nil _ _ _ _, Below.refl _ _⟩
  case round =>
    obtain ⟨k, hk, rfl, hown, hb⟩ := hrel
    by_cases hkd : k ≤ d
    · have hf := fun W (hW : TB W A ts) => HF.out (k : Int) ⟨by omega, by omega⟩ W hW
      have HFK := Lib.hid hf
      have htb := hs.below hb
      have hlk : (L.take k).length < 17592186044416 := by have := List.length_take_le k L; omega
      have h2 := HTK.out k (by omega)
      have HLK := Lib.hid hlk
      have H2 := Lib.hid h2
      clear hf hlk h2
      go_wp2_with fail
      refine (HFK.out _ htb).mono ?_
      rintro e w2 ⟨v2, us, rfl, hownR, hrows, hb2⟩
      obtain ⟨A6, n6, c6, rfl, hl6, _⟩ := ownR_shape hownR
      have hl6' := hrows.1
      rw [HIL.out, hl6] at hl6'
      have htb2 := tb_own hownR hrows (HII.out _)
      have hown2 := hown.below hb2
      have hbw2 := hb.trans (hb2.mono hb.size)
      subst hl6'
      clear hownR hrows htb hown hb2 hl6
      have htt := HTT.out _ A6 c6 _ htb2
      rw [HTO.out] at htt
      have HT2 := Lib.hid htt
      clear htt
      go_wp2_with fail
      refine (HT2.out).mono ?_
      rintro e w' ⟨rfl, rfl⟩
      go_wp2_with (at_builtin; refine wpList_app1 _ _ rfl _ _ rfl w.heap.size _ _ rfl rfl hown2 HLK.out hbw2.size ?_; intro v' w3 hg)
      go_roundw
      case rel => exact ⟨k + 1, by omega, by go_num, by rw [← H2.out]; exact hg.own, hg.below hbw2 hown2 (Nat.le_refl _) hbw2.size⟩
      case measure => simp [intOf]; omega
    · obtain rfl : k = d + 1 := by omega
      rw [List.take_of_length_le (by rw [HLL.out]; exact Nat.le_refl _)] at hown
      go_wp2
      go_ret
      exact ⟨_, rfl, hown, hb⟩
end Go.Proofs.YtgmkcmahbefcoaaDoor

/- Walks: the reference's Order, Generator, Root. -/
set_option linter.unusedVariables false
namespace Go.Proofs.YtgmkcmahbefcoaaDoor
open Go.RowKit Zp

theorem rpow_fv (p : Nat) [NeZero p] (hp1 : 2 ≤ p) (hp2 : p ≤ 2147483647) (X : Fin p) (k : Nat) (hk : (k : Int) ≤ 9223372036854775807) (w : World) :
    Calls Tryd.prog 109 #[vi p, vi (fv X), vi k] w fun e w' => e = .returned (vi (fv (pw X k))) ∧ w = w' := by
  have h := rpow_nn p hp1 hp2 (fv X) k (i64_fv _ hp2) (by constructor <;> omega) (by omega) w
  rw [el_fv, Int.natAbs_natCast] at h
  exact h
theorem sq_lt {i p : Nat} (h : i * i ≤ p - 1) (hp : p ≤ 2147483647) : i ≤ 46340 := by
  rcases Nat.lt_or_ge 46340 i with hlt | hge
  · have := Nat.mul_le_mul (show 46341 ≤ i from hlt) (show 46341 ≤ i from hlt); omega
  · exact hge
def OrdRel {p : Nat} [NeZero p] (X : Fin p) (b i : Value) : Prop := ∃ (I B : Nat), 1 ≤ I ∧ I ≤ 46341 ∧ b = vi B ∧ i = vi I ∧ BestQ (Tried p I) X B
theorem fv1 {p : Nat} [NeZero p] (hp1 : 2 ≤ p) {x : Fin p} (h : x = 1) : (fv x == 1) = true := by rw [beq_iff_eq, fv_eq_one hp1]; exact h
theorem fv1n {p : Nat} [NeZero p] (hp1 : 2 ≤ p) {x : Fin p} (h : ¬ x = 1) : (fv x == 1) = false := by rw [beq_eq_false_iff_ne]; intro h2; exact h ((fv_eq_one hp1).1 h2)
set_option maxRecDepth 100000 in
set_option maxHeartbeats 4000000 in
theorem rorder_any (p : Nat) [NeZero p] (hp : IsPrime p) (hp1 : 2 ≤ p) (hp2 : p ≤ 2147483647) (m : Int) (hm : I64 m) (w : World) :
    Calls Tryd.prog 120 #[vi p, vi m] w fun e w' => e = .returned (vi ((ordN (el p m) : Nat) : Int)) ∧ w = w' := by
  have hof := rof_any p hp2 m hm
  generalize el p m = X at hof ⊢
  have HOF := Lib.hid hof
  clear hof
  by_cases hx : X = 0
  · have t1 : (fv X == 0) = true := by rw [hx]; rfl
    have ho : ((ordN X : Nat) : Int) = 0 := by rw [hx, ordN_zero hp]; rfl
    have HO := Lib.hid ho
    clear hx ho hp
    go_enter Tryd.func120, Tryd.ntmps120
    go_wp2_with fail
    refine (HOF.out _).mono ?_
    rintro e w' ⟨rfl, rfl⟩
    go_wp2
    go_ret
    exact ⟨ret_int HO.out.symm, rfl⟩
  · have t1 : (fv X == 0) = false := by rw [beq_eq_false_iff_ne]; exact fun h => hx (fv_eq_zero.1 h)
    have HX := Lib.hid hx
    have HP := Lib.hid hp
    clear hx hp
    go_enter Tryd.func120, Tryd.ntmps120
    go_wp2_with fail
    refine (HOF.out _).mono ?_
    rintro e w' ⟨rfl, rfl⟩
    go_wp2
    go_loop [5, 6, 7, 8] (fun b i _ _ => OrdRel X b i) (fun _ i _ _ => 46342 - (intOf i).toNat)
    case atStart => exact ⟨1, p - 1, Nat.le_refl _, by omega, by congr 1; omega, rfl, BestQ.start HP.out HX.out⟩
    case round =>
      obtain ⟨I, B, hI, hI2, rfl, rfl, hB⟩ := hrel
      have HB := Lib.hid hB
      clear hB
      have ec : (I : Int) * I = ((I * I : Nat) : Int) := by rw [Int.natCast_mul]
      by_cases hii : I * I ≤ p - 1
      · have hIl := sq_lt hii hp2
        have q1 : (I : Int) * I ≤ (p : Int) - 1 := by rw [ec]; omega
        have q0 : (0 : Int) ≤ (I : Int) * I := by rw [ec]; omega
        obtain ⟨r, hr⟩ : ∃ r, r = (p - 1) % I := ⟨_, rfl⟩
        obtain ⟨k, hk⟩ : ∃ k, k = (p - 1) / I := ⟨_, rfl⟩
        have ep : (p : Int) - 1 = ((p - 1 : Nat) : Int) := by omega
        have hkp : k ≤ p - 1 := by rw [hk]; exact Nat.div_le_self _ _
        have e1 : ((p : Int) - 1).tmod I = (r : Int) := by rw [ep, Int.tmod_eq_emod_of_nonneg (by omega), hr]; omega
        have e2 : ((p : Int) - 1) % I = (r : Int) := by rw [ep, hr]; omega
        have e3 : ((p : Int) - 1).tdiv I = (k : Int) := by rw [ep, Int.tdiv_eq_ediv_of_nonneg (by omega), hk]; omega
        have e4 : ((p : Int) - 1) / I = (k : Int) := by rw [ep, hk]; omega
        have hdv : r = 0 ↔ I ∣ p - 1 := by rw [hr]; exact (Nat.dvd_iff_mod_eq_zero).symm
        have hkd : I ∣ p - 1 → k ∣ p - 1 := fun h => by rw [hk]; exact Nat.div_dvd_of_dvd h
        have hk1 : I ∣ p - 1 → 1 ≤ k := fun h => by rw [hk]; exact Nat.div_pos (Nat.le_of_dvd (by omega) h) (by omega)
        have HK := Lib.hid hk
        have HKD := Lib.hid hkd
        have HK1 := Lib.hid hk1
        have h0I : ((I : Int) == 0) = false := by rw [beq_eq_false_iff_ne]; omega
        clear ep hr hk hkd hk1 ec hii
        by_cases hr0 : r = 0
        · have hd := hdv.1 hr0
          have t2 : ((r : Int) != 0) = false := by rw [hr0]; rfl
          have hp1' := fun w => rpow_fv p hp1 hp2 X I (by omega) w
          have hp2' := fun w => rpow_fv p hp1 hp2 X k (by omega) w
          obtain ⟨Z, hZ⟩ : ∃ Z, Z = pw X I := ⟨_, rfl⟩
          obtain ⟨Y, hY⟩ : ∃ Y, Y = pw X k := ⟨_, rfl⟩
          rw [← hZ] at hp1'
          rw [← hY] at hp2'
          have HP1 := Lib.hid hp1'
          have HP2 := Lib.hid hp2'
          have HZ := Lib.hid hZ
          have HY := Lib.hid hY
          have HD := Lib.hid hd
          clear hp1' hp2' hZ hY hdv hd hr0
          by_cases hz : Z = 1
          · have a1 : (fv Z == 1) = true := fv1 hp1 hz
            have HZN := Lib.hid hz
            clear hz
            by_cases hi2 : I < B
            · have M1 := Lib.hid (HB.out.hit (i := I) (R := fun j => Tried p I j ∨ j = I) hI HD.out (HZ.out.symm.trans HZN.out) hi2 (fun j _ h => h))
              by_cases hy : Y = 1
              · have a2 : (fv Y == 1) = true := fv1 hp1 hy
                have HYN := Lib.hid hy
                clear hy
                by_cases hk2 : k < I
                · have M2 := Lib.hid (M1.out.hit (i := k) (R := Tried p (I + 1)) (HK1.out HD.out) (HKD.out HD.out) (HY.out.symm.trans HYN.out) hk2 (fun j hj h => by rcases tried_pair hp1 HD.out hj h with h | h; exact .inl h; exact .inr (h.trans HK.out.symm)))
                  clear M1
                  go_wp2_with fail
                  refine (HP1.out _).mono ?_
                  rintro e w' ⟨rfl, rfl⟩
                  go_wp2_with fail
                  refine (HP2.out _).mono ?_
                  rintro e w' ⟨rfl, rfl⟩
                  go_wp2
                  go_round
                  case rel => exact ⟨I + 1, k, by omega, by omega, rfl, by go_num, M2.out⟩
                  case measure => simp [intOf]; omega
                · have M2 := Lib.hid (M1.out.miss (i := k) (R := Tried p (I + 1)) (fun _ => hk2) (fun j hj h => by rcases tried_pair hp1 HD.out hj h with h | h; exact .inl h; exact .inr (h.trans HK.out.symm)))
                  clear M1
                  go_wp2_with fail
                  refine (HP1.out _).mono ?_
                  rintro e w' ⟨rfl, rfl⟩
                  go_wp2_with fail
                  refine (HP2.out _).mono ?_
                  rintro e w' ⟨rfl, rfl⟩
                  go_wp2
                  go_round
                  case rel => exact ⟨I + 1, I, by omega, by omega, rfl, by go_num, M2.out⟩
                  case measure => simp [intOf]; omega
              · have a2 : (fv Y == 1) = false := fv1n hp1 hy
                have HYN := Lib.hid hy
                clear hy
                have M2 := Lib.hid (M1.out.miss (i := k) (R := Tried p (I + 1)) (fun h => absurd (HY.out.trans h) HYN.out) (fun j hj h => by rcases tried_pair hp1 HD.out hj h with h | h; exact .inl h; exact .inr (h.trans HK.out.symm)))
                clear M1
                go_wp2_with fail
                refine (HP1.out _).mono ?_
                rintro e w' ⟨rfl, rfl⟩
                go_wp2_with fail
                refine (HP2.out _).mono ?_
                rintro e w' ⟨rfl, rfl⟩
                go_wp2
                go_round
                case rel => exact ⟨I + 1, I, by omega, by omega, rfl, by go_num, M2.out⟩
                case measure => simp [intOf]; omega
            · have M1 := Lib.hid (HB.out.miss (i := I) (R := fun j => Tried p I j ∨ j = I) (fun _ => hi2) (fun j _ h => h))
              by_cases hy : Y = 1
              · have a2 : (fv Y == 1) = true := fv1 hp1 hy
                have HYN := Lib.hid hy
                clear hy
                by_cases hk2 : k < B
                · have M2 := Lib.hid (M1.out.hit (i := k) (R := Tried p (I + 1)) (HK1.out HD.out) (HKD.out HD.out) (HY.out.symm.trans HYN.out) hk2 (fun j hj h => by rcases tried_pair hp1 HD.out hj h with h | h; exact .inl h; exact .inr (h.trans HK.out.symm)))
                  clear M1
                  go_wp2_with fail
                  refine (HP1.out _).mono ?_
                  rintro e w' ⟨rfl, rfl⟩
                  go_wp2_with fail
                  refine (HP2.out _).mono ?_
                  rintro e w' ⟨rfl, rfl⟩
                  go_wp2
                  go_round
                  case rel => exact ⟨I + 1, k, by omega, by omega, rfl, by go_num, M2.out⟩
                  case measure => simp [intOf]; omega
                · have M2 := Lib.hid (M1.out.miss (i := k) (R := Tried p (I + 1)) (fun _ => hk2) (fun j hj h => by rcases tried_pair hp1 HD.out hj h with h | h; exact .inl h; exact .inr (h.trans HK.out.symm)))
                  clear M1
                  go_wp2_with fail
                  refine (HP1.out _).mono ?_
                  rintro e w' ⟨rfl, rfl⟩
                  go_wp2_with fail
                  refine (HP2.out _).mono ?_
                  rintro e w' ⟨rfl, rfl⟩
                  go_wp2
                  go_round
                  case rel => exact ⟨I + 1, B, by omega, by omega, rfl, by go_num, M2.out⟩
                  case measure => simp [intOf]; omega
              · have a2 : (fv Y == 1) = false := fv1n hp1 hy
                have HYN := Lib.hid hy
                clear hy
                have M2 := Lib.hid (M1.out.miss (i := k) (R := Tried p (I + 1)) (fun h => absurd (HY.out.trans h) HYN.out) (fun j hj h => by rcases tried_pair hp1 HD.out hj h with h | h; exact .inl h; exact .inr (h.trans HK.out.symm)))
                clear M1
                go_wp2_with fail
                refine (HP1.out _).mono ?_
                rintro e w' ⟨rfl, rfl⟩
                go_wp2_with fail
                refine (HP2.out _).mono ?_
                rintro e w' ⟨rfl, rfl⟩
                go_wp2
                go_round
                case rel => exact ⟨I + 1, B, by omega, by omega, rfl, by go_num, M2.out⟩
                case measure => simp [intOf]; omega
          · have a1 : (fv Z == 1) = false := fv1n hp1 hz
            have HZN := Lib.hid hz
            clear hz
            have M1 := Lib.hid (HB.out.miss (i := I) (R := fun j => Tried p I j ∨ j = I) (fun h => absurd (HZ.out.trans h) HZN.out) (fun j _ h => h))
            by_cases hy : Y = 1
            · have a2 : (fv Y == 1) = true := fv1 hp1 hy
              have HYN := Lib.hid hy
              clear hy
              by_cases hk2 : k < B
              · have M2 := Lib.hid (M1.out.hit (i := k) (R := Tried p (I + 1)) (HK1.out HD.out) (HKD.out HD.out) (HY.out.symm.trans HYN.out) hk2 (fun j hj h => by rcases tried_pair hp1 HD.out hj h with h | h; exact .inl h; exact .inr (h.trans HK.out.symm)))
                clear M1
                go_wp2_with fail
                refine (HP1.out _).mono ?_
                rintro e w' ⟨rfl, rfl⟩
                go_wp2_with fail
                refine (HP2.out _).mono ?_
                rintro e w' ⟨rfl, rfl⟩
                go_wp2
                go_round
                case rel => exact ⟨I + 1, k, by omega, by omega, rfl, by go_num, M2.out⟩
                case measure => simp [intOf]; omega
              · have M2 := Lib.hid (M1.out.miss (i := k) (R := Tried p (I + 1)) (fun _ => hk2) (fun j hj h => by rcases tried_pair hp1 HD.out hj h with h | h; exact .inl h; exact .inr (h.trans HK.out.symm)))
                clear M1
                go_wp2_with fail
                refine (HP1.out _).mono ?_
                rintro e w' ⟨rfl, rfl⟩
                go_wp2_with fail
                refine (HP2.out _).mono ?_
                rintro e w' ⟨rfl, rfl⟩
                go_wp2
                go_round
                case rel => exact ⟨I + 1, B, by omega, by omega, rfl, by go_num, M2.out⟩
                case measure => simp [intOf]; omega
            · have a2 : (fv Y == 1) = false := fv1n hp1 hy
              have HYN := Lib.hid hy
              clear hy
              have M2 := Lib.hid (M1.out.miss (i := k) (R := Tried p (I + 1)) (fun h => absurd (HY.out.trans h) HYN.out) (fun j hj h => by rcases tried_pair hp1 HD.out hj h with h | h; exact .inl h; exact .inr (h.trans HK.out.symm)))
              clear M1
              go_wp2_with fail
              refine (HP1.out _).mono ?_
              rintro e w' ⟨rfl, rfl⟩
              go_wp2_with fail
              refine (HP2.out _).mono ?_
              rintro e w' ⟨rfl, rfl⟩
              go_wp2
              go_round
              case rel => exact ⟨I + 1, B, by omega, by omega, rfl, by go_num, M2.out⟩
              case measure => simp [intOf]; omega
        · have t2 : ((r : Int) != 0) = true := by rw [bne_iff_ne]; omega
          have hs := HB.out.skip hp1 (fun h => hr0 (hdv.2 h))
          have HS := Lib.hid hs
          clear hs hdv hr0
          go_wp2
          go_round
          case rel => exact ⟨I + 1, B, by omega, by omega, rfl, by go_num, HS.out⟩
          case measure => simp [intOf]; omega
      · have q1 : (p : Int) - 1 < (I : Int) * I := by rw [ec]; omega
        have hI4 : I * I ≤ 46341 * 46341 := Nat.mul_le_mul hI2 hI2
        have q2 : (I : Int) * I ≤ 2147488281 := by rw [ec]; omega
        have q0 : (0 : Int) ≤ (I : Int) * I := by rw [ec]; omega
        have hb := HB.out.done HP.out HX.out (by omega)
        have HBB := Lib.hid hb
        clear ec hii hb hI4
        go_wp2
        go_ret
        exact ⟨ret_int (by rw [HBB.out]), rfl⟩

set_option maxHeartbeats 1000000 in
theorem rgen_any (p : Nat) [NeZero p] (hp : IsPrime p) (hp1 : 3 ≤ p) (hp2 : p ≤ 2147483647) (w : World) :
    Calls Tryd.prog 108 #[vi p] w fun e w' => e = .returned (vi ((genN p : Nat) : Int)) ∧ w = w' := by
  obtain ⟨G, hG⟩ : ∃ G, G = genN p := ⟨_, rfl⟩
  have hg := genN_is hp
  rw [← hG] at hg ⊢
  obtain ⟨g1, g2, g3⟩ := hg.ord_iff hp
  have HP := Lib.hid hp
  have H2 := Lib.hid g3
  clear hG hg hp g3
  go_enter Tryd.func108, Tryd.ntmps108
  go_wp2
  go_loop [3, 4] (fun i _ => ∃ k : Nat, 1 ≤ k ∧ k ≤ G ∧ i = vi k) (fun i _ => G + 1 - (intOf i).toNat)
  case atStart => exact ⟨1, Nat.le_refl _, g1, rfl⟩
  case round =>
    obtain ⟨k, hk1, hk2, rfl⟩ := hrel
    have ho := fun w => rorder_any p HP.out (by omega) hp2 k (by constructor <;> omega) w
    have hor := H2.out k hk1 hk2
    generalize ordN (el p (k : Int)) = O at ho hor
    have HO := Lib.hid ho
    clear ho
    by_cases hkG : k = G
    · have hO : O = p - 1 := hor.2 hkG
      have t1 : ((O : Int) == (p : Int) - 1) = true := by rw [beq_iff_eq]; omega
      obtain rfl := hkG
      clear hO hor
      go_wp2_with fail
      refine (HO.out _).mono ?_
      rintro e w' ⟨rfl, rfl⟩
      go_wp2
      go_ret
      exact ⟨rfl, rfl⟩
    · have t1 : ((O : Int) == (p : Int) - 1) = false := by
        rw [beq_eq_false_iff_ne]; intro h; exact hkG (hor.1 (by omega))
      clear hor
      go_wp2_with fail
      refine (HO.out _).mono ?_
      rintro e w' ⟨rfl, rfl⟩
      go_wp2
      go_round
      case rel => exact ⟨k + 1, by omega, by omega, by go_num⟩
      case measure => simp [intOf]; omega

set_option maxHeartbeats 400000 in
theorem rroot_any (p : Nat) [NeZero p] (hp : IsPrime p) (hp1 : 3 ≤ p) (hp2 : p ≤ 2147483647) (n : Int) (hn : I64 n) (w : World) :
    Calls Tryd.prog 83 #[vi p, vi n] w fun e w' => e = .returned (vi (fv (rootI p n))) ∧ w = w' := by
  have hg := genN_lt hp
  obtain ⟨hn1, hn2⟩ := hn
  have hgen := rgen_any p hp hp1 hp2 w
  obtain ⟨g, hgg⟩ : ∃ g, g = genN p := ⟨_, rfl⟩
  rw [← hgg] at hg hgen
  have HG := Lib.hid hgg
  have HGEN := Lib.hid hgen
  clear hgg hgen hp
  by_cases h0 : n < 1
  · have hr := rootI_no (p := p) (n := n) (by omega)
    have HR := Lib.hid hr
    clear hr
    go_enter Tryd.func83, Tryd.ntmps83
    go_wp2
    go_ret
    exact ⟨ret_int (by rw [HR.out, fv_zero]), rfl⟩
  · have hnz : ¬ n = 0 := by omega
    have hp0 : (0 : Int) ≤ (p : Int) - 1 := by omega
    have et : ((p : Int) - 1).tmod n = ((p : Int) - 1) % n := Int.tmod_eq_emod_of_nonneg hp0
    have eq_ : ((p : Int) - 1).tdiv n = ((p : Int) - 1) / n := Int.tdiv_eq_ediv_of_nonneg hp0
    by_cases hd : ((p : Int) - 1) % n = 0
    · have t1 : (((p : Int) - 1) % n != 0) = false := by rw [hd]; rfl
      have hr : rootI p n = pw (el p (g : Int)) (((p : Int) - 1) / n).toNat := by rw [rootI, if_pos ⟨by omega, hd⟩, HG.out]
      have d1 : 0 ≤ ((p : Int) - 1) / n := Int.ediv_nonneg hp0 (by omega)
      have d2 : ((p : Int) - 1) / n ≤ (p : Int) - 1 := Int.ediv_le_self _ hp0
      have hdI : I64 (((p : Int) - 1) / n) := ⟨by omega, by omega⟩
      have hgI : I64 (g : Int) := ⟨by omega, by omega⟩
      have hpw := rpow_nn p (by omega) hp2 g (((p : Int) - 1) / n) hgI hdI d1 w
      rw [show (((p : Int) - 1) / n).natAbs = (((p : Int) - 1) / n).toNat by omega, ← hr] at hpw
      have HPW := Lib.hid hpw
      have d3 : IntKind.i64.wrap (((p : Int) - 1) / n) = ((p : Int) - 1) / n := IntWalk.i64_in _ hdI
      clear hd hr hpw
      go_enter Tryd.func83, Tryd.ntmps83
      go_wp2_with fail
      refine (HGEN.out).mono ?_
      rintro e w' ⟨rfl, rfl⟩
      go_wp2_with fail
      refine (HPW.out).mono ?_
      rintro e w' ⟨rfl, rfl⟩
      go_wp2
      go_ret
      exact ⟨rfl, rfl⟩
    · have t1 : (((p : Int) - 1) % n != 0) = true := by rw [bne_iff_ne]; exact hd
      have hr := rootI_no (p := p) (n := n) (by rintro ⟨_, h⟩; exact hd h)
      have HR := Lib.hid hr
      clear hr hd eq_
      go_enter Tryd.func83, Tryd.ntmps83
      go_wp2
      go_ret
      exact ⟨ret_int (by rw [HR.out, fv_zero]), rfl⟩
end Go.Proofs.YtgmkcmahbefcoaaDoor

/- Walks of the reference's domains: Fault, New; law2.made. -/
set_option linter.unusedVariables false
namespace Go.Proofs.YtgmkcmahbefcoaaDoor
open Go.RowKit Zp

/-- the fault of a domain by its number -/
noncomputable def faultI (q : Nat) (size t : Int) : Int := open Classical in if ∃ n : Nat, size = n ∧ SizeOk q n then (if t % (q : Int) = 0 then 3 else 0) else 2
theorem faultI_size {q : Nat} {size t : Int} (h : ¬ ∃ n : Nat, size = n ∧ SizeOk q n) : faultI q size t = 2 := by unfold faultI; rw [if_neg h]
theorem faultI_shift {q n : Nat} {t : Int} (h : SizeOk q n) (h0 : t % (q : Int) = 0) : faultI q n t = 3 := by unfold faultI; rw [if_pos ⟨n, rfl, h⟩, if_pos h0]
theorem faultI_ok {q n : Nat} {t : Int} (h : SizeOk q n) (h0 : ¬ t % (q : Int) = 0) : faultI q n t = 0 := by unfold faultI; rw [if_pos ⟨n, rfl, h⟩, if_neg h0]

def TwoRel (size : Int) (a b : Value) : Prop := ∃ (j N : Nat) (B : Bool), j ≤ 17 ∧ N = 2 ^ j ∧ a = .bool B ∧ b = vi N ∧ (B = true ↔ ∃ i, i < j ∧ size = ((2 ^ i : Nat) : Int))
set_option maxRecDepth 100000 in
set_option maxHeartbeats 2000000 in
theorem rfault_any (q : Nat) [NeZero q] (hq2 : 2 ≤ q) (hqm : q ≤ 2147483647) (size t : Int) (hs : I64 size) (ht : I64 t) (w : World) :
    Calls Tryd.prog 52 #[vi q, vi size, vi t] w fun e w' => e = .returned (vi (faultI q size t)) ∧ w = w' := by
  obtain ⟨F, hF⟩ : ∃ F, F = faultI q size t := ⟨_, rfl⟩
  rw [← hF]
  have HF := Lib.hid hF
  clear hF
  go_enter Tryd.func52, Tryd.ntmps52
  go_wp2
  go_loop [7, 8] (fun a b => TwoRel size a b) (fun _ b => 131073 - (intOf b).toNat)
  case atStart => exact ⟨0, 1, false, by omega, rfl, rfl, rfl, by simp⟩
  case round =>
    obtain ⟨j, N, tw, hj, hN, rfl, rfl, htw⟩ := hrel
    have HTW := Lib.hid htw
    clear htw
    by_cases hj16 : j ≤ 16
    · have hN2 : N ≤ 65536 := by rw [hN]; exact Nat.pow_le_pow_right (n := 2) (by omega) hj16
      have hN1 : 1 ≤ N := by rw [hN]; exact Nat.pow_pos (by omega)
      have hN3 : N * 2 = 2 ^ (j + 1) := by rw [hN, Nat.pow_succ]
      have HN3 := Lib.hid hN3
      have hiff : ∀ B : Bool, (B = true ↔ (tw = true ∨ (N : Int) = size)) → (B = true ↔ ∃ i, i < j + 1 ∧ size = ((2 ^ i : Nat) : Int)) := fun B hB => by
        rw [hB, HTW.out]
        constructor
        · rintro (⟨i, h1, h2⟩ | h1)
          · exact ⟨i, by omega, h2⟩
          · exact ⟨j, by omega, by rw [← hN]; exact h1.symm⟩
        · rintro ⟨i, h1, h2⟩
          by_cases hij : i = j
          · exact .inr (by rw [h2, hij, hN])
          · exact .inl ⟨i, by omega, h2⟩
      have HI := Lib.hid hiff
      clear hiff hN hN3
      cases tw with
      | true =>
        go_wp2
        go_round
        case rel => exact ⟨j + 1, N * 2, true, by omega, HN3.out, rfl, by go_num, HI.out true (by simp)⟩
        case measure => (simp [intOf] <;> omega)
      | false =>
        by_cases he : (N : Int) = size
        · have t1 : ((N : Int) == size) = true := by rw [beq_iff_eq]; exact he
          have HE := Lib.hid he
          clear he
          go_wp2
          go_round
          case rel => exact ⟨j + 1, N * 2, true, by omega, HN3.out, rfl, by go_num, HI.out true (by simp [HE.out])⟩
          case measure => (simp [intOf] <;> omega)
        · have t1 : ((N : Int) == size) = false := by rw [beq_eq_false_iff_ne]; exact he
          have HE := Lib.hid he
          clear he
          go_wp2
          go_round
          case rel => exact ⟨j + 1, N * 2, false, by omega, HN3.out, rfl, by go_num, HI.out false (by simp [HE.out])⟩
          case measure => (simp [intOf] <;> omega)
    · obtain rfl : j = 17 := by omega
      have hN17 : N = 131072 := by rw [hN]
      clear hN
      subst hN17
      cases tw with
      | false =>
        have hf : F = 2 := by
          rw [HF.out]
          refine faultI_size fun ⟨n, h1, ⟨⟨k, hk, h2⟩, _⟩⟩ => ?_
          have := HTW.out.2 ⟨k, by omega, by rw [h1, h2]⟩
          cases this
        have HF2 := Lib.hid hf
        clear hf
        go_wp2
        go_ret
        exact ⟨ret_int HF2.out.symm, rfl⟩
      | true =>
        have hex := HTW.out.1 rfl
        have hpos : ∃ n k : Nat, size = n ∧ n = 2 ^ k ∧ k ≤ 16 := by
          obtain ⟨i, h1, h2⟩ := hex
          exact ⟨_, i, h2, rfl, by omega⟩
        clear hex
        obtain ⟨n, k, rfl, hnk, hk⟩ := hpos
        have hn1 : 1 ≤ n := by rw [hnk]; exact Nat.pow_pos (by omega)
        have hn2 : n ≤ 65536 := by rw [hnk]; exact Nat.pow_le_pow_right (n := 2) (by omega) hk
        obtain ⟨r, hr⟩ : ∃ r, r = (q - 1) % n := ⟨_, rfl⟩
        have ep : (q : Int) - 1 = ((q - 1 : Nat) : Int) := by omega
        have e1 : ((q : Int) - 1).tmod n = (r : Int) := by rw [ep, Int.tmod_eq_emod_of_nonneg (by omega), hr]; omega
        have e2 : ((q : Int) - 1) % n = (r : Int) := by rw [ep, hr]; omega
        clear ep
        by_cases hr0 : r = 0
        · have hok : SizeOk q n := ⟨⟨k, hk, hnk⟩, Nat.dvd_of_mod_eq_zero (by omega)⟩
          have t1 : ((r : Int) != 0) = false := by rw [hr0]; rfl
          have hof := fun W => rof_any q hqm t ht W
          by_cases h0 : el q t = 0
          · have hf : F = 3 := by rw [HF.out]; exact faultI_shift hok (el_eq_zero.1 h0)
            have t2 : (fv (el q t) == 0) = true := by rw [h0]; rfl
            have HF2 := Lib.hid hf
            have HOF := Lib.hid hof
            clear hf hof hok hnk hr hr0 h0
            go_wp2_with fail
            refine (HOF.out _).mono ?_
            rintro e w' ⟨rfl, rfl⟩
            go_wp2
            go_ret
            exact ⟨ret_int HF2.out.symm, rfl⟩
          · have hf : F = 0 := by rw [HF.out]; exact faultI_ok hok (fun h => h0 (el_eq_zero.2 h))
            have t2 : (fv (el q t) == 0) = false := by rw [beq_eq_false_iff_ne]; exact fun h => h0 (fv_eq_zero.1 h)
            have HF2 := Lib.hid hf
            have HOF := Lib.hid hof
            clear hf hof hok hnk hr hr0 h0
            go_wp2_with fail
            refine (HOF.out _).mono ?_
            rintro e w' ⟨rfl, rfl⟩
            go_wp2
            go_ret
            exact ⟨ret_int HF2.out.symm, rfl⟩
        · have hf : F = 2 := by
            rw [HF.out]
            refine faultI_size fun ⟨m, h1, _, h2⟩ => ?_
            obtain rfl : n = m := by omega
            have := Nat.mod_eq_zero_of_dvd h2
            omega
          have t1 : ((r : Int) != 0) = true := by rw [bne_iff_ne]; omega
          have HF2 := Lib.hid hf
          clear hf hnk hr hr0
          go_wp2
          go_ret
          exact ⟨ret_int HF2.out.symm, rfl⟩

/-- a reference's domain -/
abbrev RDom (q n : Nat) (s r : Int) : Value := .agg #[vi q, vi n, vi s, vi r]

def GivesV (v : Value) (w : World) (e : Ending) (w' : World) : Prop := e = .returned v ∧ Below w.heap.size w w'
set_option maxHeartbeats 1000000 in
theorem rnew_any (q : Nat) [NeZero q] (hpr : IsPrime q) (h3 : 3 ≤ q) (hqm : q ≤ 2147483647) (n : Nat) (hn : n ≤ 65536) (t : Int) (ht : I64 t) (w : World) :
    Calls Tryd.prog 54 #[vi q, vi n, vi t] w fun e w' => GivesV (RDom q n (fv (el q t)) (fv (rootI q n))) w e w' := by
  have HR := Lib.hid (fun w => rroot_any q hpr h3 hqm n (by constructor <;> omega) w)
  have HO := Lib.hid (fun w => rof_any q hqm t ht w)
  generalize fv (rootI q n) = R at HR ⊢
  generalize fv (el q t) = T at HO ⊢
  clear hpr
  go_enter Tryd.func54, Tryd.ntmps54
  go_wp2_with fail
  refine (HR.out _).mono ?_
  rintro e w' ⟨rfl, rfl⟩
  go_wp2_with fail
  refine (HO.out _).mono ?_
  rintro e w' ⟨rfl, rfl⟩
  go_wp2
  exact bodyPost_ret (v := RDom q n T R) (by simp [results, Tryd.results54, go_sem]) rfl ⟨rfl, (Below.refl _ _).alloc (Nat.le_refl _) _⟩
end Go.Proofs.YtgmkcmahbefcoaaDoor

/- Walks: attestlaw2's plain and lives. -/
set_option linter.unusedVariables false
namespace Go.Proofs.YtgmkcmahbefcoaaDoor
open Go.RowKit Zp

/-- is there a domain? -/
def HasDom (p size t : Int) : Prop := HasField p ∧ ∃ n : Nat, size = n ∧ SizeOk p.toNat n ∧ ¬ t % p = 0

/-- domain.New where there is no domain of this field -/
def NoDomE (w : World) (e : Ending) (w' : World) : Prop := (e = NoDom 2 ∨ e = NoDom 3) ∧ w = w'
theorem dnew_none (q S b : Nat) [NeZero q] (size t : Int) (hs : I64 size) (ht : I64 t) (w : World) (F : Fld w S b q) (h : ¬ ∃ n : Nat, size = n ∧ SizeOk q n ∧ ¬ t % (q : Int) = 0) :
    Calls Tryd.prog 51 #[.pointer (some ⟨b, 0, none⟩), vi size, vi t] w fun e w' => NoDomE w e w' := by
  have hc := F.c0
  by_cases h1 : size < 1 ∨ 65536 < size
  · exact (dnew_size1 b size t h1 w).mono fun e w' ⟨h1, h2⟩ => ⟨.inl h1, h2⟩
  · obtain ⟨n, rfl⟩ := Int.eq_ofNat_of_zero_le (a := size) (by omega)
    by_cases h2 : SizeOk q n
    · have h3 : el q t = 0 := by
        false_or_by_contra
        rename_i h3
        exact h ⟨n, rfl, h2, fun h4 => h3 (el_eq_zero.2 h4)⟩
      exact (dnew_shift q b n t ht F.two F.max h2 h3 w hc).mono fun e w' ⟨h1, h2⟩ => ⟨.inr h1, h2⟩
    · exact (dnew_size2 q b n t (by omega) (by omega) F.two F.max h2 w hc).mono fun e w' ⟨h1, h2⟩ => ⟨.inl h1, h2⟩


/-- the parts of HasDom -/
theorem HasDom.parts {p size t : Int} (h : HasDom p size t) : ∃ q n : Nat, p = q ∧ size = n ∧ 3 ≤ q ∧ q ≤ 2147483647 ∧ IsPrime q ∧ SizeOk q n ∧ ¬ t % (q : Int) = 0 := by
  obtain ⟨⟨h3, hm, hpr⟩, n, rfl, hs, h0⟩ := h
  obtain ⟨q, rfl⟩ := Int.eq_ofNat_of_zero_le (a := p) (by omega)
  rw [Int.toNat_natCast] at hpr hs
  exact ⟨q, n, rfl, rfl, by omega, by omega, hpr, hs, h0⟩

/-- a list written out reads as it is -/
theorem sl_lit (w : World) (xs : List Int) : SL (w.alloc (.cells (xs.map vi).toArray 3)) (some ⟨w.heap.size, 0, none⟩) xs := by
  refine ⟨by simp, fun hn => ⟨_, rfl, by simp, fun j u hu => ?_⟩⟩
  have e : (⟨w.heap.size, 0, none⟩ : Addr).add j = ⟨w.heap.size, j, none⟩ := by simp [Addr.add]; intro h; exact h.symm
  rw [e, (Blk.new w 3 (xs.map vi).toArray).cell]
  simpa using hu

theorem size4 : SizeOk 17 4 := ⟨⟨2, by omega, rfl⟩, ⟨4, rfl⟩⟩
theorem root17 : rootI 17 ((4 : Nat) : Int) = el 17 13 := by
  rw [rootI_nat (by omega) (by decide) (by omega), gen17]
  decide
theorem vals17 : fvs (valL (el 17 3) (rootI 17 ((4 : Nat) : Int)) 4 (els 17 [1, 1])) = [4, 6, 15, 13] := by
  rw [root17]
  decide

theorem ints_n (A B : Option Addr) (n c m d : Nat) (xs ys : List Int) (hnx : xs.length = n) (hmy : ys.length = m) (hn : n ≤ 9223372036854775807) (hm : m ≤ 9223372036854775807) (w : World) (hsx : SL w A xs) (hsy : SL w B ys) :
    Calls Tryd.prog 14 #[.slice A n c, .slice B m d] w fun e w' => e = .returned (.bool (eqB xs ys)) ∧ ∃ k, w' = w.drewN k := by
  subst hnx hmy
  exact ints_any A B c d xs ys hn hm w hsx hsy
end Go.Proofs.YtgmkcmahbefcoaaDoor

/- Walk: law2.made. -/
set_option linter.unusedVariables false
namespace Go.Proofs.YtgmkcmahbefcoaaDoor
open Go.RowKit Zp

abbrev NoMade : Value := .tuple #[.pointer none, .agg #[vi 0, vi 0, vi 0, vi 0], .bool true]
theorem blk4 {w w1 : World} {t : TypeId} {a b c d : Value} (hb : Below (w.alloc (.cells #[a, b, c, d] t)).heap.size (w.alloc (.cells #[a, b, c, d] t)) w1) :
    w1.cell? ⟨w.heap.size, 0, none⟩ = some a ∧ w1.cell? ⟨w.heap.size, 1, none⟩ = some b ∧ w1.cell? ⟨w.heap.size, 2, none⟩ = some c ∧ w1.cell? ⟨w.heap.size, 3, none⟩ = some d ∧ ∀ i, w1.frozen? ⟨w.heap.size, i, none⟩ = false := by
  have h := (Blk.new w t #[a, b, c, d]).below hb (by simp)
  exact ⟨(h.cell 0).trans rfl, (h.cell 1).trans rfl, (h.cell 2).trans rfl, (h.cell 3).trans rfl, fun i => h.frozen i⟩
/-- a block of zeros -/
def ZeroBlk (w : World) (B : Nat) : Prop := ∀ a : Addr, a.block = B → ∀ v, w.cell? a = some v → v = vi 0
theorem zeroBlk {w : World} {B : Nat} {t : TypeId} (h : Blk w B t #[vi 0, vi 0, vi 0, vi 0]) : ZeroBlk w B := fun a ha v hv => by
  unfold Blk at h
  subst ha
  unfold World.cell? at hv
  rw [h] at hv
  simp only at hv
  split at hv
  · cases hv
  · have : a.off < 4 := by
      false_or_by_contra
      rename_i hge
      rw [Array.getElem?_eq_none (by simpa using hge)] at hv
      cases hv
    match a.off, hv, this with
    | 0, hv, _ => simpa using hv.symm
    | 1, hv, _ => simpa using hv.symm
    | 2, hv, _ => simpa using hv.symm
    | 3, hv, _ => simpa using hv.symm
theorem Fld.keepZ {w w' : World} {S b p B : Nat} [NeZero p] (h : Fld w S b p) (hz : ZeroBlk w B) (hk : ∀ q : Addr, q.block < S → q.block ≠ B → w'.cell? q = w.cell? q) (hs : w.heap.size ≤ w'.heap.size) : Fld w' S b p := by
  have h3 := h.three
  have hb : b ≠ B := fun e => by
    have := hz ⟨b, 0, none⟩ e _ h.c0
    injection this with _ h1
    omega
  obtain ⟨A, c, fs, a1, a2, a3, a4⟩ := h.c1
  refine ⟨h.prime, h.three, h.max, h.lt, Nat.le_trans h.le hs, (hk _ h.lt hb).trans h.c0, ⟨A, c, fs, (hk _ h.lt hb).trans a1, a2, a3, a4.1, fun hn => ?_⟩, (hk _ h.lt hb).trans h.c2⟩
  obtain ⟨ad, e, hlt, hc⟩ := a4.2 hn
  refine ⟨ad, e, hlt, fun j u hu => ?_⟩
  have hcj := hc j u hu
  have hne : ad.block ≠ B := fun e2 => by
    have h1 := hz (ad.add j) (by rw [block_of_add]; exact e2) _ hcj
    rw [List.getElem?_map, List.getElem?_map] at hu
    cases hq : fs[j]? with
    | none => rw [hq] at hu; cases hu
    | some q =>
      rw [hq] at hu
      have h2 := a3.two q (List.mem_of_getElem? hq)
      simp only [Option.map_some, Option.some.injEq] at hu
      rw [← hu] at h1
      injection h1 with _ h4
      omega
  exact (hk _ (by rw [block_of_add]; exact hlt) (by rw [block_of_add]; exact hne)).trans hcj
theorem Dom.keepZ {w w' : World} {S D b p n B : Nat} [NeZero p] {s : Fin p} (h : Dom w S D b p n s) (hz : ZeroBlk w B) (hk : ∀ q : Addr, q.block < S → q.block ≠ B → w'.cell? q = w.cell? q) (hs : w.heap.size ≤ w'.heap.size) : Dom w' S D b p n s := by
  have hD : D ≠ B := fun e => by have := hz ⟨D, 0, none⟩ e _ h.c0; cases this
  exact ⟨h.fld.keepZ hz hk hs, h.lt, (hk _ h.lt hD).trans h.c0, (hk _ h.lt hD).trans h.c1, (hk _ h.lt hD).trans h.c2, (hk _ h.lt hD).trans h.c3, h.s0, h.size⟩

theorem Dom.upS {w : World} {S S' D b p n : Nat} [NeZero p] {s : Fin p} (h : Dom w S D b p n s) (h1 : S ≤ S') (h2 : S' ≤ w.heap.size) : Dom w S' D b p n s :=
  ⟨h.fld.moreS h1 h2, Nat.lt_of_lt_of_le h.lt h1, h.c0, h.c1, h.c2, h.c3, h.s0, h.size⟩
theorem errNil (w : World) (hg : Typed w) : Calls Tryd.prog 12 #[.nilIface, vi 0] w fun x w' => SaysW (.bool true) w x w' := error_any 0 0 w hg
theorem errIs (k : Int) (h : k ≠ 0) (w : World) (hg : Typed w) : Calls Tryd.prog 12 #[.iface 70 (.int .i64 k), vi k] w fun x w' => SaysW (.bool true) w x w' := by
  have h1 := error_any k k w hg
  rw [errV_ne h, show (k == k) = true from by simp] at h1
  exact h1

/-- there is no domain of this field: both sides say why -/
theorem dnew_fault (q S b : Nat) [NeZero q] (size t : Int) (ht : I64 t) (w : World) (F : Fld w S b q) (h : ¬ ∃ n : Nat, size = n ∧ SizeOk q n ∧ ¬ t % (q : Int) = 0) :
    ∃ k : Int, k ≠ 0 ∧ faultI q size t = k ∧ Calls Tryd.prog 51 #[.pointer (some ⟨b, 0, none⟩), vi size, vi t] w fun e w' => e = NoDom k ∧ w = w' := by
  have hc := F.c0
  by_cases h1 : size < 1 ∨ 65536 < size
  · exact ⟨2, by decide, faultI_size (fun ⟨n, e, hn⟩ => by have := hn.pos; have := hn.le; omega), dnew_size1 b size t h1 w⟩
  · obtain ⟨n, rfl⟩ := Int.eq_ofNat_of_zero_le (a := size) (by omega)
    by_cases h2 : SizeOk q n
    · have h3 : t % (q : Int) = 0 := by
        false_or_by_contra
        rename_i h3
        exact h ⟨n, rfl, h2, h3⟩
      exact ⟨3, by decide, faultI_shift h2 h3, dnew_shift q b n t ht F.two F.max h2 (el_eq_zero.2 h3) w hc⟩
    · have h4 : faultI q n t = 2 := faultI_size (by
        rintro ⟨m, e, hm⟩
        have e2 : n = m := by omega
        exact h2 (e2 ▸ hm))
      exact ⟨2, by decide, h4, dnew_size2 q b n t (by omega) (by omega) F.two F.max h2 w hc⟩

set_option maxRecDepth 100000 in
set_option maxHeartbeats 1000000 in
theorem made2_nof (p size t : Int) (hp : I64 p) (h : ¬ HasField p) (w : World) (hT : Typed w) :
    Calls Tryd.prog 23 #[vi p, vi size, vi t] w fun e w' => SaysW NoMade w e w' := by
  have hbA : Below w.heap.size w (w.alloc (.cells #[vi 0, vi 0, vi 0, vi 0] 47)) := (Below.refl _ _).alloc (Nat.le_refl _) _
  have HN := Lib.hid (sfield_no p hp h _ (hT.below hbA))
  clear h
  go_enter Tryd.func23, Tryd.ntmps23
  go_wp2_with fail
  refine (HN.out).mono ?_
  rintro e w1 ⟨rfl, hb1⟩
  obtain ⟨c0, c1, c2, c3, hfz⟩ := blk4 hb1
  have f0 := hfz 0
  have f1 := hfz 1
  have f2 := hfz 2
  have f3 := hfz 3
  clear hfz
  go_wp2
  refine bodyPost_ret (v := NoMade) (by simp [results, Tryd.results23, go_sem, c0, c1, c2, c3]) rfl ⟨rfl, ?_⟩
  exact ((((hbA.trans (hb1.mono hbA.size)).setCell (by simp) _).setCell (by simp) _).setCell (by simp) _).setCell (by simp) _

set_option maxRecDepth 100000 in
set_option maxHeartbeats 1000000 in
theorem made2_nod (q : Nat) [NeZero q] (h3 : 3 ≤ q) (hqm : q ≤ 2147483647) (hpr : IsPrime q) (size t : Int) (hs : I64 size) (ht : I64 t) (h : ¬ ∃ n : Nat, size = n ∧ SizeOk q n ∧ ¬ t % (q : Int) = 0) (w : World) (hT : Typed w) :
    Calls Tryd.prog 23 #[vi q, vi size, vi t] w fun e w' => SaysW NoMade w e w' := by
  have hbA : Below w.heap.size w (w.alloc (.cells #[vi 0, vi 0, vi 0, vi 0] 47)) := (Below.refl _ _).alloc (Nat.le_refl _) _
  have HF := Lib.hid (sfield_yes q h3 hqm hpr _ (hT.below hbA))
  have hTA := hT.below hbA
  have HD := Lib.hid (fun b S W F => dnew_fault q S b size t ht W F h)
  have HR := Lib.hid (fun W => rfault_any q (by omega) hqm size t hs ht W)
  clear h hpr
  go_enter Tryd.func23, Tryd.ntmps23
  go_wp2_with fail
  refine (HF.out).mono ?_
  rintro e w1 ⟨b, rfl, F, hb1⟩
  obtain ⟨k, hk0, hfk, hnew⟩ := HD.out b _ w1 F
  rw [hfk] at HR
  have HN := Lib.hid hnew
  have hT1 := hTA.below hb1
  have t1 : (k != 0) = true := by rw [bne_iff_ne]; exact hk0
  have HE := Lib.hid (fun W hg => errIs k hk0 W hg)
  clear hnew hfk hk0
  go_wp2_with fail
  refine (HN.out).mono ?_
  rintro e w' ⟨rfl, rfl⟩
  go_wp2_with fail
  refine (HR.out _).mono ?_
  rintro e w' ⟨rfl, rfl⟩
  go_wp2_with fail
  refine (HE.out _ hT1).mono ?_
  rintro e w2 ⟨rfl, hb2⟩
  have hb12 := hb1.trans (hb2.mono hb1.size)
  obtain ⟨c0, c1, c2, c3, hfz⟩ := blk4 hb12
  have f0 := hfz 0
  have f1 := hfz 1
  have f2 := hfz 2
  have f3 := hfz 3
  clear hfz
  go_wp2
  refine bodyPost_ret (v := NoMade) (by simp [results, Tryd.results23, go_sem, c0, c1, c2, c3]) rfl ⟨rfl, ?_⟩
  exact ((((hbA.trans (hb12.mono hbA.size)).setCell (by simp) _).setCell (by simp) _).setCell (by simp) _).setCell (by simp) _

/-- a domain on both sides -/
def MadeTwo (q n : Nat) [NeZero q] (t : Int) (w : World) (e : Ending) (w' : World) : Prop :=
  ∃ b D : Nat, e = .returned (.tuple #[.pointer (some ⟨D, 0, none⟩), RDom q n (fv (el q t)) (fv (rootI q n)), .bool true]) ∧ Dom w' w'.heap.size D b q n (el q t) ∧ Below w.heap.size w w'
set_option maxRecDepth 100000 in
set_option maxHeartbeats 2000000 in
theorem made2_yes (q n : Nat) [NeZero q] (h3 : 3 ≤ q) (hqm : q ≤ 2147483647) (hpr : IsPrime q) (t : Int) (ht : I64 t) (hsz : SizeOk q n) (h0 : ¬ t % (q : Int) = 0) (w : World) (hT : Typed w) :
    Calls Tryd.prog 23 #[vi q, vi n, vi t] w fun e w' => MadeTwo q n t w e w' := by
  have hbA : Below w.heap.size w (w.alloc (.cells #[vi 0, vi 0, vi 0, vi 0] 47)) := (Below.refl _ _).alloc (Nat.le_refl _) _
  have HF := Lib.hid (sfield_yes q h3 hqm hpr _ (hT.below hbA))
  have hTA := hT.below hbA
  have hn := hsz.le
  have HD := Lib.hid (fun b S W F => dnew_ok q S b n t ht hsz (fun h => h0 (el_eq_zero.1 h)) W F)
  have hr := fun W => rfault_any q (by omega) hqm n t (by constructor <;> omega) ht W
  rw [faultI_ok hsz h0] at hr
  have HR := Lib.hid hr
  have HW := Lib.hid (fun W => rnew_any q hpr h3 hqm n hn t ht W)
  clear h0 hpr hsz hr
  go_enter Tryd.func23, Tryd.ntmps23
  go_wp2_with fail
  refine (HF.out).mono ?_
  rintro e w1 ⟨b, rfl, F, hb1⟩
  go_wp2_with fail
  refine (HD.out b _ w1 F).mono ?_
  rintro e w2 ⟨D, rfl, hD, hb2, _⟩
  have hb12 := hb1.trans (hb2.mono hb1.size)
  have hT2 := hTA.below hb12
  go_wp2_with fail
  refine (HR.out _).mono ?_
  rintro e w' ⟨rfl, rfl⟩
  go_wp2_with fail
  refine (errNil _ hT2).mono ?_
  rintro e w3 ⟨rfl, hb3⟩
  have hb13 := hb12.trans (hb3.mono hb12.size)
  have hD3 := hD.below hb3 (Nat.le_refl _)
  go_wp2_with fail
  refine (HW.out _).mono ?_
  rintro e w4 ⟨rfl, hb4⟩
  have hb14 := hb13.trans (hb4.mono hb13.size)
  have hD4 := hD3.below hb4 hD3.fld.le
  have hB14 := (Blk.new w 47 #[vi 0, vi 0, vi 0, vi 0]).below hb14 (by simp)
  have hz := zeroBlk hB14
  obtain ⟨c0, c1, c2, c3, hfz⟩ := blk4 hb14
  have f0 := hfz 0
  have f1 := hfz 1
  have f2 := hfz 2
  have f3 := hfz 3
  have hsz4 : w.heap.size < w4.heap.size := by have := hb14.size; simp at this; omega
  clear hfz
  go_wp2
  have hB5 := ((((hB14.set_ 0 (vi q)).set_ 1 (vi n)).set_ 2 (vi (fv (el q t)))).set_ 3 (vi (fv (rootI q n)))).alloc (.cells #[vi q, vi n, vi (fv (el q t)), vi (fv (rootI q n))] 47)
  have e0 := (hB5.cell 0).trans (show _ = some (vi q) from rfl)
  have e1 := (hB5.cell 1).trans (show _ = some (vi n) from rfl)
  have e2 := (hB5.cell 2).trans (show _ = some (vi (fv (el q t))) from rfl)
  have e3 := (hB5.cell 3).trans (show _ = some (vi (fv (rootI q n))) from rfl)
  have hbw := hbA.trans (hb14.mono hbA.size)
  go_region
  go_wp2
  refine bodyPost_ret (v := .tuple #[.pointer (some ⟨D, 0, none⟩), RDom q n (fv (el q t)) (fv (rootI q n)), .bool true]) (by simp [results, Tryd.results23, go_sem, e0, e1, e2, e3]) rfl ⟨b, D, rfl, ?_, ?_⟩
  · refine Dom.upS (hD4.keepZ hz (fun a ha hne => ?_) ?_) ?_ ?_
    · have hlt : a.block < w4.heap.size := Nat.lt_of_lt_of_le ha hD4.fld.le
      show (World.alloc _ _).cell? a = _
      rw [World.cell?_alloc_lt _ _ a (by simpa using hlt), World.cell?_setCell_other _ _ _ _ (fun e => hne (by rw [← e])), World.cell?_setCell_other _ _ _ _ (fun e => hne (by rw [← e])), World.cell?_setCell_other _ _ _ _ (fun e => hne (by rw [← e])), World.cell?_setCell_other _ _ _ _ (fun e => hne (by rw [← e]))]
    · show w4.heap.size ≤ (World.alloc _ _).heap.size
      simp
    · show w2.heap.size ≤ (World.alloc _ _).heap.size
      have := hD4.fld.le
      simp; omega
    · exact Nat.le_refl _
  · exact below_drewN ((((((hbw.setCell (by simp) _).setCell (by simp) _).setCell (by simp) _).setCell (by simp) _).alloc (by simp; omega) _)) 1
end Go.Proofs.YtgmkcmahbefcoaaDoor

/- Walks: powers, Coefficients, code.Is. -/
set_option linter.unusedVariables false
namespace Go.Proofs.YtgmkcmahbefcoaaDoor
open Go.RowKit Zp

theorem mul_one_ {p : Nat} [NeZero p] (a : Fin p) : a * 1 = a := by grind
theorem mul_assoc_ {p : Nat} [NeZero p] (a b c : Fin p) : a * b * c = a * (b * c) := by grind

/-- x, x y, x y^2 .. -/
def powL {p : Nat} [NeZero p] (x y : Fin p) (n : Nat) : List (Fin p) := tab n (fun i => x * pw y i)
theorem powL_length {p : Nat} [NeZero p] (x y : Fin p) (n : Nat) : (powL x y n).length = n := tab_length _ _
def PowRel {p : Nat} [NeZero p] (x y : Fin p) (n : Nat) (w : World) (v c : Value) (wr : World) : Prop := ∃ k g : Nat, k ≤ n ∧ c = vi (fv (x * pw y k)) ∧ v = .slice (some ⟨g, 0, none⟩) k n ∧ Own wr w.heap.size v (fvs (powL x y k)) ∧ Below w.heap.size w wr
def lenOf : Value → Nat
  | .slice _ n _ => n
  | _ => 0

set_option maxRecDepth 100000 in
set_option maxHeartbeats 1000000 in
theorem powers_any (p S D b : Nat) [NeZero p] (n : Nat) (s : Fin p) (x y : Fin p) (w : World) (hD : Dom w S D b p n s) :
    Calls Tryd.prog 87 #[.pointer (some ⟨D, 0, none⟩), vi (fv x), vi (fv y)] w fun e w' => Made (fvs (powL x y n)) w e w' := by
  have hp2 := hD.fld.max
  have hn1 := hD.size.le
  have hd1 := hD.c1
  have hDle := hD.le
  have hmk := make_ints0 n (by omega)
  go_enter Tryd.func87, Tryd.ntmps87
  go_wp2
  go_loopw [7, 8] (fun v c wr => PowRel x y n w v c wr) (fun v _ _ => n - lenOf v)
  case atStart => exact ⟨0, w.heap.size, Nat.zero_le _, by rw [pw_zero, mul_one_], rfl, own_made0 w _ n (Nat.le_refl _) (by omega), (Below.refl _ _).alloc (Nat.le_refl _) _⟩
  case round =>
    obtain ⟨k, g, hk, rfl, rfl, hown, hb⟩ := hrel
    have hDr := hD.below hb hDle
    have hd1 := hDr.c1
    have hd0 := hDr.c0
    have hcb := hDr.fld.c0
    by_cases hkn : k < n
    · have hlk : (fvs (powL x y k)).length = k := by simp [powL_length]
      have hts : powL x y (k + 1) = powL x y k ++ [x * pw y k] := tab_succ _ _
      have hX1 : x * pw y k * y = x * pw y (k + 1) := by rw [pw_succ]; exact mul_assoc_ _ _ _
      obtain ⟨X, hX⟩ : ∃ X, X = x * pw y k := ⟨_, rfl⟩
      rw [← hX] at hts hX1 ⊢
      obtain ⟨X2, hX2⟩ : ∃ X2, X2 = x * pw y (k + 1) := ⟨_, rfl⟩
      rw [← hX2] at hX1
      have hmul := fun W hc => mul_any p hp2 b (fv X) (fv y) (i64_fv _ hp2) (i64_fv _ hp2) W hc
      rw [el_fv, el_fv, hX1] at hmul
      have HMUL := Lib.hid hmul
      have HTS := Lib.hid hts
      have HLK := Lib.hid hlk
      have HX2 := Lib.hid hX2
      clear hmul hts hlk hX hX1 hX2
      have hgl := (hown.lt g rfl).1
      have hDne : some D ≠ some g := by intro e; injection e with e; have := hD.lt; omega
      have hbne : some b ≠ some g := by intro e; injection e with e; have := hD.fld.lt; omega
      go_wp2_with (at_builtin; refine wpList_app1_fits wr (fv X) rfl _ _ rfl w.heap.size g k n _ rfl rfl hown HLK.out.symm hkn ?_; intro w1 hown1 hg; have hd0' := hg.cell hd0 hDne; have hcb' := hg.cell hcb hbne)
      refine (HMUL.out _ hcb').mono ?_
      rintro e w' ⟨rfl, k5, rfl⟩
      go_wp2
      go_roundw
      case rel => exact ⟨k + 1, g, by omega, by rw [HX2.out], rfl, by rw [HTS.out, fvs, List.map_append]; exact hown1, below_drewN (hb.grown hg hb.size (fun j hj => by injection hj with hj; subst hj; exact hgl)) k5⟩
      case measure => simp [lenOf]; omega
    · obtain rfl : k = n := by omega
      go_wp2
      go_ret
      exact ⟨_, rfl, hown, hb⟩
end Go.Proofs.YtgmkcmahbefcoaaDoor

/- The walk of the law DomainBack. -/
set_option linter.unusedVariables false
namespace Go.Proofs.YtgmkcmahbefcoaaDoor
open Go.RowKit Zp

/-- is there a domain? -/
def HasDom2 (p size t : Int) : Prop := HasField p ∧ ∃ n : Nat, size = n ∧ SizeOk p.toNat n ∧ ¬ t % p = 0
theorem made2_no (p size t : Int) (hp : I64 p) (hs : I64 size) (ht : I64 t) (h : ¬ HasDom2 p size t) (w : World) (hT : Typed w) :
    Calls Tryd.prog 23 #[vi p, vi size, vi t] w fun e w' => SaysW NoMade w e w' := by
  by_cases hF : HasField p
  · have h' : ¬ ∃ n : Nat, size = n ∧ SizeOk p.toNat n ∧ ¬ t % p = 0 := fun h2 => h ⟨hF, h2⟩
    obtain ⟨h3, hm, hpr⟩ := hF
    obtain ⟨q, rfl⟩ := Int.eq_ofNat_of_zero_le (a := p) (by omega)
    rw [Int.toNat_natCast] at hpr h'
    haveI := hpr.ne
    exact made2_nod q (by omega) (by omega) hpr size t hs ht h' w hT
  · exact made2_nof p size t hp hF w hT
theorem ints_sameH (A B : Option Addr) (n c m d : Nat) (xs ys : List Int) (hnx : xs.length = n) (hmy : ys.length = m) (he : xs = ys) (hn : n ≤ 9223372036854775807) (w : World) (hsx : SL w A xs) (hsy : SL w B ys) :
    Calls Tryd.prog 14 #[.slice A n c, .slice B m d] w fun e w' => e = .returned (.bool true) ∧ ∃ k, w' = w.drewN k := by
  subst hnx hmy
  have h := ints_any A B c d xs ys hn (by rw [← he]; exact hn) w hsx hsy
  rw [eqB_true he] at h
  exact h

end Go.Proofs.YtgmkcmahbefcoaaDoor

/- Walks of the reference's Points and Values. -/
set_option linter.unusedVariables false
namespace Go.Proofs.YtgmkcmahbefcoaaDoor
open Go.RowKit Zp

/-- a reference's domain lies at a block -/
structure RD (w : World) (B q n : Nat) (s r : Int) : Prop where
  c0 : w.cell? ⟨B, 0, none⟩ = some (vi q)
  c1 : w.cell? ⟨B, 1, none⟩ = some (vi n)
  c2 : w.cell? ⟨B, 2, none⟩ = some (vi s)
  c3 : w.cell? ⟨B, 3, none⟩ = some (vi r)
theorem RD.new (w : World) (t : TypeId) (q n : Nat) (s r : Int) : RD (w.alloc (.cells #[vi q, vi n, vi s, vi r] t)) w.heap.size q n s r := by
  have h := Blk.new w t #[vi q, vi n, vi s, vi r]
  exact ⟨(h.cell 0).trans rfl, (h.cell 1).trans rfl, (h.cell 2).trans rfl, (h.cell 3).trans rfl⟩
theorem RD.below {w w' : World} {B q n : Nat} {s r : Int} (h : RD w B q n s r) {X : Nat} (hb : Below X w w') (hB : B < X) : RD w' B q n s r :=
  ⟨(hb.cell (p := ⟨B, 0, none⟩) hB).trans h.c0, (hb.cell (p := ⟨B, 1, none⟩) hB).trans h.c1, (hb.cell (p := ⟨B, 2, none⟩) hB).trans h.c2, (hb.cell (p := ⟨B, 3, none⟩) hB).trans h.c3⟩
theorem made_boxed {w w0 w' : World} {xs : List Int} {e : Ending} (hb : Below w.heap.size w w0) (h : Made xs w0 e w') : Made xs w e w' := by
  obtain ⟨v, h1, h2, h3⟩ := h
  exact ⟨v, h1, h2.more hb.size, hb.trans (h3.mono hb.size)⟩
theorem powL_get {p : Nat} [NeZero p] (s r : Fin p) (n k : Nat) (hk : k < (powL s r n).length) : (powL s r n)[k] = s * pw r k := by
  rw [powL_length] at hk
  rw [← co_of_lt (by rw [powL_length]; exact hk)]; unfold powL; rw [co_tab, if_pos hk]

set_option maxRecDepth 100000 in
set_option maxHeartbeats 2000000 in
theorem rpoints_any (q : Nat) [NeZero q] (hqm : q ≤ 2147483647) (n : Nat) (hn : n ≤ 65536) (s r : Fin q) (w : World) :
    Calls Tryd.prog 58 #[RDom q n (fv s) (fv r)] w fun e w' => Made (fvs (powL s r n)) w e w' := by
  obtain ⟨l, hl⟩ : ∃ l, l = powL s r n := ⟨_, rfl⟩
  rw [← hl]
  have hll : l.length = n := by rw [hl, powL_length]
  have hget : ∀ k (hk : k < l.length), l[k] = s * pw r k := fun k hk => by
    have := powL_get s r n k (by rw [← hl]; exact hk)
    rw [← this]; congr 1
  have HLL := Lib.hid hll
  have HG := Lib.hid hget
  have hba : Below w.heap.size w (w.alloc (.cells #[vi q, vi n, vi (fv s), vi (fv r)] 47)) := (Below.refl _ _).alloc (Nat.le_refl _) _
  have hrd := RD.new w 47 q n (fv s) (fv r)
  have hlt : w.heap.size < (w.alloc (.cells #[vi q, vi n, vi (fv s), vi (fv r)] 47)).heap.size := by simp
  clear hl hll hget
  go_enter Tryd.func58, Tryd.ntmps58
  go_wp2
  generalize w.alloc (.cells #[vi q, vi n, vi (fv s), vi (fv r)] 47) = w0 at hba hrd hlt ⊢
  obtain ⟨B, hB⟩ : ∃ B, B = w.heap.size := ⟨_, rfl⟩
  rw [← hB] at hrd hlt ⊢
  have HB := Lib.hid hB
  clear hB
  go_loopw [3, 4, 5] (fun v x i wr => ∃ k : Nat, k ≤ n ∧ i = vi k ∧ x = vi (fv (s * pw r k)) ∧ Own wr w0.heap.size v ((fvs l).take k) ∧ Below w0.heap.size w0 wr) (fun _ _ i _ => n - (intOf i).toNat)
  case atStart => exact ⟨0, Nat.zero_le _, rfl, by rw [pw_zero, mul_one_], World.ownsRow_nil _ _ _ _, Below.refl _ _⟩
  case round =>
    obtain ⟨k, hk, rfl, rfl, hown, hb⟩ := hrel
    have hrw := hrd.below hb hlt
    have c1 := hrw.c1
    by_cases hkn : k < n
    · have hkl : k < l.length := by rw [HLL.out]; exact hkn
      have h2 := map_take_succ fv l k hkl
      rw [HG.out k hkl] at h2
      have hmul := fun W => rmul_any q hqm (fv (s * pw r k)) (fv r) (i64_fv _ hqm) (i64_fv _ hqm) W
      have hst : s * pw r k * r = s * pw r (k + 1) := by rw [pw_succ]; grind
      rw [el_fv, el_fv, hst] at hmul
      generalize s * pw r k = X at h2 hmul hst
      have hlk : ((fvs l).take k).length < 17592186044416 := by
        have := List.length_take_le k (fvs l); omega
      have H2 := Lib.hid h2
      have HMUL := Lib.hid hmul
      have HLK := Lib.hid hlk
      clear h2 hmul hst hlk
      go_wp2_with (first | (go_at_call 50; refine (HMUL.out _).mono ?_; rintro e w' ⟨rfl, rfl⟩) | (at_builtin; refine wpList_app1 wr (fv X) rfl _ _ rfl w0.heap.size _ _ rfl rfl hown HLK.out hb.size ?_; intro v' w1 hg; have hb1 := hg.below hb hown (Nat.le_refl _) hb.size; have hr1 := hrd.below hb1 hlt; have d0 := hr1.c0; have d3 := hr1.c3))
      go_roundw
      case rel => exact ⟨k + 1, by omega, by go_num, rfl, by rw [← H2.out]; exact hg.own, hb1⟩
      case measure => simp [intOf]; omega
    · obtain rfl : k = n := by omega
      go_wp2
      go_ret
      rw [List.take_of_length_le (by rw [List.length_map, HLL.out]; exact Nat.le_refl _)] at hown
      exact made_boxed hba ⟨_, rfl, hown, hb⟩

/-- the first k points are values already -/
def ValsRel {q : Nat} [NeZero q] (V P : Nat → Fin q) (n : Nat) (base : Nat) (g c : Nat) (i : Value) (wr : World) : Prop :=
  ∃ (k : Nat) (L : List (Fin q)), k ≤ n ∧ i = vi k ∧ L.length = n ∧ (∀ j, j < n → co L j = if j < k then V j else P j) ∧ Own wr base (.slice (some ⟨g, 0, none⟩) n c) (fvs L)
set_option maxRecDepth 100000 in
set_option maxHeartbeats 2000000 in
theorem rvalues_any (q : Nat) [NeZero q] (hq2 : 2 ≤ q) (hqm : q ≤ 2147483647) (n : Nat) (hn1 : 1 ≤ n) (hn : n ≤ 65536) (s r : Fin q) (A : Option Addr) (m ca : Nat) (xs : List Int) (hml : xs.length = m) (hxs : ∀ x ∈ xs, I64 x) (hr : m * 8 ≤ 281474976710656) (w : World) (hs : SL w A xs) :
    Calls Tryd.prog 25 #[RDom q n (fv s) (fv r), .slice A m ca] w fun e w' => Made (fvs (valL s r n (els q xs))) w e w' := by
  have hba : Below w.heap.size w (w.alloc (.cells #[vi q, vi n, vi (fv s), vi (fv r)] 47)) := (Below.refl _ _).alloc (Nat.le_refl _) _
  have hrd := RD.new w 47 q n (fv s) (fv r)
  have hlt : w.heap.size < (w.alloc (.cells #[vi q, vi n, vi (fv s), vi (fv r)] 47)).heap.size := by simp
  have HP := Lib.hid (fun w => rpoints_any q hqm n hn s r w)
  have hpl : (powL s r n).length = n := powL_length _ _ _
  have hpg : ∀ j, j < n → co (powL s r n) j = s * pw r j := fun j hj => by unfold powL; rw [co_tab, if_pos hj]
  have hvl : ∀ L : List (Fin q), L.length = n → (∀ j, j < n → co L j = ev (els q xs) (s * pw r j)) → L = valL s r n (els q xs) := fun L h1 h2 =>
    ext_co (by rw [h1, valL_length]) (fun i hi => by rw [h2 i (by omega)]; unfold valL; rw [co_tab, if_pos (by omega)])
  generalize hP : powL s r n = P at HP hpl hpg
  have hev := fun x hx W hsW => reval_n q hq2 hqm A m ca xs hml hxs hr x hx W hsW
  have HPL := Lib.hid hpl
  have HPG := Lib.hid hpg
  have HVL := Lib.hid hvl
  have HEV := Lib.hid hev
  clear hP hpl hpg hvl hev hml
  go_enter Tryd.func25, Tryd.ntmps25
  go_wp2_with fail
  refine (HP.out _).mono ?_
  rintro e w1 ⟨v, rfl, hown, hb1⟩
  obtain ⟨g, c, rfl, hg1, hg2⟩ := hown.block (by rw [List.length_map, HPL.out]; exact hn1)
  have hl : (fvs P).length = n := by rw [List.length_map, HPL.out]
  rw [hl] at hown ⊢
  have hrd1 := hrd.below hb1 hlt
  have hbw1 := hba.trans (hb1.mono hba.size)
  have hs1 := hs.below hbw1
  have hown' := hown.more (Nat.le_of_lt hlt)
  have hgw : w.heap.size < g := Nat.lt_of_lt_of_le hlt hg1
  clear hl hown hb1 hrd
  obtain ⟨B, hB⟩ : ∃ B, B = w.heap.size := ⟨_, rfl⟩
  rw [← hB] at hrd1 hgw hown' ⊢
  have HB := Lib.hid hB
  clear hB
  go_wp2
  go_loopw [6] (fun i wr => ValsRel (fun j => ev (els q xs) (s * pw r j)) (fun j => s * pw r j) n B g c i wr ∧ Below (B + 1) w1 wr) (fun i _ => n - (intOf i).toNat)
  case atStart => exact ⟨⟨0, P, Nat.zero_le _, rfl, HPL.out, fun j hj => by rw [if_neg (by omega)]; exact HPG.out j hj, hown'⟩, Below.refl _ _⟩
  case round =>
    obtain ⟨⟨k, L, hk, rfl, hLl, hLc, hownL⟩, hb⟩ := hrel
    have HLL := Lib.hid hLl
    have HLC := Lib.hid hLc
    clear hLl hLc
    by_cases hkn : k < n
    · have hkL : k < (fvs L).length := by rw [List.length_map, HLL.out]; exact hkn
      have hat := hownL.at_ (by rw [List.length_map, HLL.out]) k hkL
      have hfz := hownL.frozen_ (by rw [List.length_map, HLL.out]) k
      have hLk : (fvs L)[k] = fv (s * pw r k) := by
        have h1 := HLC.out k hkn
        rw [if_neg (by omega), co_of_lt (by rw [HLL.out]; exact hkn)] at h1
        simp [h1]
      rw [hLk] at hat
      have hsW := hs.below (hbw1.trans (hb.mono (by have := HB.out; omega)))
      have c0 := (hrd1.below hb (Nat.lt_succ_self _)).c0
      have hev := fun W hsW => HEV.out (fv (s * pw r k)) (i64_fv _ hqm) W hsW
      simp only [el_fv] at hev
      obtain ⟨V, hV⟩ : ∃ V, V = ev (els q xs) (s * pw r k) := ⟨_, rfl⟩
      rw [← hV] at hev
      have hst := hownL.store (by rw [List.length_map, HLL.out]) k (fv V)
      have hset : (fvs L).set k (fv V) = fvs (L.set k V) := by simp [List.map_set]
      rw [hset] at hst
      have hnew : ∀ j, j < n → co (L.set k V) j = if j < k + 1 then ev (els q xs) (s * pw r j) else s * pw r j := fun j hj => by
        rw [co_of_lt (by rw [List.length_set, HLL.out]; exact hj), List.getElem_set]
        by_cases hjk : k = j
        · rw [if_pos hjk, if_pos (by omega), hV, hjk]
        · rw [if_neg hjk, ← co_of_lt (by rw [HLL.out]; exact hj), HLC.out j hj]
          by_cases hlt2 : j < k
          · rw [if_pos hlt2, if_pos (by omega)]
          · rw [if_neg hlt2, if_neg (by omega)]
      generalize s * pw r k = X at hat hev hV
      have HE2 := Lib.hid hev
      have HST := Lib.hid hst
      have HNEW := Lib.hid hnew
      have i1 : (0 : Int) ≤ (k : Int) := by omega
      have i2 : (k : Int) < n := by omega
      have hmx : Tryd.prog.follows .mixedOrders = true := by kernel_rfl
      clear hev hst hset hnew hV hLk hownL
      go_wp2
      refine wp_region_quiet_tail 11 hmx (by kernel_rfl) ?_
      simp only [List.take_succ_cons, List.take_zero, List.drop_succ_cons, List.drop_zero]
      repeat (quiet_step ((go_at_call 59; exact quiet_eq (HE2.out _ (by exact hsW)))))
      refine wpQuiet_nil ?_
      intro _ hw'
      obtain ⟨nq1, hw''⟩ := hw'
      subst hw''
      go_wp2
      go_roundw
      case rel => exact ⟨⟨k + 1, L.set k V, by omega, by go_num, by rw [List.length_set]; exact HLL.out, HNEW.out, by exact HST.out.drewN nq1⟩, (below_drewN hb nq1).setCell (p := ⟨g, k, none⟩) (by show B + 1 ≤ g; omega) _⟩
      case measure => simp [intOf]; omega
    · obtain rfl : k = n := by omega
      have he := HVL.out L HLL.out (fun j hj => by rw [HLC.out j hj, if_pos (by omega)])
      rw [he] at hownL
      have hB := HB.out
      have hbf := hbw1.trans (hb.mono (by omega))
      go_wp2
      go_ret
      exact ⟨_, rfl, by rw [← hB]; exact hownL, hbf⟩
end Go.Proofs.YtgmkcmahbefcoaaDoor

/- Walks: same.Spoil; Domain.Points; the reference's Half. -/
set_option linter.unusedVariables false
namespace Go.Proofs.YtgmkcmahbefcoaaDoor
open Go.RowKit Zp


theorem dpoints_any (p S D b : Nat) [NeZero p] (n : Nat) (s : Fin p) (w : World) (hD : Dom w S D b p n s) :
    Calls Tryd.prog 61 #[.pointer (some ⟨D, 0, none⟩)] w fun e w' => Made (fvs (powL s (rootI p n) n)) w e w' := by
  have hc2 := hD.c2
  have hc3 := hD.c3
  have hDl := Nat.lt_of_lt_of_le hD.lt hD.le
  have HP := Lib.hid (fun k => powers_any p S D b n s s (rootI p n) (w.drewN k) (hD.drewN k))
  go_enter Tryd.func61, Tryd.ntmps61
  go_upto_region 1 with (fail)
  go_region_held3 (fun w' => w'.cell? ⟨D, 2, none⟩ = some (vi (fv s)) ∧ w'.cell? ⟨D, 3, none⟩ = some (vi (fv (rootI p n)))) (first | exact ⟨hc2, hc3⟩ | exact ⟨(hb.cell (p := ⟨D, 2, none⟩) hDl).trans hc2, (hb.cell (p := ⟨D, 3, none⟩) hDl).trans hc3⟩) ((go_at_call 87; refine (HP.out _).mono ?_; rintro e w1 ⟨v, rfl, hown, hb⟩))
  all_goals go_wp2
  all_goals go_ret
  all_goals exact ⟨v, rfl, hown.more (Nat.le_refl _), ⟨hb.os, hb.tape, hb.output, hb.size, hb.block⟩⟩

end Go.Proofs.YtgmkcmahbefcoaaDoor

/- The walk of the law DomainMakes. -/
set_option linter.unusedVariables false
namespace Go.Proofs.YtgmkcmahbefcoaaDoor
open Go.RowKit Zp

theorem below_draws {w w' : World} {B : Nat} (h : ∃ k, w' = w.drewN k) : Below B w w' := by
  obtain ⟨k, rfl⟩ := h
  exact below_drewN (Below.refl _ _) k
theorem tmod_two (i : Int) (n : Nat) (hn0 : 0 < n) : ∃ (T : Int) (K : Nat), K = (i % (n : Int)).toNat ∧ i.tmod n = T ∧ -(n : Int) < T ∧ T < n ∧ K < n ∧ (T = K ∨ (T < 0 ∧ T + n = K)) := by
  have ht := tmod_emod i n hn0
  have h1 := Int.emod_nonneg i (b := (n : Int)) (by omega)
  have h2 := Int.emod_lt_of_pos i (b := (n : Int)) (by omega)
  refine ⟨i.tmod n, (i % (n : Int)).toNat, rfl, rfl, ?_, ?_, by omega, ?_⟩
  · rw [ht]; split <;> (try split) <;> omega
  · rw [ht]; split <;> (try split) <;> omega
  · rw [ht]
    split
    · left; omega
    · split
      · left; omega
      · right; omega

end Go.Proofs.YtgmkcmahbefcoaaDoor

/- Walk: same.Copied. -/
set_option linter.unusedVariables false
namespace Go.Proofs.YtgmkcmahbefcoaaDoor
open Go.RowKit Zp

set_option maxRecDepth 100000 in
set_option maxHeartbeats 1000000 in
theorem copied_any (A : Option Addr) (d cap : Nat) (ts : List (List Int)) (hd : ts.length = d) (hd2 : d ≤ 5864062014805) (hlen : ∀ t ∈ ts, t.length ≤ 17592186044416) (w : World) (hs : TB w A ts) :
    Calls Tryd.prog 9 #[.slice A d cap] w fun e w' => MadeRows ts w e w' := by
  have HD := Lib.hid hd
  have HLN := Lib.hid hlen
  clear hd hlen
  go_enter Tryd.func9, Tryd.ntmps9
  go_wp2
  go_loopw [3, 4, 5] (fun v i _ wr => ∃ (k : Nat) (us : List Value), k ≤ d ∧ i = vi k ∧ OwnR wr w.heap.size v us ∧ RowsOwn wr w.heap.size us (ts.take k) ∧ Below w.heap.size w wr) (fun _ i _ _ => d - (intOf i).toNat)
  case atStart => exact ⟨0, [], Nat.zero_le _, rfl, World.ownsRow_nil _ _ _ _, RowsOwn.nil _ _, Below.refl _ _⟩
  case round =>
    obtain ⟨k, us, hk, rfl, hown, hrows, hb⟩ := hrel
    by_cases hkd : k < d
    · have hkt : k < ts.length := by rw [HD.out]; exact hkd
      obtain ⟨ad, A1, n1, c1, hA, hl, hc, hl1, h63, hs1, hi1⟩ := (hs.below hb) k hkt
      have hn1 : n1 ≤ 17592186044416 := by rw [← hl1]; exact HLN.out _ (List.getElem_mem hkt)
      have hst : ts.take k ++ [ts[k]] = ts.take (k + 1) := (List.take_succ_eq_append_getElem hkt).symm
      have hlenr := hrows.1
      rw [List.length_take] at hlenr
      have hus : us.length = k := by omega
      generalize ts[k] = row at hl1 hs1 hi1 hst
      have HST := Lib.hid hst
      have HUS := Lib.hid hus
      have HL1 := Lib.hid hl1
      subst hA
      have i1 : (0 : Int) ≤ (k : Int) := by omega
      have i2 : (k : Int) < d := by omega
      have hbe : Below wr.heap.size wr (wr.alloc (.cells #[] 3)) := (Below.refl _ _).alloc (Nat.le_refl _) _
      have ho := own_empty wr wr.heap.size (Nat.le_refl _)
      have hs1' := hs1.below hbe
      have hce : (wr.alloc (.cells #[] 3)).cell? (ad.add k) = some (.slice A1 n1 c1) := (hbe.cell hl).trans hc
      clear hst hlenr hus hl1
      go_wp2_with (at_builtin; first
        | (refine wpList_appA _ rfl _ _ rfl wr.heap.size _ [] A1 n1 c1 row rfl rfl HL1.out ho hs1' (by simpa using hn1) (by simp) ?_; intro v5 w5 hg5; have hown5 := hg5.own; have hb5 := hg5.below hbe ho (Nat.le_refl _) hbe.size; rw [List.nil_append] at hown5; clear hg5; obtain ⟨A5, n5, c5, rfl, hl5, hc5, _, _⟩ := hown5.shapeN; have hb45 := hb.trans (hb5.mono hb.size); have hownR5 := OwnR.below hown hb5; have hrows5 := (hrows.below hb5).snoc (Own.more hown5 hb.size); rw [HST.out] at hrows5; have hsz := hb45.size)
        | (refine wpList_appR w5 A5 n5 c5 rfl _ _ rfl w.heap.size _ us rfl rfl hownR5 (by rw [HUS.out]; omega) hsz ?_; intro v' w6 hg))
      go_roundw
      case rel => exact ⟨k + 1, us ++ [.slice A5 n5 c5], by omega, by go_num, hg.own, hg.rows hownR5 hrows5, hg.below hb45 hownR5 (Nat.le_refl _) hsz⟩
      case measure => simp [intOf]; omega
    · obtain rfl : k = d := by omega
      rw [List.take_of_length_le (by rw [HD.out]; exact Nat.le_refl _)] at hrows
      go_wp2
      go_ret
      exact ⟨_, us, rfl, hown, hrows, hb⟩
end Go.Proofs.YtgmkcmahbefcoaaDoor

/- Walk: same.Rows of equal rows. -/
set_option linter.unusedVariables false
namespace Go.Proofs.YtgmkcmahbefcoaaDoor
open Go.RowKit Zp

set_option maxHeartbeats 1000000 in
theorem rows_same (A B : Option Addr) (d c c2 : Nat) (ts : List (List Int)) (hd : ts.length = d) (hd63 : d < 9223372036854775808) (w : World) (hA : TB w A ts) (hB : TB w B ts) :
    Calls Tryd.prog 17 #[.slice A d c, .slice B d c2] w fun e w' => e = .returned (.bool true) ∧ ∃ k, w' = w.drewN k := by
  have HD := Lib.hid hd
  have t0 : ((d : Int) != (d : Int)) = false := by simp
  clear hd
  by_cases h0 : d = 0
  · subst h0
    go_enter Tryd.func17, Tryd.ntmps17
    go_wp2
    go_loopw [5] (fun i wr => i = vi 0 ∧ wr = w) (fun i _ => 0)
    case atStart => exact ⟨rfl, rfl⟩
    case round =>
      obtain ⟨rfl, rfl⟩ := hrel
      go_wp2
      go_ret
      exact ⟨rfl, 0, rfl⟩
  · obtain ⟨a0, _, _, _, rfl, _⟩ := hA 0 (by have := HD.out; omega)
    obtain ⟨b0, _, _, _, rfl, _⟩ := hB 0 (by have := HD.out; omega)
    have t5 : 0 < d := by omega
    have t6 : ((d : Int) == 0) = false := by rw [beq_eq_false_iff_ne]; omega
    go_enter Tryd.func17, Tryd.ntmps17
    go_wp2
    go_loopw [5, 6] (fun i _ wr => ∃ k m : Nat, k ≤ d ∧ i = vi k ∧ wr = w.drewN m) (fun i _ _ => d - (intOf i).toNat)
    case atStart => exact ⟨0, 0, Nat.zero_le _, rfl, rfl⟩
    case round =>
      obtain ⟨k, m, hk, rfl, rfl⟩ := hrel
      by_cases hkd : k < d
      · have hkt : k < ts.length := by rw [HD.out]; exact hkd
        obtain ⟨ad, A1, n1, c1, he, _, hc1, hl1, h63, hs1, _⟩ := hA k hkt
        injection he with he
        subst he
        obtain ⟨bd, B1, m1, c3, he, _, hc3, hl3, _, hs3, _⟩ := hB k hkt
        injection he with he
        subst he
        have hc1' : (w.drewN m).cell? (a0.add k) = some (.slice A1 n1 c1) := hc1
        have hc3' : (w.drewN m).cell? (b0.add k) = some (.slice B1 m1 c3) := hc3
        have HI := Lib.hid (fun (W : World) (h1 : SL W A1 ts[k]) (h3 : SL W B1 ts[k]) => ints_sameH A1 B1 n1 c1 m1 c3 ts[k] ts[k] hl1 hl3 rfl (by omega) W h1 h3)
        have i1 : (0 : Int) ≤ (k : Int) := by omega
        have i2 : (k : Int) < d := by omega
        clear hl1 hl3
        go_wp2
        go_quiet ((go_at_call 14; exact quiet_of2 (HI.out _ (by exact hs1) (by exact hs3))))
        go_wp2
        go_roundw
        case rel => exact ⟨k + 1, _, by omega, by go_num, rfl⟩
        case measure => simp [intOf]; omega
      · obtain rfl : k = d := by omega
        go_wp2
        go_ret
        exact ⟨rfl, _, rfl⟩
end Go.Proofs.YtgmkcmahbefcoaaDoor

/- What a row of a slice of slices weighs at most. -/
set_option linter.unusedVariables false
namespace Go.Proofs.YtgmkcmahbefcoaaDoor
open Go.RowKit Go.ChangeShapes

theorem weightsAll_mem {H : Type} {P : Program} {e : TypeId} {d : DataW H} {n : Nat} : ∀ {l : List (DataW H)}, d ∈ l → n ∈ d.weights P e → n ∈ DataW.weightsAll P e l
  | x :: l, hd, hn => by
    simp only [DataW.weightsAll, List.mem_append]
    rcases List.mem_cons.1 hd with rfl | h
    · exact .inl hn
    · exact .inr (weightsAll_mem h hn)
theorem sized_row {H : Type} {P : Program} {ts : List TypeId} {ds : List (DataW H)} (h : (DataW.weightsEach P ts ds).all (· ≤ reachBytes) = true) {j : Nat} {t e q : TypeId} {elems spare el sp : List (DataW H)} (ht : ts[j]? = some t) (hd : ds[j]? = some (.slice elems spare)) (hu : P.underlying t = some (.slice e)) (hv : P.underlying e = some (.slice q))
    (hm : .slice el sp ∈ elems) : (el.length + sp.length) * P.bytesOf q ≤ reachBytes := by
  have h1 : (el.length + sp.length) * P.bytesOf q ∈ DataW.weights P e (.slice el sp) := by simp [DataW.weights, hv]
  have h2 := weightsAll_mem hm h1
  have := List.all_eq_true.1 h _ (DataW.weights_mem_each ht hd _ (by simp only [DataW.weights, hu]; exact List.mem_cons_of_mem _ (List.mem_append_left _ h2)))
  simpa using this

theorem bytesI : Tryd.prog.bytesOf 3 = 8 := by kernel_rfl
theorem bytesR : Tryd.prog.bytesOf 23 = 24 := by kernel_rfl
/-- rows that came in, each of a length that memory holds -/
structure ArgMS (w : World) (A : Option Addr) (n c : Nat) (ts : List (List Int)) : Prop where
  m : ArgM w A n c ts
  n24 : n ≤ 5864062014805
  rows : ∀ t ∈ ts, t.length ≤ 17592186044416
theorem ArgMS.nil (w : World) : ArgMS w none 0 0 [] := ⟨ArgM.nil _, by omega, by simp⟩
theorem ArgMS.i64 {w : World} {A : Option Addr} {n c : Nat} {ts : List (List Int)} (h : ArgMS w A n c ts) : ∀ t ∈ ts, ∀ x ∈ t, I64 x := fun t ht => by
  obtain ⟨k, hk, rfl⟩ := List.mem_iff_getElem.1 ht
  obtain ⟨_, _, _, _, _, _, _, _, _, _, hi⟩ := h.m.tb k hk
  exact hi
theorem ArgMS.mk_ {H : Type} {tys : List TypeId} {ds : List (DataW H)} (hsz : (DataW.weightsEach Tryd.prog tys ds).all (· ≤ reachBytes) = true) {j : Nat} (ht : tys[j]? = some 22) {w : World} {a : Addr} {len cap : Nat} {A : Nat → Option Addr} {L C : Nat → Nat} {Z : Nat → List Int}
    (hd : ds[j]? = some (.slice ((List.range len).map fun r => Go.Deep.intRow .i64 (A r) (L r) (Z r)) ((List.range (cap - len)).map fun j => Go.Deep.intRow .i64 (A (len + j)) (L (len + j)) (Z (len + j))))) (hl : len ≤ cap) (hm : cap ≤ maxLen)
    (h : ∀ r, r < cap → w.cell? (a.add r) = some (.slice (A r) (L r) (C r)) ∧ L r ≤ C r ∧ C r ≤ maxLen ∧ (Z r).length = C r ∧ (∀ n ∈ Z r, (Lit.int .i64 n).wf = true) ∧ (A r = none → C r = 0) ∧
        ∀ a', A r = some a' → 0 ≤ a'.block ∧ ∀ c, c < C r → w.cell? (a'.add c) = some (.int .i64 ((Z r).getD c 0))) :
    ArgMS w (some a) len cap ((List.range len).map fun r => (Z r).take (L r)) := by
  refine ⟨ArgM.mk_ hl hm h, ?_, fun t hmem => ?_⟩
  · have h1 := sized_slice hsz (j := j) (t := 22) (e := 23) ht hd Tryd.underlying22
    rw [bytesR] at h1
    simp only [List.length_map, List.length_range, reachBytes] at h1
    omega
  · obtain ⟨r, hr, rfl⟩ := List.mem_map.1 hmem
    have hr' := List.mem_range.1 hr
    obtain ⟨_, h2, _, h4, _, h6, _⟩ := h r (by omega)
    rw [List.length_take]
    cases hA : A r with
    | none => have := h6 hA; omega
    | some a' =>
      have hin : DataW.slice (H := H) (lits .i64 ((Z r).take (L r))) (lits .i64 ((Z r).drop (L r))) ∈ (List.range len).map fun r => Go.Deep.intRow .i64 (A r) (L r) (Z r) :=
        List.mem_map.2 ⟨r, hr, by simp only [Go.Deep.intRow, hA]⟩
      have h1 := sized_row hsz (j := j) ht hd Tryd.underlying22 Tryd.underlying23 hin
      rw [bytesI] at h1
      simp only [lits, List.length_map, List.length_take, List.length_drop, reachBytes] at h1
      omega
end Go.Proofs.YtgmkcmahbefcoaaDoor

/- The walk of the law SumsTotals (under way). -/
set_option linter.unusedVariables false
namespace Go.Proofs.YtgmkcmahbefcoaaDoor
open Go.RowKit Zp

end Go.Proofs.YtgmkcmahbefcoaaDoor

/- The walk of the law SumsTotals (under way). -/
set_option linter.unusedVariables false
namespace Go.Proofs.YtgmkcmahbefcoaaDoor
open Go.RowKit Zp

theorem over_of_all {ts : List (List Int)} {d v : Nat} (hd : ts.length = d) (hall : ∀ j, j < d → (ts.getD j []).length = (ts.getD 0 []).length) (hv : Cube (ts.getD 0 []).length v) : Over ts v := fun t ht => by
  obtain ⟨k, hk, rfl⟩ := List.mem_iff_getElem.1 ht
  have h := hall k (by omega)
  rw [List.getD_eq_getElem?_getD, List.getElem?_eq_getElem hk, Option.getD_some] at h
  rw [h]; exact hv
end Go.Proofs.YtgmkcmahbefcoaaDoor
