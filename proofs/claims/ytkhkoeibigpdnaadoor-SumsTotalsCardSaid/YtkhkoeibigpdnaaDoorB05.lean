/- A bundle of texts: Fx, Qs, Qo, Qr, Sd, Se, Sw, Sz, LawG7, LawG8, LawG9. -/
import Derived.Test.YtkhkoeibigpdnaaDoorB04
import Derived.Test.YtkhkoeibigpdnaaDoorB03
import Derived.Test.YtkhkoeibigpdnaaDoorB00
import Derived.SizedLaws
import Derived.Deep.Matrix
/- Fixed tables as lists; rows of one's own, carried. -/
set_option linter.unusedVariables false
namespace Go.Proofs.YtkhkoeibigpdnaaDoor
open Go.RowKit Zp

/-- no sum: it is told so -/
theorem Total_err (b : Nat) (A : Option Addr) (d c : Nat) (ts : List (List Int)) (hd : ts.length = d) (hd63 : d < 9223372036854775808) (h : ¬ (1 ≤ d ∧ d ≤ 4 ∧ ∃ v, Over ts v)) (w : World) (hs : TB w A ts) :
    Calls Tryd.prog 48 #[.pointer (some ⟨b, 0, none⟩), .slice A d c] w fun e w' => e = NoInt 2 ∧ Below w.heap.size w w' := by
  by_cases h1 : d = 0 ∨ 4 < d
  · exact (Total_d b A d c hd63 h1 w).mono fun e w' ⟨h2, h3⟩ => ⟨h2, h3 ▸ Below.refl _ _⟩
  · exact Total_no b A d c ts hd (by omega) (by omega) (fun hv => h ⟨by omega, by omega, hv⟩) w hs

/-- the tables with their first variable let be r, as lists -/
def fixI (q h : Nat) [NeZero q] (ts : List (List Int)) (d : Nat) (r : Fin q) : List (List Int) := (List.range d).map fun j => fvs (fixL h (tabOf q ts j) r)
theorem fixI_length (q h : Nat) [NeZero q] (ts : List (List Int)) (d : Nat) (r : Fin q) : (fixI q h ts d r).length = d := by simp [fixI]
theorem fixI_take (q h : Nat) [NeZero q] (ts : List (List Int)) (d : Nat) (r : Fin q) (k : Nat) (hk : k < d) : (fixI q h ts d r).take k ++ [fvs (fixL h (tabOf q ts k) r)] = (fixI q h ts d r).take (k + 1) := by
  rw [List.take_succ_eq_append_getElem (by rw [fixI_length]; exact hk)]; simp [fixI]
theorem fixI_over (q u : Nat) [NeZero q] (ts : List (List Int)) (d : Nat) (r : Fin q) (hu : u ≤ 12) : Over (fixI q (2 ^ u) ts d r) u := fun l hl => by
  obtain ⟨j, _, rfl⟩ := List.mem_map.1 hl
  exact ⟨hu, by rw [List.length_map, fixL_length]⟩
theorem fixI_i64 (q h : Nat) [NeZero q] (hq : q ≤ 2147483647) (ts : List (List Int)) (d : Nat) (r : Fin q) : ∀ l ∈ fixI q h ts d r, ∀ x ∈ l, I64 x := fun l hl => by
  obtain ⟨j, _, rfl⟩ := List.mem_map.1 hl
  exact i64_fvsR _ hq
theorem fixI_tot (q h : Nat) [NeZero q] (ts : List (List Int)) (d : Nat) (r : Fin q) : totP d h (tabOf q (fixI q h ts d r)) = totP d h (fixT h (tabOf q ts) r) := by
  refine sumT_congr fun i _ => prodT_congr fun j hj => ?_
  have e : tabOf q (fixI q h ts d r) j = fixL h (tabOf q ts j) r := by
    unfold tabOf fixI
    rw [List.getD_eq_getElem?_getD, List.getElem?_map, List.getElem?_range hj]
    simp only [Option.map_some, Option.getD_some]
    rw [els_fvs]
    rfl
  rw [e]; rfl

theorem OwnR.below {w w' : World} {base : Nat} {v : Value} {us : List Value} (h : OwnR w base v us) (hb : Below w.heap.size w w') : OwnR w' base v us := by
  rcases h.2 with h0 | ⟨g, cap, cur, e, h1, hg, h2⟩
  · exact ⟨h.1, .inl h0⟩
  · have hlt : g < w.heap.size := (World.ownsRow.lt h g (by rw [e]; rfl)).2
    exact ⟨h.1, .inr ⟨g, cap, cur, e, h1, (hb.block g hlt).trans hg, h2⟩⟩
theorem Fld.drewR {w : World} {S b p : Nat} [NeZero p] (h : Fld w S b p) : Fld w.drew S b p := ⟨h.prime, h.three, h.max, h.lt, h.le, h.c0, h.c1, h.c2⟩
end Go.Proofs.YtkhkoeibigpdnaaDoor

/- Walks of the reference's sums: Variables, weight, Extend, Fix. -/
set_option linter.unusedVariables false
namespace Go.Proofs.YtkhkoeibigpdnaaDoor
open Go.RowKit Zp

set_option maxHeartbeats 1000000 in
theorem rvars_n (A : Option Addr) (n cap : Nat) (hn : n < 9223372036854775808) (w : World) :
    Calls Tryd.prog 43 #[.slice A n cap] w fun e w' => e = .returned (vi (varsI n)) ∧ w = w' := by
  go_enter Tryd.func43, Tryd.ntmps43
  go_wp2
  go_loop [3, 4] (fun a v => ∃ j N : Nat, j ≤ 13 ∧ N = 2 ^ j ∧ a = vi N ∧ v = vi j ∧ ∀ i, i < j → n ≠ 2 ^ i) (fun _ v => 14 - (intOf v).toNat)
  case atStart => exact ⟨0, 1, by omega, rfl, rfl, rfl, fun i hi => absurd hi (by omega)⟩
  case round =>
    obtain ⟨j, N, hj, hN, rfl, rfl, hno⟩ := hrel
    have HNO := Lib.hid hno
    clear hno
    by_cases hj12 : j ≤ 12
    · have hN2 : N ≤ 4096 := by rw [hN]; exact Nat.pow_le_pow_right (n := 2) (by omega) hj12
      have hN3 : N * 2 = 2 ^ (j + 1) := by rw [hN, Nat.pow_succ]
      have HN3 := Lib.hid hN3
      by_cases he : n = N
      · have hv : varsI n = j := varsI_of ⟨hj12, by rw [he, hN]⟩
        have HV := Lib.hid hv
        have t1 : ((n : Int) == (N : Int)) = true := by rw [he]; simp
        clear hv hN hN3 he
        go_wp2
        go_ret
        exact ⟨ret_int HV.out.symm, rfl⟩
      · have t1 : ((n : Int) == (N : Int)) = false := by rw [beq_eq_false_iff_ne]; omega
        have hno2 : ∀ i, i < j + 1 → n ≠ 2 ^ i := fun i hi => by
          by_cases hij : i = j
          · rw [hij, ← hN]; exact he
          · exact HNO.out i (by omega)
        have HNO2 := Lib.hid hno2
        clear hN hN3 he hno2
        go_wp2
        go_round
        case rel => exact ⟨j + 1, N * 2, by omega, HN3.out, by go_num, by go_num, HNO2.out⟩
        case measure => simp [intOf]; omega
    · have hv : varsI n = -1 := varsI_no (fun ⟨v, hv⟩ => HNO.out v (by have := hv.1; omega) hv.2)
      have HV := Lib.hid hv
      clear hv hN
      go_wp2
      go_ret
      exact ⟨ret_int HV.out.symm, rfl⟩

theorem wtL_drop {p : Nat} [NeZero p] (rs : List (Fin p)) (v c i : Nat) (hl : rs.length = v) (hc : c < v) (hh : v - 1 - c < rs.length) : wtL (rs.drop (v - (c + 1))) i = wtL (rs.drop (v - c)) i * wtE rs[v - 1 - c] c i := by
  have e : v - (c + 1) = v - 1 - c := by omega
  rw [e, List.drop_eq_getElem_cons hh, wtL, show v - 1 - c + 1 = v - c by omega, List.length_drop, show rs.length - (v - c) = c by omega]
def WtRel {p : Nat} [NeZero p] (l : List (Fin p)) (v i : Nat) (x h j : Value) : Prop := ∃ c H : Nat, c ≤ v ∧ H = 2 ^ c ∧ h = vi H ∧ j = vi ((v : Int) - 1 - c) ∧ x = vi (fv (wtL (l.drop (v - c)) i))
set_option maxRecDepth 100000 in
set_option maxHeartbeats 1000000 in
theorem rweight_n (p : Nat) [NeZero p] (hp1 : 2 ≤ p) (hp2 : p ≤ 2147483647) (v : Nat) (hv : v ≤ 12) (i : Nat) (hi : i ≤ 4096) (A : Option Addr) (cap : Nat) (rs : List Int) (hl : rs.length = v) (hrs : ∀ x ∈ rs, I64 x) (w : World) (hs : SL w A rs) :
    Calls Tryd.prog 86 #[vi p, vi v, vi i, .slice A v cap] w fun e w' => e = .returned (vi (fv (wtL (els p rs) i))) ∧ w = w' := by
  obtain ⟨l, hll⟩ : ∃ l, l = els p rs := ⟨_, rfl⟩
  rw [← hll]
  have hlen : l.length = v := by rw [hll]; simp [hl]
  have hco : ∀ k (hk : k < rs.length) (hk' : k < l.length), l[k] = el p rs[k] := fun k hk hk' => by simp [hll]
  have HL := Lib.hid hl
  have HLEN := Lib.hid hlen
  have HCO := Lib.hid hco
  clear hll hl hlen hco
  go_enter Tryd.func86, Tryd.ntmps86
  go_wp2
  go_loop [9, 10, 11, 12] (fun x h j _ => WtRel l v i x h j) (fun _ _ j _ => (intOf j + 1).toNat)
  case atStart => exact ⟨0, 1, Nat.zero_le _, rfl, rfl, by simp, by rw [Nat.sub_zero, List.drop_of_length_le (by rw [HLEN.out]; exact Nat.le_refl _), wtL, fv_one hp1]⟩
  case round =>
    obtain ⟨c, H, hc, hH, rfl, rfl, rfl⟩ := hrel
    by_cases hcv : c < v
    · obtain ⟨J, hJ⟩ : ∃ J : Nat, J = v - 1 - c := ⟨_, rfl⟩
      have eJ : (v : Int) - 1 - c = (J : Int) := by omega
      have hJv : J < v := by omega
      have hJr : J < rs.length := by rw [HL.out]; omega
      have hJl : J < l.length := by rw [HLEN.out]; omega
      obtain ⟨ad, rfl, _, hcell⟩ := hs.at_ hJr
      have hI := hrs _ (List.getElem_mem hJr)
      have hst := wtL_drop l v c i HLEN.out hcv (by rw [HLEN.out]; omega)
      have e1 : l[v - 1 - c]'(by rw [HLEN.out]; omega) = el p rs[J] := by
        rw [← HCO.out J hJr hJl]
        congr 1
        exact hJ.symm
      rw [e1] at hst
      generalize rs[J] = r at hcell hI hst e1
      have hH2 : H ≤ 4096 := by rw [hH]; exact Nat.pow_le_pow_right (n := 2) (by omega) (show c ≤ 12 by omega)
      have hH3 : H * 2 = 2 ^ (c + 1) := by rw [hH, Nat.pow_succ]
      have hH1 : 1 ≤ H := by rw [hH]; exact Nat.pow_pos (by omega)
      obtain ⟨d, hd⟩ : ∃ d, d = i / H := ⟨_, rfl⟩
      obtain ⟨b, hb⟩ : ∃ b, b = d % 2 := ⟨_, rfl⟩
      have hdi : d ≤ i := by rw [hd]; exact Nat.div_le_self _ _
      have q1 : (i : Int).tdiv H = (d : Int) := by rw [Int.tdiv_eq_ediv_of_nonneg (by omega), hd]; omega
      have q2 : (i : Int) / H = (d : Int) := by rw [hd]; omega
      have q3 : (d : Int).tmod 2 = (b : Int) := by rw [Int.tmod_eq_emod_of_nonneg (by omega)]; omega
      have q4 : (d : Int) % 2 = (b : Int) := by omega
      have hwt : wtE (el p r) c i = if b = 0 then 1 - el p r else el p r := by unfold wtE; rw [← hH, ← hd, ← hb]
      rw [hwt] at hst
      have hof := fun W => rof_any p hp2 r hI W
      generalize el p r = R at hst hof hwt e1
      generalize wtL (l.drop (v - c)) i = X at hst
      rw [eJ]
      have eJ1 : (J : Int) - 1 = (v : Int) - 1 - ((c + 1 : Nat) : Int) := by omega
      have HOF := Lib.hid hof
      have HH3 := Lib.hid hH3
      have EJ := Lib.hid eJ1
      clear hof hH3 hH hd hb hwt e1 eJ hJ eJ1
      by_cases hb0 : b = 0
      · rw [if_pos hb0] at hst
        have t1 : ((b : Int) == 0) = true := by rw [hb0]; rfl
        have hsub := fun W => rsub_any p hp2 1 (fv R) (by constructor <;> decide) (i64_fv _ hp2) W
        have hmul := fun W => rmul_any p hp2 (fv X) (fv (1 - R)) (i64_fv _ hp2) (i64_fv _ hp2) W
        simp only [el_fv, el_one] at hsub hmul
        rw [← hst] at hmul
        have HSUB := Lib.hid hsub
        have HMUL := Lib.hid hmul
        clear hsub hmul hst hb0
        go_wp2_with fail
        refine (HOF.out _).mono ?_
        rintro e w' ⟨rfl, rfl⟩
        go_wp2_with fail
        refine (HSUB.out _).mono ?_
        rintro e w' ⟨rfl, rfl⟩
        go_wp2_with fail
        refine (HMUL.out _).mono ?_
        rintro e w' ⟨rfl, rfl⟩
        go_wp2
        go_round
        case rel => exact ⟨c + 1, H * 2, by omega, HH3.out, by go_num, by rw [← EJ.out], rfl⟩
        case measure => simp [intOf]
      · rw [if_neg hb0] at hst
        have t1 : ((b : Int) == 0) = false := by rw [beq_eq_false_iff_ne]; omega
        have hmul := fun W => rmul_any p hp2 (fv X) (fv R) (i64_fv _ hp2) (i64_fv _ hp2) W
        simp only [el_fv] at hmul
        rw [← hst] at hmul
        have HMUL := Lib.hid hmul
        clear hmul hst hb0
        go_wp2_with fail
        refine (HOF.out _).mono ?_
        rintro e w' ⟨rfl, rfl⟩
        go_wp2_with fail
        refine (HMUL.out _).mono ?_
        rintro e w' ⟨rfl, rfl⟩
        go_wp2
        go_round
        case rel => exact ⟨c + 1, H * 2, by omega, HH3.out, by go_num, by rw [← EJ.out], rfl⟩
        case measure => simp [intOf]
    · obtain rfl : c = v := by omega
      rw [Nat.sub_self, List.drop_zero]
      have e1 : (c : Int) - 1 - c = -1 := by omega
      rw [e1]
      clear hH e1
      go_wp2
      go_ret
      exact ⟨rfl, rfl⟩

def ExRel {p : Nat} [NeZero p] (f : Nat → Fin p) (n : Nat) (s i : Value) : Prop := ∃ k : Nat, k ≤ n ∧ i = vi k ∧ s = vi (fv (sumT k f))
set_option maxRecDepth 100000 in
set_option maxHeartbeats 1000000 in
theorem rextend_n (p : Nat) [NeZero p] (hp1 : 2 ≤ p) (hp2 : p ≤ 2147483647) (n v : Nat) (hcu : Cube n v) (A : Option Addr) (cap : Nat) (xs : List Int) (hml : xs.length = n) (hxs : ∀ x ∈ xs, I64 x) (B : Option Addr) (cb : Nat) (rs : List Int) (hrl : rs.length = v) (hrs : ∀ x ∈ rs, I64 x) (w : World) (hs : SL w A xs) (hsr : SL w B rs) :
    Calls Tryd.prog 44 #[vi p, .slice A n cap, .slice B v cb] w fun e w' => e = .returned (vi (fv (co (extL (els p xs) (els p rs)) 0))) ∧ w = w' := by
  have hv := hcu.1
  have hn := hcu.le
  have hval : co (extL (els p xs) (els p rs)) 0 = sumT n (fun i => co (els p xs) i * wtL (els p rs) i) := by
    rw [co_extL (by rw [List.length_map, List.length_map, hml, hrl]; exact hcu.2), extF_sum, List.length_map, hrl, ← hcu.2]
  rw [hval]
  have hwt := fun i hi => rweight_n p hp1 hp2 v hv i hi B cb rs hrl hrs w hsr
  have HML := Lib.hid hml
  have HWT := Lib.hid hwt
  clear hval hml hrl hwt hcu
  go_enter Tryd.func44, Tryd.ntmps44
  go_wp2
  go_loop [7, 8, 9, 10] (fun s i _ _ => ExRel (fun i => co (els p xs) i * wtL (els p rs) i) n s i) (fun _ i _ _ => n - (intOf i).toNat)
  case atStart => exact ⟨0, Nat.zero_le _, rfl, by rw [sumT, fv_zero]⟩
  case round =>
    obtain ⟨k, hk, rfl, rfl⟩ := hrel
    by_cases hkn : k < n
    · have hkx : k < xs.length := by rw [HML.out]; exact hkn
      obtain ⟨ad, rfl, _, hcell⟩ := hs.at_ hkx
      have hI := hxs _ (List.getElem_mem hkx)
      have hst := sumT_succ k (fun i => co (els p xs) i * wtL (els p rs) i)
      have hcx : co (els p xs) k = el p xs[k] := by rw [co_of_lt (by simpa using hkx)]; simp
      simp only [hcx] at hst
      have hw := HWT.out k (by omega)
      generalize xs[k] = x at hcell hI hst hcx
      generalize wtL (els p rs) k = W at hst hw
      have hmul := fun w => rmul_any p hp2 x (fv W) hI (i64_fv _ hp2) w
      simp only [el_fv] at hmul
      generalize el p x * W = Z at hst hmul
      generalize sumT k (fun i => co (els p xs) i * wtL (els p rs) i) = S at hst
      have h1 := fv_nonneg Z
      have h2 := fv_lt Z
      have h3 := fv_nonneg S
      have h4 := fv_lt S
      have hsum := fv_add S Z
      rw [← hst] at hsum
      have HW := Lib.hid hw
      have HMUL := Lib.hid hmul
      have HSUM := Lib.hid hsum
      clear hw hmul hst hsum hcx
      go_wp2_with fail
      refine (HW.out).mono ?_
      rintro e w' ⟨rfl, rfl⟩
      go_wp2_with fail
      refine (HMUL.out _).mono ?_
      rintro e w' ⟨rfl, rfl⟩
      go_wp2
      go_round
      case rel => exact ⟨k + 1, by omega, by go_num, by rw [HSUM.out]⟩
      case measure => simp [intOf]; omega
    · obtain rfl : k = n := by omega
      go_wp2
      go_ret
      exact ⟨rfl, rfl⟩

set_option maxRecDepth 100000 in
set_option maxHeartbeats 1000000 in
theorem rfix_n (p : Nat) [NeZero p] (hp2 : p ≤ 2147483647) (n h : Nat) (hn : n = 2 * h) (hn1 : n ≤ 65536) (A : Option Addr) (cap : Nat) (xs : List Int) (hml : xs.length = n) (hxs : ∀ x ∈ xs, I64 x) (r : Int) (hr : I64 r) (w : World) (hs : SL w A xs) :
    Calls Tryd.prog 46 #[vi p, .slice A n cap, vi r] w fun e w' => Made (fvs (fixL h (els p xs) (el p r))) w e w' := by
  obtain ⟨l, hl⟩ : ∃ l, l = fixL h (els p xs) (el p r) := ⟨_, rfl⟩
  rw [← hl]
  have hll : l.length = h := by rw [hl, fixL_length]
  have hco : ∀ k, k < h → co l k = fixE (co (els p xs) k) (co (els p xs) (k + h)) (el p r) := fun k hk => by rw [hl, co_fixL _ _ hk]
  have hsub := fun W => rsub_any p hp2 1 r (by constructor <;> decide) hr W
  rw [el_one] at hsub
  have t2 : (n : Int).tdiv 2 = (h : Int) := by rw [Int.tdiv_eq_ediv_of_nonneg (by omega)]; omega
  have t3 : (n : Int) / 2 = (h : Int) := by omega
  have HML := Lib.hid hml
  have HLL := Lib.hid hll
  have HCO := Lib.hid hco
  have HSUB := Lib.hid hsub
  have hh2 : 2 * h ≤ n := by omega
  have hh3 : h ≤ n := by omega
  clear hl hml hll hco hsub hn
  go_enter Tryd.func46, Tryd.ntmps46
  go_wp2_with fail
  refine (HSUB.out _).mono ?_
  rintro e w' ⟨rfl, rfl⟩
  go_wp2
  clear t2 t3
  go_loopw [7, 10, 11, 12, 13] (fun v i _ _ _ wr => LaidRel (fvs l) h w v i wr) (fun _ i _ _ _ _ => h - (intOf i).toNat)
  case atStart => exact ⟨0, Nat.zero_le _, rfl, World.ownsRow_nil _ _ _ _, Below.refl _ _⟩
  case round =>
    obtain ⟨k, hk, rfl, hown, hb⟩ := hrel
    by_cases hkh : k < h
    · have hsw := hs.below hb
      have hkx : k < xs.length := by rw [HML.out]; omega
      have hkx2 : k + h < xs.length := by rw [HML.out]; omega
      obtain ⟨ad, rfl, _, hc1⟩ := hsw.at_ hkx
      obtain ⟨ad', he, _, hc2⟩ := hsw.at_ hkx2
      injection he with he
      subst he
      have ix := hxs _ (List.getElem_mem hkx)
      have iy := hxs _ (List.getElem_mem hkx2)
      have hcx : co (els p xs) k = el p xs[k] := by rw [co_of_lt (by simpa using hkx)]; simp
      have hcy : co (els p xs) (k + h) = el p xs[k + h] := by rw [co_of_lt (by simpa using hkx2)]; simp
      have h2 := map_take_succ fv l k (by rw [HLL.out]; exact hkh)
      have h3 : l[k]'(by rw [HLL.out]; exact hkh) = fixE (co (els p xs) k) (co (els p xs) (k + h)) (el p r) := by
        rw [← co_of_lt (by rw [HLL.out]; exact hkh), HCO.out k hkh]
      rw [h3, hcx, hcy, fixE] at h2
      generalize xs[k] = x at hc1 ix h2 hcx
      generalize xs[k + h] = y at hc2 iy h2 hcy
      have hm1 := fun W => rmul_any p hp2 x (fv (1 - el p r)) ix (i64_fv _ hp2) W
      have hm2 := fun W => rmul_any p hp2 y r iy hr W
      have ha := fun W => radd_any p hp2 (fv (el p x * (1 - el p r))) (fv (el p y * el p r)) (i64_fv _ hp2) (i64_fv _ hp2) W
      simp only [el_fv] at hm1 ha
      generalize el p x * (1 - el p r) = P1 at hm1 ha h2
      generalize el p y * el p r = P2 at hm2 ha h2
      generalize P1 + P2 = Z at ha h2
      have hlk : ((fvs l).take k).length < 17592186044416 := by
        have := List.length_take_le k (fvs l); omega
      have i1 : (0 : Int) ≤ k := by omega
      have i2 : (k : Int) < n := by omega
      have i3 : (0 : Int) ≤ (k : Int) + h := by omega
      have i4 : (k : Int) + h < n := by omega
      have i5 : ((k : Int) + h).toNat = k + h := by omega
      have HM1 := Lib.hid hm1
      have HM2 := Lib.hid hm2
      have HA := Lib.hid ha
      have H2 := Lib.hid h2
      have HLK := Lib.hid hlk
      clear hm1 hm2 ha h2 h3 hlk hcx hcy
      go_wp2_with fail
      refine (HM1.out _).mono ?_
      rintro e w' ⟨rfl, rfl⟩
      go_wp2_with fail
      refine (HM2.out _).mono ?_
      rintro e w' ⟨rfl, rfl⟩
      go_wp2_with (first | (go_at_call 88; refine (HA.out _).mono ?_; rintro e w' ⟨rfl, rfl⟩) | (at_builtin; refine wpList_app1 wr (fv Z) rfl _ _ rfl w.heap.size _ _ rfl rfl hown HLK.out hb.size ?_; intro v' w1 hg))
      go_roundw
      case rel => exact ⟨k + 1, by omega, by go_num, by rw [← H2.out]; exact hg.own, hg.below hb hown (Nat.le_refl _) hb.size⟩
      case measure => simp [intOf]; omega
    · obtain rfl : k = h := by omega
      go_wp2
      go_ret
      rw [List.take_of_length_le (by rw [List.length_map, HLL.out]; exact Nat.le_refl _)] at hown
      exact ⟨_, rfl, hown, hb⟩
end Go.Proofs.YtkhkoeibigpdnaaDoor

/- Walks of the reference's sums: Over, Total. -/
set_option linter.unusedVariables false
namespace Go.Proofs.YtkhkoeibigpdnaaDoor
open Go.RowKit Zp

set_option maxRecDepth 100000 in
set_option maxHeartbeats 1000000 in
theorem rtotal_any (p : Nat) [NeZero p] (hp1 : 2 ≤ p) (hp2 : p ≤ 2147483647) (A : Option Addr) (d cap : Nat) (ts : List (List Int)) (hd : ts.length = d) (hd1 : 1 ≤ d) (hd2 : d ≤ 4) (n : Nat) (hn : ∀ t ∈ ts, t.length = n) (w : World) (hs : TB w A ts) :
    Calls Tryd.prog 50 #[vi p, .slice A d cap] w fun e w' => e = .returned (vi (fv (totP d n (tabOf p ts)))) ∧ w = w' := by
  have HD := Lib.hid hd
  obtain ⟨a0, A0, n0, c0, rfl, z1, hc0, hl0, hb0, z2, z3⟩ := hs 0 (by omega)
  have e0 : n0 = n := by rw [← hl0]; exact hn _ (List.getElem_mem _)
  subst e0
  have hc00 : w.cell? a0 = some (.slice A0 n0 c0) := by
    have e : a0.add 0 = a0 := by cases a0; simp [Addr.add]
    rw [← e]; exact hc0
  have e0 : (0 : Int) ≤ (d : Int) := by omega
  have e1 : (0 : Int) < (d : Int) := by omega
  clear z1 z2 z3 hl0 hc0 hd
  go_enter Tryd.func50, Tryd.ntmps50
  go_wp2
  go_loop [5, 6, 7, 8] (fun v i _ _ => ∃ k : Nat, k ≤ n0 ∧ i = vi k ∧ v = vi (fv (sumT k fun i => prodT d fun j => co (tabOf p ts j) i))) (fun _ i _ _ => n0 - (intOf i).toNat)
  case atStart => exact ⟨0, Nat.zero_le _, rfl, by rw [sumT, fv_zero]⟩
  case round =>
    obtain ⟨k, hk, rfl, rfl⟩ := hrel
    by_cases hkn : k < n0
    · obtain ⟨s, hsx⟩ : ∃ s, s = (sumT k fun i => prodT d fun j => co (tabOf p ts j) i) := ⟨_, rfl⟩
      have HSX := Lib.hid hsx
      rw [← hsx]
      clear hsx
      go_wp2
      go_loop [7, 8] (fun v i => ∃ (j : Nat) (X : Fin p) (x : Int), j ≤ d ∧ i = vi j ∧ v = vi x ∧ 0 ≤ x ∧ x < p ∧ x = fv X ∧ X = (prodT j fun j => co (tabOf p ts j) k)) (fun _ i => d - (intOf i).toNat)
      case atStart => exact ⟨0, 1, 1, Nat.zero_le _, rfl, rfl, by omega, by omega, (fv_one hp1).symm, rfl⟩
      case round =>
        obtain ⟨j, X, x, hj, rfl, rfl, hx1, hx2, hxX, hX⟩ := hrel
        have HX := Lib.hid hX
        have HXX := Lib.hid hxX
        clear hX hxX
        by_cases hjd : j < d
        · have hjt : j < ts.length := by rw [HD.out]; exact hjd
          obtain ⟨ad, A1, n1, c1, he, _, hc1, hl1, _, hs1, hi1⟩ := hs j hjt
          injection he with he
          subst he
          have e1 : n1 = n0 := by rw [← hl1]; exact hn _ (List.getElem_mem _)
          subst e1
          have hkx : k < ts[j].length := by rw [hl1]; exact hkn
          obtain ⟨a1, rfl, _, hc2⟩ := hs1.at_ hkx
          have iy := hi1 _ (List.getElem_mem hkx)
          have hy : co (tabOf p ts j) k = el p ts[j][k] := by
            rw [tabOf, co_els, List.getD_eq_getElem?_getD, List.getD_eq_getElem?_getD, List.getElem?_eq_getElem hjt, Option.getD_some, List.getElem?_eq_getElem hkx, Option.getD_some]
          obtain ⟨y, hyy⟩ : ∃ y, y = ts[j][k] := ⟨_, rfl⟩
          rw [← hyy] at hc2 iy hy
          have HY := Lib.hid hy
          have hm := rmul_any p hp2 x y ⟨by omega, by omega⟩ iy w
          have hXe : el p x = X := by rw [HXX.out, el_fv]
          rw [hXe] at hm
          have HM := Lib.hid hm
          clear hy hyy hl1 hm hXe
          go_wp2_with fail
          refine (HM.out).mono ?_
          rintro e w' ⟨rfl, rfl⟩
          go_wp2
          go_round
          case rel => exact ⟨j + 1, _, _, by omega, by go_num, rfl, fv_nonneg _, fv_lt _, rfl, by rw [HX.out, prodT_succ, HY.out]⟩
          case measure => simp [intOf]; omega
        · obtain rfl : j = d := by omega
          have s1 := fv_nonneg s
          have s2 := fv_lt s
          have hsum : fv (s + X) = (fv s + x) % (p : Int) := by rw [HXX.out]; exact fv_add s X
          have HSUM := Lib.hid hsum
          clear hsum
          go_wp2
          go_round
          case rel => exact ⟨k + 1, by omega, by go_num, by rw [sumT_succ, ← HSX.out, ← HX.out, HSUM.out]⟩
          case measure => simp [intOf]; omega
    · obtain rfl : k = n0 := by omega
      go_wp2
      go_ret
      exact ⟨rfl, rfl⟩

theorem rover_d (A : Option Addr) (d c : Nat) (hd : d < 9223372036854775808) (h : d = 0 ∨ 4 < d) (w : World) :
    Calls Tryd.prog 49 #[.slice A d c] w fun e w' => e = .returned (vi (-1)) ∧ w = w' := by
  rcases h with h | h
  · subst h
    go_enter Tryd.func49, Tryd.ntmps49
    go_wp2
    go_ret
    exact ⟨rfl, rfl⟩
  · have t1 : ¬ d = 0 := by omega
    go_enter Tryd.func49, Tryd.ntmps49
    go_wp2
    go_ret
    exact ⟨rfl, rfl⟩
set_option maxHeartbeats 1000000 in
theorem rover_all (A : Option Addr) (d c : Nat) (ts : List (List Int)) (hd : ts.length = d) (hd1 : 1 ≤ d) (hd2 : d ≤ 4) (n : Nat) (hn0 : (ts.getD 0 []).length = n) (R : Int) (hR1 : (∀ j, j < d → (ts.getD j []).length = n) → R = varsI n) (hR2 : (∃ j, j < d ∧ ¬ (ts.getD j []).length = n) → R = -1) (w : World) (hs : TB w A ts) :
    Calls Tryd.prog 49 #[.slice A d c] w fun e w' => e = .returned (vi R) ∧ ∃ k, w' = w.drewN k := by
  have HD := Lib.hid hd
  obtain ⟨a0, A0, n0, c0, rfl, z1, hc0, hl0, hb0, z2, z3⟩ := hs 0 (by omega)
  have e0 : n0 = n := by
    rw [← hl0, ← hn0, List.getD_eq_getElem?_getD, List.getElem?_eq_getElem (by omega), Option.getD_some]
  subst e0
  have hc00 : w.cell? a0 = some (.slice A0 n0 c0) := by
    have e : a0.add 0 = a0 := by cases a0; simp [Addr.add]
    rw [← e]; exact hc0
  have HV := Lib.hid (fun W => rvars_n A0 n0 c0 hb0 W)
  have HR1 := Lib.hid hR1
  have HR2 := Lib.hid hR2
  have e0 : (0 : Int) ≤ (d : Int) := by omega
  have e1 : (0 : Int) < (d : Int) := by omega
  have t1 : ¬ d = 0 := by omega
  have t1b : ((d : Int) == 0) = false := by rw [beq_eq_false_iff_ne]; omega
  have t1c : decide ((4 : Int) < (d : Int)) = false := decide_eq_false (by omega)
  have t1d : d ≤ 4 := hd2
  obtain ⟨V, hV⟩ : ∃ V, V = varsI n0 := ⟨_, rfl⟩
  rw [← hV] at HV HR1
  clear z1 z2 z3 hl0 hc0 hd hn0 hR1 hR2 hV
  go_enter Tryd.func49, Tryd.ntmps49
  go_wp2_with fail
  refine (HV.out _).mono ?_
  rintro e w' ⟨rfl, rfl⟩
  go_wp2
  go_loopw [4] (fun i wr => ∃ k m : Nat, k ≤ d ∧ i = vi k ∧ (∀ j, j < k → (ts.getD j []).length = n0) ∧ wr = w.drewN m) (fun i _ => d - (intOf i).toNat)
  case atStart => exact ⟨0, 0, Nat.zero_le _, rfl, fun j hj => absurd hj (by omega), rfl⟩
  case round =>
    obtain ⟨k, m, hk, rfl, hall, rfl⟩ := hrel
    have HALL := Lib.hid hall
    clear hall
    by_cases hkd : k < d
    · have hkt : k < ts.length := by rw [HD.out]; exact hkd
      obtain ⟨ad, A1, n1, c1, he, _, hc1, hl1, hb1, _, _⟩ := hs k hkt
      injection he with he
      subst he
      have hg : (ts.getD k []).length = n1 := by rw [← hl1, List.getD_eq_getElem?_getD, List.getElem?_eq_getElem hkt, Option.getD_some]
      have HG := Lib.hid hg
      have hc1' : (w.drewN m).cell? (a0.add k) = some (.slice A1 n1 c1) := hc1
      have hc0' : (w.drewN m).cell? a0 = some (.slice A0 n0 c0) := hc00
      clear hg hl1
      by_cases hnn : n1 = n0
      · have t2 : ((n1 : Int) != (n0 : Int)) = false := by rw [hnn]; simp
        have HN := Lib.hid hnn
        clear hnn
        go_wp2
        go_quiet (fail)
        go_wp2
        go_roundw
        case rel => exact ⟨k + 1, _, by omega, by go_num, fun j hj => by
          by_cases hjk : j = k
          · rw [hjk, HG.out]; exact HN.out
          · exact HALL.out j (by omega), rfl⟩
        case measure => simp [intOf]; omega
      · have t2 : ((n1 : Int) != (n0 : Int)) = true := by rw [bne_iff_ne]; omega
        have hR := Lib.hid (HR2.out ⟨k, hkd, by rw [HG.out]; exact hnn⟩)
        clear hnn
        go_wp2
        go_quiet (fail)
        go_wp2
        go_ret
        exact ⟨ret_int hR.out.symm, _, World.drewN_drewN _ _ _⟩
    · obtain rfl : k = d := by omega
      have hR := Lib.hid (HR1.out HALL.out)
      go_wp2
      go_ret
      exact ⟨ret_int hR.out.symm, _, rfl⟩
end Go.Proofs.YtkhkoeibigpdnaaDoor

/- Walks of the reference's sums: Fixed, Round. -/
set_option linter.unusedVariables false
namespace Go.Proofs.YtkhkoeibigpdnaaDoor
open Go.RowKit Zp

/-- rows of one's own are made -/
def MadeRows (ls : List (List Int)) (w : World) (e : Ending) (w' : World) : Prop :=
  ∃ v us, e = .returned v ∧ OwnR w' w.heap.size v us ∧ RowsOwn w' w.heap.size us ls ∧ Below w.heap.size w w'
def FixRel (q h : Nat) [NeZero q] (ts : List (List Int)) (d : Nat) (r : Fin q) (w4 : World) (v i : Value) (wr : World) : Prop :=
  ∃ (k : Nat) (us : List Value), k ≤ d ∧ i = vi k ∧ OwnR wr w4.heap.size v us ∧ RowsOwn wr w4.heap.size us ((fixI q h ts d r).take k) ∧ Below w4.heap.size w4 wr
set_option maxRecDepth 100000 in
set_option maxHeartbeats 1000000 in
theorem rfixed_any (q : Nat) [NeZero q] (hqm : q ≤ 2147483647) (A : Option Addr) (d cap : Nat) (ts : List (List Int)) (hd : ts.length = d) (hd2 : d ≤ 4) (n h : Nat) (hn : ∀ t ∈ ts, t.length = n) (hn2 : n = 2 * h) (hn3 : n ≤ 65536) (r : Int) (hr : I64 r) (w : World) (hs : TB w A ts) :
    Calls Tryd.prog 57 #[vi q, .slice A d cap, vi r] w fun e w' => MadeRows (fixI q h ts d (el q r)) w e w' := by
  have HD := Lib.hid hd
  have HN2 := Lib.hid hn2
  have HN := Lib.hid hn
  clear hd hn2 hn
  go_enter Tryd.func57, Tryd.ntmps57
  go_wp2
  go_loopw [7, 8, 9] (fun v i _ wr => FixRel q h ts d (el q r) w v i wr) (fun _ i _ _ => d - (intOf i).toNat)
  case atStart => exact ⟨0, [], Nat.zero_le _, rfl, World.ownsRow_nil _ _ _ _, RowsOwn.nil _ _, Below.refl _ _⟩
  case round =>
    obtain ⟨k, us, hk, rfl, hown, hrows, hb⟩ := hrel
    by_cases hkd : k < d
    · have hkt : k < ts.length := by rw [HD.out]; exact hkd
      obtain ⟨ad, A1, n1, c1, hA, hl, hc, hl1, h63, hs1, hi1⟩ := (hs.below hb) k hkt
      have hnn : n1 = n := by rw [← hl1]; exact HN.out _ (List.getElem_mem hkt)
      have hn16 : n1 ≤ 65536 := by omega
      have hfx := fun (W : World) (hW : SL W A1 ts[k]) => rfix_n q hqm n1 h (by rw [hnn]; exact HN2.out) hn16 A1 c1 ts[k] hl1 hi1 r hr W hW
      have htk : els q ts[k] = tabOf q ts k := by unfold tabOf; rw [List.getD_eq_getElem?_getD, List.getElem?_eq_getElem hkt]; rfl
      rw [htk] at hfx
      have hst := fixI_take q h ts d (el q r) k hkd
      have hlen := hrows.1
      rw [List.length_take, fixI_length] at hlen
      have hus : us.length = k := by omega
      have HFX := Lib.hid hfx
      have HST := Lib.hid hst
      have HUS := Lib.hid hus
      subst hA
      have i1 : (0 : Int) ≤ (k : Int) := by omega
      have i2 : (k : Int) < d := by omega
      clear hfx hst hlen hus htk hnn hl1
      go_wp2_with fail
      refine (HFX.out _ hs1).mono ?_
      rintro e w5 ⟨v5, rfl, hown5, hb5⟩
      obtain ⟨A5, n5, c5, rfl, hl5, hc5, _, _⟩ := hown5.shapeN
      have hb45 := hb.trans (hb5.mono hb.size)
      have hownR5 := OwnR.below hown hb5
      have hrows5 := (hrows.below hb5).snoc (Own.more hown5 hb.size)
      rw [HST.out] at hrows5
      have hsz := hb45.size
      clear hown hrows hown5 hl5 hc5
      go_wp2_with (at_builtin; refine wpList_appR w5 A5 n5 c5 rfl _ _ rfl w.heap.size _ us rfl rfl hownR5 (by rw [HUS.out]; omega) hsz ?_; intro v' w6 hg)
      go_roundw
      case rel => exact ⟨k + 1, us ++ [.slice A5 n5 c5], by omega, by go_num, hg.own, hg.rows hownR5 hrows5, hg.below hb45 hownR5 (Nat.le_refl _) hsz⟩
      case measure => simp [intOf]; omega
    · obtain rfl : k = d := by omega
      rw [List.take_of_length_le (by rw [fixI_length]; exact Nat.le_refl _)] at hrows
      go_wp2
      go_ret
      exact ⟨_, us, rfl, hown, hrows, hb⟩
theorem fixI_len (q h : Nat) [NeZero q] (ts : List (List Int)) (d : Nat) (r : Fin q) : ∀ t ∈ fixI q h ts d r, t.length = h := fun l hl => by
  obtain ⟨j, _, rfl⟩ := List.mem_map.1 hl
  rw [List.length_map, fixL_length]
/-- the values of a round's polynomial at 0 .. d -/
def roundL (q h : Nat) [NeZero q] (ts : List (List Int)) (d : Nat) : List (Fin q) := (List.range (d + 1)).map fun (i : Nat) => totP d h (fixT h (tabOf q ts) (el q (i : Int)))
theorem roundL_length (q h : Nat) [NeZero q] (ts : List (List Int)) (d : Nat) : (roundL q h ts d).length = d + 1 := by simp [roundL]
theorem roundL_take (q h : Nat) [NeZero q] (ts : List (List Int)) (d k : Nat) (hk : k < d + 1) : (fvs (roundL q h ts d)).take k ++ [fv (totP d h (fixT h (tabOf q ts) (el q (k : Int))))] = (fvs (roundL q h ts d)).take (k + 1) := by
  rw [List.take_succ_eq_append_getElem (by rw [List.length_map, roundL_length]; exact hk)]; simp [roundL]
set_option maxRecDepth 100000 in
set_option maxHeartbeats 1000000 in
theorem rround_any (q : Nat) [NeZero q] (hq2 : 2 ≤ q) (hqm : q ≤ 2147483647) (A : Option Addr) (d cap : Nat) (ts : List (List Int)) (hd : ts.length = d) (hd1 : 1 ≤ d) (hd2 : d ≤ 4) (n h : Nat) (hn : ∀ t ∈ ts, t.length = n) (hn2 : n = 2 * h) (hn3 : n ≤ 65536) (w : World) (hs : TB w A ts) :
    Calls Tryd.prog 52 #[vi q, .slice A d cap] w fun e w' => Made (fvs (roundL q h ts d)) w e w' := by
  have HF := Lib.hid (fun r (hr : I64 r) W (hW : TB W A ts) => rfixed_any q hqm A d cap ts hd hd2 n h hn hn2 hn3 r hr W hW)
  have HTT := Lib.hid (fun r A2 c2 W (hW : TB W A2 (fixI q h ts d r)) => rtotal_any q hq2 hqm A2 d c2 (fixI q h ts d r) (fixI_length _ _ _ _ _) hd1 hd2 h (fixI_len _ _ _ _ _) W hW)
  have HRL := Lib.hid (roundL_length q h ts d)
  have HTK := Lib.hid (roundL_take q h ts d)
  have HII := Lib.hid (fun r => fixI_i64 q h hqm ts d r)
  have HIL := Lib.hid (fun r => fixI_length q h ts d r)
  have HTO := Lib.hid (fun r => fixI_tot q h ts d r)
  have HLL := Lib.hid (show (fvs (roundL q h ts d)).length = d + 1 by rw [List.length_map, roundL_length])
  generalize fvs (roundL q h ts d) = L at HTK HLL ⊢
  clear hd hn hn2
  go_enter Tryd.func52, Tryd.ntmps52
  go_wp2
  go_loopw [5, 6, 7, 8] (fun v i _ _ wr => ∃ k : Nat, k ≤ d + 1 ∧ i = vi k ∧ Own wr w.heap.size v (L.take k) ∧ Below w.heap.size w wr) (fun _ i _ _ _ => d + 1 - (intOf i).toNat)
  case atStart => exact ⟨0, Nat.zero_le _, rfl, World.ownsRow_nil _ _ _ _, Below.refl _ _⟩
  case round =>
    obtain ⟨k, hk, rfl, hown, hb⟩ := hrel
    by_cases hkd : k ≤ d
    · have hf := fun W (hW : TB W A ts) => HF.out (k : Int) ⟨by omega, by omega⟩ W hW
      have HFK := Lib.hid hf
      have htb := hs.below hb
      have hlk : (L.take k).length < 17592186044416 := by have := List.length_take_le k L; omega
      have h2 := HTK.out k (by omega)
      have HLK := Lib.hid hlk
      have H2 := Lib.hid h2
      clear hf hlk h2
      go_wp2_with fail
      refine (HFK.out _ htb).mono ?_
      rintro e w2 ⟨v2, us, rfl, hownR, hrows, hb2⟩
      obtain ⟨A6, n6, c6, rfl, hl6, _⟩ := ownR_shape hownR
      have hl6' := hrows.1
      rw [HIL.out, hl6] at hl6'
      have htb2 := tb_own hownR hrows (HII.out _)
      have hown2 := hown.below hb2
      have hbw2 := hb.trans (hb2.mono hb.size)
      subst hl6'
      clear hownR hrows htb hown hb2 hl6
      have htt := HTT.out _ A6 c6 _ htb2
      rw [HTO.out] at htt
      have HT2 := Lib.hid htt
      clear htt
      go_wp2_with fail
      refine (HT2.out).mono ?_
      rintro e w' ⟨rfl, rfl⟩
      go_wp2_with (at_builtin; refine wpList_app1 _ _ rfl _ _ rfl w.heap.size _ _ rfl rfl hown2 HLK.out hbw2.size ?_; intro v' w3 hg)
      go_roundw
      case rel => exact ⟨k + 1, by omega, by go_num, by rw [← H2.out]; exact hg.own, hg.below hbw2 hown2 (Nat.le_refl _) hbw2.size⟩
      case measure => simp [intOf]; omega
    · obtain rfl : k = d + 1 := by omega
      rw [List.take_of_length_le (by rw [HLL.out]; exact Nat.le_refl _)] at hown
      go_wp2
      go_ret
      exact ⟨_, rfl, hown, hb⟩
end Go.Proofs.YtkhkoeibigpdnaaDoor

/- Walks: sums.all, sums.round. -/
set_option linter.unusedVariables false
namespace Go.Proofs.YtkhkoeibigpdnaaDoor
open Go.RowKit Zp

/-- n rows of nothing, behind a name -/
def blanks (n : Nat) : Array Value := madeCells #[.slice none 0 0] n
theorem blanks_size (n : Nat) : (blanks n).size = n := size_madeCells _ _
theorem make_rows0 (c : Nat) (hc : c ≤ 65536) (w : World) :
    (Instr.makeSlice 72 (.int .i64 0) (vi c)).run Tryd.prog w = .ok (.slice (some ⟨w.heap.size, 0, none⟩) 0 c) (w.alloc (.cells (blanks c) 22)) := by
  obtain ⟨i0, hi, hz0, hz1, hz2⟩ := info_parts info_ints
  have h := run_make (P := Tryd.prog) w 72 22 i0 (.slice none 0 0) Tryd.underlying72 hi hz0 .i64 .i64 (0 : Nat) c (by omega) (by omega) (by rw [hz2]; omega) (by omega)
  rw [hz1, Int.toNat_natCast, Int.toNat_natCast, Nat.mul_one] at h
  exact h
set_option maxRecDepth 100000 in
set_option maxHeartbeats 1000000 in
theorem all_any (q S b : Nat) [NeZero q] (A : Option Addr) (d cap : Nat) (ts : List (List Int)) (hd : ts.length = d) (hd2 : d ≤ 4) (n h : Nat) (hn : ∀ t ∈ ts, t.length = n) (hn2 : n = 2 * h) (hn3 : n ≤ 65536) (r : Int) (hr : I64 r) (w : World) (F : Fld w S b q) (hs : TB w A ts) :
    Calls Tryd.prog 97 #[.pointer (some ⟨b, 0, none⟩), .slice A d cap, vi r] w fun e w' => MadeRows (fixI q h ts d (el q r)) w e w' := by
  have HD := Lib.hid hd
  have HN2 := Lib.hid hn2
  have HN := Lib.hid hn
  have hmk := make_rows0 d (by omega)
  have hb0 : Below w.heap.size w (w.alloc (.cells (blanks d) 22)) := (Below.refl _ _).alloc (Nat.le_refl _) _
  have ho0 : OwnR (w.alloc (.cells (blanks d) 22)) w.heap.size (.slice (some ⟨w.heap.size, 0, none⟩) 0 d) [] :=
    World.ownsRow_made w _ d (Nat.le_refl _) (by simp only [maxLen]; omega) (by rw [blanks_size, Nat.mul_one])
  have hr0 : RowsOwn (w.alloc (.cells (blanks d) 22)) w.heap.size [] [] := RowsOwn.nil _ _
  clear hd hn2 hn
  go_enter Tryd.func97, Tryd.ntmps97
  go_wp2
  go_loopw [7, 9, 15] (fun v _ i wr => FixRel q h ts d (el q r) w v i wr) (fun _ _ i _ => d - (intOf i).toNat)
  case atStart => exact ⟨0, [], Nat.zero_le _, rfl, ho0, hr0, hb0⟩
  case round =>
    obtain ⟨k, us, hk, rfl, hown, hrows, hb⟩ := hrel
    by_cases hkd : k < d
    · have hkt : k < ts.length := by rw [HD.out]; exact hkd
      obtain ⟨ad, A1, n1, c1, hA, hl, hc, hl1, h63, hs1, hi1⟩ := (hs.below hb) k hkt
      have hnn : n1 = n := by rw [← hl1]; exact HN.out _ (List.getElem_mem hkt)
      have FR := F.below hb F.le
      have hn16 : n1 ≤ 65536 := by omega
      have hfx := fun (W : World) (FW : Fld W S b q) (hW : SL W A1 ts[k]) => fixed_any q S b n1 h (.inl (by rw [hnn]; exact HN2.out)) hn16 A1 c1 ts[k] hl1 hi1 r hr W FW hW
      have htk : els q ts[k] = tabOf q ts k := by unfold tabOf; rw [List.getD_eq_getElem?_getD, List.getElem?_eq_getElem hkt]; rfl
      rw [htk] at hfx
      have hst := fixI_take q h ts d (el q r) k hkd
      have hlen := hrows.1
      rw [List.length_take, fixI_length] at hlen
      have hus : us.length = k := by omega
      have HFX := Lib.hid hfx
      have HST := Lib.hid hst
      have HUS := Lib.hid hus
      subst hA
      have i1 : (0 : Int) ≤ (k : Int) := by omega
      have i2 : (k : Int) < d := by omega
      clear hfx hst hlen hus htk hnn hl1
      go_wp2_with fail
      refine (HFX.out _ FR hs1).mono ?_
      rintro e w5 ⟨v5, rfl, hown5, hb5⟩
      obtain ⟨A5, n5, c5, rfl, hl5, hc5, _, _⟩ := hown5.shapeN
      have hb45 := hb.trans (hb5.mono hb.size)
      have hownR5 := OwnR.below hown hb5
      have hrows5 := (hrows.below hb5).snoc (Own.more hown5 hb.size)
      rw [HST.out] at hrows5
      have hsz := hb45.size
      clear hown hrows hown5 hl5 hc5
      go_wp2_with (at_builtin; refine wpList_appR w5 A5 n5 c5 rfl _ _ rfl w.heap.size _ us rfl rfl hownR5 (by rw [HUS.out]; omega) hsz ?_; intro v' w6 hg)
      go_roundw
      case rel => exact ⟨k + 1, us ++ [.slice A5 n5 c5], by omega, by go_num, hg.own, hg.rows hownR5 hrows5, hg.below hb45 hownR5 (Nat.le_refl _) hsz⟩
      case measure => simp [intOf]; omega
    · obtain rfl : k = d := by omega
      rw [List.take_of_length_le (by rw [fixI_length]; exact Nat.le_refl _)] at hrows
      go_wp2
      go_ret
      exact ⟨_, us, rfl, hown, hrows, hb⟩
set_option maxRecDepth 100000 in
set_option maxHeartbeats 1000000 in
theorem round_sum (q S b : Nat) [NeZero q] (A : Option Addr) (d cap : Nat) (ts : List (List Int)) (hd : ts.length = d) (hd1 : 1 ≤ d) (hd2 : d ≤ 4) (n h : Nat) (hn : ∀ t ∈ ts, t.length = n) (hn2 : n = 2 * h) (hn3 : n ≤ 65536) (w : World) (F : Fld w S b q) (hs : TB w A ts) :
    Calls Tryd.prog 91 #[.pointer (some ⟨b, 0, none⟩), .slice A d cap] w fun e w' => Made (fvs (roundL q h ts d)) w e w' := by
  have hq2 := F.two
  have hqm := F.max
  have HF := Lib.hid (fun r (hr : I64 r) W (FW : Fld W S b q) (hW : TB W A ts) => all_any q S b A d cap ts hd hd2 n h hn hn2 hn3 r hr W FW hW)
  have HTT := Lib.hid (fun r A2 c2 W (hcW : W.cell? ⟨b, 0, none⟩ = some (vi q)) (hW : TB W A2 (fixI q h ts d r)) => total_any q b hq2 hqm A2 d c2 (fixI q h ts d r) (fixI_length _ _ _ _ _) hd1 hd2 h (fixI_len _ _ _ _ _) W hcW hW)
  have HTK := Lib.hid (roundL_take q h ts d)
  have HII := Lib.hid (fun r => fixI_i64 q h hqm ts d r)
  have HIL := Lib.hid (fun r => fixI_length q h ts d r)
  have HTO := Lib.hid (fun r => fixI_tot q h ts d r)
  have HLL := Lib.hid (show (fvs (roundL q h ts d)).length = d + 1 by rw [List.length_map, roundL_length])
  generalize fvs (roundL q h ts d) = L at HTK HLL ⊢
  have hmk := make_ints0 (d + 1) (by omega)
  rw [show (((d + 1 : Nat)) : Int) = (d : Int) + 1 from rfl] at hmk
  have hb0 : Below w.heap.size w (w.alloc (.cells (zeros (d + 1)) 3)) := (Below.refl _ _).alloc (Nat.le_refl _) _
  have ho0 := own_made0 w w.heap.size (d + 1) (Nat.le_refl _) (by omega)
  clear hd hn hn2
  go_enter Tryd.func91, Tryd.ntmps91
  go_wp2
  go_loopw [5, 6, 14] (fun v _ i wr => ∃ k : Nat, k ≤ d + 1 ∧ i = vi k ∧ Own wr w.heap.size v (L.take k) ∧ Below w.heap.size w wr) (fun _ _ i _ => d + 1 - (intOf i).toNat)
  case atStart => exact ⟨0, Nat.zero_le _, rfl, ho0, hb0⟩
  case round =>
    obtain ⟨k, hk, rfl, hown, hb⟩ := hrel
    by_cases hkd : k ≤ d
    · have hf := fun W (FW : Fld W S b q) (hW : TB W A ts) => HF.out (k : Int) ⟨by omega, by omega⟩ W FW hW
      have HFK := Lib.hid hf
      have htb := hs.below hb
      have FR := F.below hb F.le
      have hlk : (L.take k).length < 17592186044416 := by have := List.length_take_le k L; omega
      have h2 := HTK.out k (by omega)
      have HLK := Lib.hid hlk
      have H2 := Lib.hid h2
      clear hf hlk h2
      go_wp2_with fail
      refine (HFK.out _ FR htb).mono ?_
      rintro e w2 ⟨v2, us, rfl, hownR, hrows, hb2⟩
      obtain ⟨A6, n6, c6, rfl, hl6, _⟩ := ownR_shape hownR
      have hl6' := hrows.1
      rw [HIL.out, hl6] at hl6'
      have htb2 := tb_own hownR hrows (HII.out _)
      have hown2 := hown.below hb2
      have hbw2 := hb.trans (hb2.mono hb.size)
      have FR2 := FR.below hb2 FR.le
      subst hl6'
      clear hownR hrows htb hown hb2 hl6
      have htt := HTT.out _ A6 c6 _ FR2.c0 htb2
      rw [HTO.out] at htt
      have HT2 := Lib.hid htt
      clear htt
      go_wp2_with fail
      refine (HT2.out).mono ?_
      rintro e w3 ⟨rfl, m3, rfl⟩
      have hown3 := hown2.drewN m3
      have hbw3 := below_drewN hbw2 m3
      go_wp2_with (at_builtin; refine wpList_app1 _ _ rfl _ _ rfl w.heap.size _ _ rfl rfl hown3 HLK.out hbw3.size ?_; intro v' w4 hg)
      go_roundw
      case rel => exact ⟨k + 1, by omega, by go_num, by rw [← H2.out]; exact hg.own, hg.below hbw3 hown3 (Nat.le_refl _) hbw3.size⟩
      case measure => simp [intOf]; omega
    · obtain rfl : k = d + 1 := by omega
      rw [List.take_of_length_le (by rw [HLL.out]; exact Nat.le_refl _)] at hown
      go_wp2
      go_ret
      exact ⟨_, rfl, hown, hb⟩
abbrev NoRow (k : Int) : Ending := .returned (.tuple #[.slice none 0 0, .iface 107 (.int .i64 k)])
theorem Round_d (b : Nat) (A : Option Addr) (d c : Nat) (hd : d < 9223372036854775808) (h : d = 0 ∨ 4 < d) (w : World) :
    Calls Tryd.prog 51 #[.pointer (some ⟨b, 0, none⟩), .slice A d c] w fun e w' => e = NoRow 2 ∧ w = w' := by
  have hck := Lib.hid (checked_d A d c hd h w)
  clear h
  go_enter Tryd.func51, Tryd.ntmps51
  go_wp2_with fail
  refine (hck.out).mono ?_
  rintro e w' ⟨rfl, rfl⟩
  go_wp2
  go_ret2
  exact ⟨rfl, rfl⟩

theorem Round_no (b : Nat) (A : Option Addr) (d c : Nat) (ts : List (List Int)) (hd : ts.length = d) (hd1 : 1 ≤ d) (hd2 : d ≤ 4) (hv : ¬ ∃ v, Over ts v) (w : World) (hs : TB w A ts) :
    Calls Tryd.prog 51 #[.pointer (some ⟨b, 0, none⟩), .slice A d c] w fun e w' => e = NoRow 2 ∧ Below w.heap.size w w' := by
  have hck := Lib.hid (checked_no A d c ts hd hd1 hd2 hv w hs)
  clear hv hd
  go_enter Tryd.func51, Tryd.ntmps51
  go_wp2_with fail
  refine (hck.out).mono ?_
  rintro e w' ⟨rfl, hb⟩
  go_wp2
  go_ret2
  exact ⟨rfl, hb⟩

theorem Round_zero (b : Nat) (A : Option Addr) (d c : Nat) (ts : List (List Int)) (hd : ts.length = d) (hd1 : 1 ≤ d) (hd2 : d ≤ 4) (hv : Over ts 0) (w : World) (hs : TB w A ts) :
    Calls Tryd.prog 51 #[.pointer (some ⟨b, 0, none⟩), .slice A d c] w fun e w' => e = NoRow 2 ∧ Below w.heap.size w w' := by
  have hck := checked_yes A d c ts hd hd1 hd2 0 hv w hs
  have e0 : ((0 : Nat) : Int) = 0 := rfl
  rw [e0] at hck
  have HCK := Lib.hid hck
  clear hv hd hck e0
  go_enter Tryd.func51, Tryd.ntmps51
  go_wp2_with fail
  refine (HCK.out).mono ?_
  rintro e w' ⟨rfl, hb⟩
  go_wp2
  go_ret2
  exact ⟨rfl, hb⟩
theorem Round_big (q S b : Nat) [NeZero q] (A : Option Addr) (d c : Nat) (ts : List (List Int)) (hd : ts.length = d) (hd1 : 1 ≤ d) (hd2 : d ≤ 4) (v : Nat) (hv1 : 1 ≤ v) (hv : Over ts v) (hqd : q ≤ d) (w : World) (F : Fld w S b q) (hs : TB w A ts) :
    Calls Tryd.prog 51 #[.pointer (some ⟨b, 0, none⟩), .slice A d c] w fun e w' => e = NoRow 3 ∧ Below w.heap.size w w' := by
  have hck := Lib.hid (checked_yes A d c ts hd hd1 hd2 v hv w hs)
  have t1 : ((v : Int) == 0) = false := by rw [beq_eq_false_iff_ne]; omega
  clear hv hd
  go_enter Tryd.func51, Tryd.ntmps51
  go_wp2_with fail
  refine (hck.out).mono ?_
  rintro e w1 ⟨rfl, hb⟩
  have F1 := F.below hb F.le
  go_wp2_with fail
  refine (p_any q b _ F1.c0).mono ?_
  rintro e w' ⟨rfl, rfl⟩
  go_wp2
  go_ret2
  exact ⟨rfl, hb⟩
def MadeR (xs : List Int) (w : World) (e : Ending) (w' : World) : Prop := ∃ v, e = .returned (.tuple #[v, .nilIface]) ∧ Own w' w.heap.size v xs ∧ Below w.heap.size w w'
theorem Round_any (q S b : Nat) [NeZero q] (A : Option Addr) (d c : Nat) (ts : List (List Int)) (hd : ts.length = d) (hd1 : 1 ≤ d) (hd2 : d ≤ 4) (u : Nat) (hv : Over ts (u + 1)) (hqd : d < q) (w : World) (F : Fld w S b q) (hs : TB w A ts) :
    Calls Tryd.prog 51 #[.pointer (some ⟨b, 0, none⟩), .slice A d c] w fun e w' => MadeR (fvs (roundL q (2 ^ u) ts d)) w e w' := by
  have hck := Lib.hid (checked_yes A d c ts hd hd1 hd2 (u + 1) hv w hs)
  obtain ⟨v, hvu⟩ : ∃ v, v = u + 1 := ⟨_, rfl⟩
  have t1 : ((v : Int) == 0) = false := by rw [beq_eq_false_iff_ne]; omega
  have t2 : ¬ q ≤ d := by omega
  have hn3 : 2 ^ (u + 1) ≤ 65536 := by
    have h0 := (hv _ (List.getElem_mem (show 0 < ts.length by omega))).1
    exact Nat.le_trans (Nat.pow_le_pow_right (n := 2) (by omega) h0) (by decide)
  have HRS := Lib.hid (fun W FW hW => round_sum q S b A d c ts hd hd1 hd2 (2 ^ (u + 1)) (2 ^ u) (fun t ht => (hv t ht).2) (by rw [Nat.pow_succ]; omega) hn3 W FW hW)
  rw [← hvu] at hck
  generalize fvs (roundL q (2 ^ u) ts d) = L at HRS ⊢
  clear hv hd hvu hn3
  go_enter Tryd.func51, Tryd.ntmps51
  go_wp2_with fail
  refine (hck.out).mono ?_
  rintro e w1 ⟨rfl, hb⟩
  have F1 := F.below hb F.le
  have hs1 := hs.below hb
  go_wp2_with fail
  refine (p_any q b _ F1.c0).mono ?_
  rintro e w' ⟨rfl, rfl⟩
  go_wp2_with fail
  refine (HRS.out _ F1 hs1).mono ?_
  rintro e w2 ⟨v2, rfl, hown, hb2⟩
  go_wp2
  go_ret2
  exact ⟨v2, rfl, hown.more hb.size, hb.trans (hb2.mono hb.size)⟩
end Go.Proofs.YtkhkoeibigpdnaaDoor

/- Walk: same.Copied. -/
set_option linter.unusedVariables false
namespace Go.Proofs.YtkhkoeibigpdnaaDoor
open Go.RowKit Zp

set_option maxRecDepth 100000 in
set_option maxHeartbeats 1000000 in
theorem copied_any (A : Option Addr) (d cap : Nat) (ts : List (List Int)) (hd : ts.length = d) (hd2 : d ≤ 5864062014805) (hlen : ∀ t ∈ ts, t.length ≤ 17592186044416) (w : World) (hs : TB w A ts) :
    Calls Tryd.prog 47 #[.slice A d cap] w fun e w' => MadeRows ts w e w' := by
  have HD := Lib.hid hd
  have HLN := Lib.hid hlen
  clear hd hlen
  go_enter Tryd.func47, Tryd.ntmps47
  go_wp2
  go_loopw [3, 4, 5] (fun v i _ wr => ∃ (k : Nat) (us : List Value), k ≤ d ∧ i = vi k ∧ OwnR wr w.heap.size v us ∧ RowsOwn wr w.heap.size us (ts.take k) ∧ Below w.heap.size w wr) (fun _ i _ _ => d - (intOf i).toNat)
  case atStart => exact ⟨0, [], Nat.zero_le _, rfl, World.ownsRow_nil _ _ _ _, RowsOwn.nil _ _, Below.refl _ _⟩
  case round =>
    obtain ⟨k, us, hk, rfl, hown, hrows, hb⟩ := hrel
    by_cases hkd : k < d
    · have hkt : k < ts.length := by rw [HD.out]; exact hkd
      obtain ⟨ad, A1, n1, c1, hA, hl, hc, hl1, h63, hs1, hi1⟩ := (hs.below hb) k hkt
      have hn1 : n1 ≤ 17592186044416 := by rw [← hl1]; exact HLN.out _ (List.getElem_mem hkt)
      have hst : ts.take k ++ [ts[k]] = ts.take (k + 1) := (List.take_succ_eq_append_getElem hkt).symm
      have hlenr := hrows.1
      rw [List.length_take] at hlenr
      have hus : us.length = k := by omega
      generalize ts[k] = row at hl1 hs1 hi1 hst
      have HST := Lib.hid hst
      have HUS := Lib.hid hus
      have HL1 := Lib.hid hl1
      subst hA
      have i1 : (0 : Int) ≤ (k : Int) := by omega
      have i2 : (k : Int) < d := by omega
      have hbe : Below wr.heap.size wr (wr.alloc (.cells #[] 3)) := (Below.refl _ _).alloc (Nat.le_refl _) _
      have ho := own_empty wr wr.heap.size (Nat.le_refl _)
      have hs1' := hs1.below hbe
      have hce : (wr.alloc (.cells #[] 3)).cell? (ad.add k) = some (.slice A1 n1 c1) := (hbe.cell hl).trans hc
      clear hst hlenr hus hl1
      go_wp2_with (at_builtin; first
        | (refine wpList_appA _ rfl _ _ rfl wr.heap.size _ [] A1 n1 c1 row rfl rfl HL1.out ho hs1' (by simpa using hn1) (by simp) ?_; intro v5 w5 hg5; have hown5 := hg5.own; have hb5 := hg5.below hbe ho (Nat.le_refl _) hbe.size; rw [List.nil_append] at hown5; clear hg5; obtain ⟨A5, n5, c5, rfl, hl5, hc5, _, _⟩ := hown5.shapeN; have hb45 := hb.trans (hb5.mono hb.size); have hownR5 := OwnR.below hown hb5; have hrows5 := (hrows.below hb5).snoc (Own.more hown5 hb.size); rw [HST.out] at hrows5; have hsz := hb45.size)
        | (refine wpList_appR w5 A5 n5 c5 rfl _ _ rfl w.heap.size _ us rfl rfl hownR5 (by rw [HUS.out]; omega) hsz ?_; intro v' w6 hg))
      go_roundw
      case rel => exact ⟨k + 1, us ++ [.slice A5 n5 c5], by omega, by go_num, hg.own, hg.rows hownR5 hrows5, hg.below hb45 hownR5 (Nat.le_refl _) hsz⟩
      case measure => simp [intOf]; omega
    · obtain rfl : k = d := by omega
      rw [List.take_of_length_le (by rw [HD.out]; exact Nat.le_refl _)] at hrows
      go_wp2
      go_ret
      exact ⟨_, us, rfl, hown, hrows, hb⟩
end Go.Proofs.YtkhkoeibigpdnaaDoor

/- Walk: same.Rows of equal rows. -/
set_option linter.unusedVariables false
namespace Go.Proofs.YtkhkoeibigpdnaaDoor
open Go.RowKit Zp

set_option maxHeartbeats 1000000 in
theorem rows_same (A B : Option Addr) (d c c2 : Nat) (ts : List (List Int)) (hd : ts.length = d) (hd63 : d < 9223372036854775808) (w : World) (hA : TB w A ts) (hB : TB w B ts) :
    Calls Tryd.prog 53 #[.slice A d c, .slice B d c2] w fun e w' => e = .returned (.bool true) ∧ ∃ k, w' = w.drewN k := by
  have HD := Lib.hid hd
  have t0 : ((d : Int) != (d : Int)) = false := by simp
  clear hd
  by_cases h0 : d = 0
  · subst h0
    go_enter Tryd.func53, Tryd.ntmps53
    go_wp2
    go_loopw [5] (fun i wr => i = vi 0 ∧ wr = w) (fun i _ => 0)
    case atStart => exact ⟨rfl, rfl⟩
    case round =>
      obtain ⟨rfl, rfl⟩ := hrel
      go_wp2
      go_ret
      exact ⟨rfl, 0, rfl⟩
  · obtain ⟨a0, _, _, _, rfl, _⟩ := hA 0 (by have := HD.out; omega)
    obtain ⟨b0, _, _, _, rfl, _⟩ := hB 0 (by have := HD.out; omega)
    have t5 : 0 < d := by omega
    have t6 : ((d : Int) == 0) = false := by rw [beq_eq_false_iff_ne]; omega
    go_enter Tryd.func53, Tryd.ntmps53
    go_wp2
    go_loopw [5, 6] (fun i _ wr => ∃ k m : Nat, k ≤ d ∧ i = vi k ∧ wr = w.drewN m) (fun i _ _ => d - (intOf i).toNat)
    case atStart => exact ⟨0, 0, Nat.zero_le _, rfl, rfl⟩
    case round =>
      obtain ⟨k, m, hk, rfl, rfl⟩ := hrel
      by_cases hkd : k < d
      · have hkt : k < ts.length := by rw [HD.out]; exact hkd
        obtain ⟨ad, A1, n1, c1, he, _, hc1, hl1, h63, hs1, _⟩ := hA k hkt
        injection he with he
        subst he
        obtain ⟨bd, B1, m1, c3, he, _, hc3, hl3, _, hs3, _⟩ := hB k hkt
        injection he with he
        subst he
        have hc1' : (w.drewN m).cell? (a0.add k) = some (.slice A1 n1 c1) := hc1
        have hc3' : (w.drewN m).cell? (b0.add k) = some (.slice B1 m1 c3) := hc3
        have HI := Lib.hid (fun (W : World) (h1 : SL W A1 ts[k]) (h3 : SL W B1 ts[k]) => ints_sameH A1 B1 n1 c1 m1 c3 ts[k] ts[k] hl1 hl3 rfl (by omega) W h1 h3)
        have i1 : (0 : Int) ≤ (k : Int) := by omega
        have i2 : (k : Int) < d := by omega
        clear hl1 hl3
        go_wp2
        go_quiet ((go_at_call 21; exact quiet_of2 (HI.out _ (by exact hs1) (by exact hs3))))
        go_wp2
        go_roundw
        case rel => exact ⟨k + 1, _, by omega, by go_num, rfl⟩
        case measure => simp [intOf]; omega
      · obtain rfl : k = d := by omega
        go_wp2
        go_ret
        exact ⟨rfl, _, rfl⟩
end Go.Proofs.YtkhkoeibigpdnaaDoor

/- What a row of a slice of slices weighs at most. -/
set_option linter.unusedVariables false
namespace Go.Proofs.YtkhkoeibigpdnaaDoor
open Go.RowKit Go.ChangeShapes

theorem weightsAll_mem {H : Type} {P : Program} {e : TypeId} {d : DataW H} {n : Nat} : ∀ {l : List (DataW H)}, d ∈ l → n ∈ d.weights P e → n ∈ DataW.weightsAll P e l
  | x :: l, hd, hn => by
    simp only [DataW.weightsAll, List.mem_append]
    rcases List.mem_cons.1 hd with rfl | h
    · exact .inl hn
    · exact .inr (weightsAll_mem h hn)
theorem sized_row {H : Type} {P : Program} {ts : List TypeId} {ds : List (DataW H)} (h : (DataW.weightsEach P ts ds).all (· ≤ reachBytes) = true) {j : Nat} {t e q : TypeId} {elems spare el sp : List (DataW H)} (ht : ts[j]? = some t) (hd : ds[j]? = some (.slice elems spare)) (hu : P.underlying t = some (.slice e)) (hv : P.underlying e = some (.slice q))
    (hm : .slice el sp ∈ elems) : (el.length + sp.length) * P.bytesOf q ≤ reachBytes := by
  have h1 : (el.length + sp.length) * P.bytesOf q ∈ DataW.weights P e (.slice el sp) := by simp [DataW.weights, hv]
  have h2 := weightsAll_mem hm h1
  have := List.all_eq_true.1 h _ (DataW.weights_mem_each ht hd _ (by simp only [DataW.weights, hu]; exact List.mem_cons_of_mem _ (List.mem_append_left _ h2)))
  simpa using this

theorem bytesI : Tryd.prog.bytesOf 3 = 8 := by kernel_rfl
theorem bytesR : Tryd.prog.bytesOf 22 = 24 := by kernel_rfl
/-- rows that came in, each of a length that memory holds -/
structure ArgMS (w : World) (A : Option Addr) (n c : Nat) (ts : List (List Int)) : Prop where
  m : ArgM w A n c ts
  n24 : n ≤ 5864062014805
  rows : ∀ t ∈ ts, t.length ≤ 17592186044416
theorem ArgMS.nil (w : World) : ArgMS w none 0 0 [] := ⟨ArgM.nil _, by omega, by simp⟩
theorem ArgMS.i64 {w : World} {A : Option Addr} {n c : Nat} {ts : List (List Int)} (h : ArgMS w A n c ts) : ∀ t ∈ ts, ∀ x ∈ t, I64 x := fun t ht => by
  obtain ⟨k, hk, rfl⟩ := List.mem_iff_getElem.1 ht
  obtain ⟨_, _, _, _, _, _, _, _, _, _, hi⟩ := h.m.tb k hk
  exact hi
theorem ArgMS.mk_ {H : Type} {tys : List TypeId} {ds : List (DataW H)} (hsz : (DataW.weightsEach Tryd.prog tys ds).all (· ≤ reachBytes) = true) {j : Nat} (ht : tys[j]? = some 72) {w : World} {a : Addr} {len cap : Nat} {A : Nat → Option Addr} {L C : Nat → Nat} {Z : Nat → List Int}
    (hd : ds[j]? = some (.slice ((List.range len).map fun r => Go.Deep.intRow .i64 (A r) (L r) (Z r)) ((List.range (cap - len)).map fun j => Go.Deep.intRow .i64 (A (len + j)) (L (len + j)) (Z (len + j))))) (hl : len ≤ cap) (hm : cap ≤ maxLen)
    (h : ∀ r, r < cap → w.cell? (a.add r) = some (.slice (A r) (L r) (C r)) ∧ L r ≤ C r ∧ C r ≤ maxLen ∧ (Z r).length = C r ∧ (∀ n ∈ Z r, (Lit.int .i64 n).wf = true) ∧ (A r = none → C r = 0) ∧
        ∀ a', A r = some a' → 0 ≤ a'.block ∧ ∀ c, c < C r → w.cell? (a'.add c) = some (.int .i64 ((Z r).getD c 0))) :
    ArgMS w (some a) len cap ((List.range len).map fun r => (Z r).take (L r)) := by
  refine ⟨ArgM.mk_ hl hm h, ?_, fun t hmem => ?_⟩
  · have h1 := sized_slice hsz (j := j) (t := 72) (e := 22) ht hd Tryd.underlying72
    rw [bytesR] at h1
    simp only [List.length_map, List.length_range, reachBytes] at h1
    omega
  · obtain ⟨r, hr, rfl⟩ := List.mem_map.1 hmem
    have hr' := List.mem_range.1 hr
    obtain ⟨_, h2, _, h4, _, h6, _⟩ := h r (by omega)
    rw [List.length_take]
    cases hA : A r with
    | none => have := h6 hA; omega
    | some a' =>
      have hin : DataW.slice (H := H) (lits .i64 ((Z r).take (L r))) (lits .i64 ((Z r).drop (L r))) ∈ (List.range len).map fun r => Go.Deep.intRow .i64 (A r) (L r) (Z r) :=
        List.mem_map.2 ⟨r, hr, by simp only [Go.Deep.intRow, hA]⟩
      have h1 := sized_row hsz (j := j) ht hd Tryd.underlying72 Tryd.underlying22 hin
      rw [bytesI] at h1
      simp only [lits, List.length_map, List.length_take, List.length_drop, reachBytes] at h1
      omega
end Go.Proofs.YtkhkoeibigpdnaaDoor

/- The walk of the law SumsTotals (under way). -/
set_option linter.unusedVariables false
namespace Go.Proofs.YtkhkoeibigpdnaaDoor
open Go.RowKit Zp

set_option maxRecDepth 100000 in
set_option maxHeartbeats 2000000 in
theorem tot_c0 (w : World) (q : Nat) [NeZero q] (h3 : 3 ≤ q) (hqm : q ≤ 2147483647) (hpr : IsPrime q) (A : Option Addr) (d c : Nat) (ts : List (List Int)) (ha : ArgM w A d c ts) (hd16 : d ≤ 5864062014805) (hlen : ∀ t ∈ ts, t.length ≤ 17592186044416) (hi : ∀ t ∈ ts, ∀ x ∈ t, I64 x) (h : d = 0 ∨ 4 < d) (hT : Typed w) :
    Calls Tryd.prog 11 #[vi q, .slice A d c] w fun e w' => SaysW (.bool true) w e w' := by
  have HF := Lib.hid (sfield_yes q h3 hqm hpr w hT)
  have HC := Lib.hid (fun W hW => copied_any A d c ts ha.len hd16 hlen W hW)
  have HD := Lib.hid h
  have HLA := Lib.hid ha.len
  have he2 := fun W hg => error_any 2 2 W hg
  rw [errV_ne (by decide), show ((2 : Int) == 2) = true from rfl] at he2
  have HE := Lib.hid he2
  clear he2 h
  go_enter Tryd.func11, Tryd.ntmps11
  go_wp2_with fail
  refine (HF.out).mono ?_
  rintro e w1 ⟨b, rfl, F1, hb1⟩
  have hs1 := ha.tb.below hb1
  go_wp2_with fail
  refine (HC.out _ hs1).mono ?_
  rintro e w2 ⟨v2, us, rfl, hownR, hrows, hb2⟩
  obtain ⟨A2, n2, c2, rfl, hl2, _⟩ := ownR_shape hownR
  have hl2' := hrows.1
  rw [HLA.out, hl2] at hl2'
  subst hl2'
  have tb2 := tb_own hownR hrows hi
  have F2 := F1.below hb2 F1.le
  have hs2 := hs1.below hb2
  have bw2 := hb1.trans (hb2.mono hb1.size)
  clear hownR hrows hl2 F1 hs1 hb1 hb2
  go_wp2_with fail
  refine (Total_d b A2 n2 c2 (by omega) HD.out _).mono ?_
  rintro e w' ⟨rfl, rfl⟩
  go_wp2_with fail
  refine (rover_d A n2 c (by omega) HD.out _).mono ?_
  rintro e w' ⟨rfl, rfl⟩
  go_wp2_with fail
  refine (HE.out _ (hT.below bw2)).mono ?_
  rintro e w3 ⟨rfl, hb3⟩
  have tb3 := tb2.below hb3
  have hs3 := hs2.below hb3
  have bw3 := bw2.trans (hb3.mono bw2.size)
  clear tb2 F2 hs2 bw2 hb3
  go_wp2_with fail
  refine (Round_d b A2 n2 c2 (by omega) HD.out _).mono ?_
  rintro e w' ⟨rfl, rfl⟩
  go_wp2_with fail
  refine (HE.out _ (hT.below bw3)).mono ?_
  rintro e w4 ⟨rfl, hb4⟩
  have tb4 := tb3.below hb4
  have hs4 := hs3.below hb4
  have bw4 := bw3.trans (hb4.mono bw3.size)
  clear tb3 hs3 bw3 hb4
  go_wp2_with fail
  refine (ints_sameH none none 0 0 0 0 [] [] rfl rfl rfl (by omega) _ SL.nil SL.nil).mono ?_
  rintro e w5 ⟨rfl, m, rfl⟩
  go_wp2_with fail
  refine (rows_same A2 A n2 c2 c ts HLA.out (by omega) _ (tb4.drewN m) (hs4.drewN m)).mono ?_
  rintro e w6 ⟨rfl, m2, rfl⟩
  go_wp2
  go_ret
  exact ⟨rfl, below_drewN bw4 _⟩
end Go.Proofs.YtkhkoeibigpdnaaDoor

/- The walk of the law SumsTotals (under way). -/
set_option linter.unusedVariables false
namespace Go.Proofs.YtkhkoeibigpdnaaDoor
open Go.RowKit Zp

theorem over_of_all {ts : List (List Int)} {d v : Nat} (hd : ts.length = d) (hall : ∀ j, j < d → (ts.getD j []).length = (ts.getD 0 []).length) (hv : Cube (ts.getD 0 []).length v) : Over ts v := fun t ht => by
  obtain ⟨k, hk, rfl⟩ := List.mem_iff_getElem.1 ht
  have h := hall k (by omega)
  rw [List.getD_eq_getElem?_getD, List.getElem?_eq_getElem hk, Option.getD_some] at h
  rw [h]; exact hv
set_option maxRecDepth 100000 in
set_option maxHeartbeats 2000000 in
theorem tot_c1 (w : World) (q : Nat) [NeZero q] (h3 : 3 ≤ q) (hqm : q ≤ 2147483647) (hpr : IsPrime q) (A : Option Addr) (d c : Nat) (ts : List (List Int)) (ha : ArgM w A d c ts) (hd16 : d ≤ 5864062014805) (hlen : ∀ t ∈ ts, t.length ≤ 17592186044416) (hi : ∀ t ∈ ts, ∀ x ∈ t, I64 x) (hd1 : 1 ≤ d) (hd4 : d ≤ 4) (h : ¬ ∃ v, Over ts v) (hT : Typed w) :
    Calls Tryd.prog 11 #[vi q, .slice A d c] w fun e w' => SaysW (.bool true) w e w' := by
  have HF := Lib.hid (sfield_yes q h3 hqm hpr w hT)
  have HC := Lib.hid (fun W hW => copied_any A d c ts ha.len hd16 hlen W hW)
  have HD := Lib.hid h
  have HLA := Lib.hid ha.len
  have hov : ∀ W, TB W A ts → Calls Tryd.prog 49 #[.slice A d c] W fun e w' => e = .returned (vi (-1)) ∧ ∃ k, w' = W.drewN k := fun W hW =>
    rover_all A d c ts ha.len hd1 hd4 _ rfl (-1) (fun hall => (varsI_no (fun ⟨v, hv⟩ => h ⟨v, over_of_all ha.len hall hv⟩)).symm) (fun _ => rfl) W hW
  have HOV := Lib.hid hov
  have he2 := fun W hg => error_any 2 2 W hg
  rw [errV_ne (by decide), show ((2 : Int) == 2) = true from rfl] at he2
  have HE := Lib.hid he2
  clear he2 h hov
  go_enter Tryd.func11, Tryd.ntmps11
  go_wp2_with fail
  refine (HF.out).mono ?_
  rintro e w1 ⟨b, rfl, F1, hb1⟩
  have hs1 := ha.tb.below hb1
  go_wp2_with fail
  refine (HC.out _ hs1).mono ?_
  rintro e w2 ⟨v2, us, rfl, hownR, hrows, hb2⟩
  obtain ⟨A2, n2, c2, rfl, hl2, _⟩ := ownR_shape hownR
  have hl2' := hrows.1
  rw [HLA.out, hl2] at hl2'
  subst hl2'
  have tb2 := tb_own hownR hrows hi
  have F2 := F1.below hb2 F1.le
  have hs2 := hs1.below hb2
  have bw2 := hb1.trans (hb2.mono hb1.size)
  clear hownR hrows hl2 F1 hs1 hb1 hb2
  go_wp2_with fail
  refine (Total_no b A2 n2 c2 ts HLA.out hd1 hd4 HD.out _ tb2).mono ?_
  rintro e w2b ⟨rfl, hb2b⟩
  have tb2b := tb2.below hb2b
  have hs2b := hs2.below hb2b
  have bw2b := bw2.trans (hb2b.mono bw2.size)
  clear tb2 hs2 bw2 F2 hb2b
  go_wp2_with fail
  refine (HOV.out _ hs2b).mono ?_
  rintro e w2c ⟨rfl, hk2c⟩
  have hb2c : Below w2b.heap.size w2b w2c := below_draws hk2c
  have tb2 := tb2b.below hb2c
  have hs2 := hs2b.below hb2c
  have bw2 := bw2b.trans (hb2c.mono bw2b.size)
  clear tb2b hs2b bw2b hb2c hk2c
  go_wp2_with fail
  refine (HE.out _ (hT.below bw2)).mono ?_
  rintro e w3 ⟨rfl, hb3⟩
  have tb3 := tb2.below hb3
  have hs3 := hs2.below hb3
  have bw3 := bw2.trans (hb3.mono bw2.size)
  clear tb2 hs2 bw2 hb3
  go_wp2_with fail
  refine (Round_no b A2 n2 c2 ts HLA.out hd1 hd4 HD.out _ tb3).mono ?_
  rintro e w3b ⟨rfl, hb3b⟩
  have tb3b := tb3.below hb3b
  have hs3b := hs3.below hb3b
  have bw3b := bw3.trans (hb3b.mono bw3.size)
  clear tb3 hs3 bw3 hb3b
  go_wp2_with fail
  refine (HE.out _ (hT.below bw3b)).mono ?_
  rintro e w4 ⟨rfl, hb4⟩
  have tb4 := tb3b.below hb4
  have hs4 := hs3b.below hb4
  have bw4 := bw3b.trans (hb4.mono bw3b.size)
  clear tb3b hs3b bw3b hb4
  go_wp2_with fail
  refine (ints_sameH none none 0 0 0 0 [] [] rfl rfl rfl (by omega) _ SL.nil SL.nil).mono ?_
  rintro e w5 ⟨rfl, m, rfl⟩
  go_wp2_with fail
  refine (rows_same A2 A n2 c2 c ts HLA.out (by omega) _ (tb4.drewN m) (hs4.drewN m)).mono ?_
  rintro e w6 ⟨rfl, m2, rfl⟩
  go_wp2
  go_ret
  exact ⟨rfl, below_drewN bw4 _⟩
end Go.Proofs.YtkhkoeibigpdnaaDoor

/- The walk of the law SumsTotals: the cases with a common number of variables; the law. -/
set_option linter.unusedVariables false
namespace Go.Proofs.YtkhkoeibigpdnaaDoor
open Go.RowKit Zp

theorem roundL_len' (q h : Nat) [NeZero q] (ts : List (List Int)) (d : Nat) : (fvs (roundL q h ts d)).length = d + 1 := by rw [List.length_map, roundL_length]
set_option maxRecDepth 100000 in
set_option maxHeartbeats 2000000 in
theorem tot_c2 (w : World) (q : Nat) [NeZero q] (h3 : 3 ≤ q) (hqm : q ≤ 2147483647) (hpr : IsPrime q) (A : Option Addr) (d c : Nat) (ts : List (List Int)) (ha : ArgM w A d c ts) (hd16 : d ≤ 5864062014805) (hlen : ∀ t ∈ ts, t.length ≤ 17592186044416) (hi : ∀ t ∈ ts, ∀ x ∈ t, I64 x) (hd1 : 1 ≤ d) (hd4 : d ≤ 4) (v : Nat) (hv : Over ts v) (hz : v = 0) (hT : Typed w) :
    Calls Tryd.prog 11 #[vi q, .slice A d c] w fun e w' => SaysW (.bool true) w e w' := by
  have HF := Lib.hid (sfield_yes q h3 hqm hpr w hT)
  have HC := Lib.hid (fun W hW => copied_any A d c ts ha.len hd16 hlen W hW)
  have HD := Lib.hid hv
  have HLA := Lib.hid ha.len
  have hn0 : (ts.getD 0 []).length = 2 ^ v := by
    rw [List.getD_eq_getElem?_getD, List.getElem?_eq_getElem (by rw [ha.len]; omega), Option.getD_some]
    exact (hv _ (List.getElem_mem _)).2
  have hvs : varsI (2 ^ v) = (v : Int) := varsI_of ⟨(hv _ (List.getElem_mem (show 0 < ts.length by rw [ha.len]; omega))).1, rfl⟩
  have hov : ∀ W, TB W A ts → Calls Tryd.prog 49 #[.slice A d c] W fun e w' => e = .returned (vi v) ∧ ∃ k, w' = W.drewN k := fun W hW =>
    rover_all A d c ts ha.len hd1 hd4 _ hn0 v (fun _ => hvs.symm) (fun ⟨j, hj, hne⟩ => absurd (by
      rw [List.getD_eq_getElem?_getD, List.getElem?_eq_getElem (by rw [ha.len]; omega), Option.getD_some]
      exact (hv _ (List.getElem_mem _)).2) hne) W hW
  have HOV := Lib.hid hov
  have htt := fun A2 b c2 W (hcW : W.cell? ⟨b, 0, none⟩ = some (vi q)) hW => Total_any q b (by omega) hqm A2 d c2 ts ha.len hd1 hd4 v hv W hcW hW
  have hrt := fun W hW => rtotal_any q (by omega) hqm A d c ts ha.len hd1 hd4 (2 ^ v) (fun t ht => (hv t ht).2) W hW
  have he0 := fun W hg => error_any 0 0 W hg
  rw [errV_zero, show ((0 : Int) == 0) = true from rfl] at he0
  have HE0 := Lib.hid he0
  generalize fv (totP d (2 ^ v) (tabOf q ts)) = z at htt hrt
  have HTT := Lib.hid htt
  have HRT := Lib.hid hrt
  have v0 : (0 : Int) ≤ (v : Int) := by omega
  have he2 := fun W hg => error_any 2 2 W hg
  rw [errV_ne (by decide), show ((2 : Int) == 2) = true from rfl] at he2
  have HE := Lib.hid he2
  have t1 : ((v : Int) == 0) = true := by rw [hz]; rfl
  have HZ := Lib.hid hz
  clear he2 hov hrt htt he0 hn0 hvs hz
  go_enter Tryd.func11, Tryd.ntmps11
  go_wp2_with fail
  refine (HF.out).mono ?_
  rintro e w1 ⟨b, rfl, F1, hb1⟩
  have hs1 := ha.tb.below hb1
  go_wp2_with fail
  refine (HC.out _ hs1).mono ?_
  rintro e w2 ⟨v2, us, rfl, hownR, hrows, hb2⟩
  obtain ⟨A2, n2, c2, rfl, hl2, _⟩ := ownR_shape hownR
  have hl2' := hrows.1
  rw [HLA.out, hl2] at hl2'
  subst hl2'
  have tb2 := tb_own hownR hrows hi
  have F2 := F1.below hb2 F1.le
  have hs2 := hs1.below hb2
  have bw2 := hb1.trans (hb2.mono hb1.size)
  clear hownR hrows hl2 F1 hs1 hb1 hb2
  go_wp2_with fail
  refine (HTT.out A2 b c2 _ F2.c0 tb2).mono ?_
  rintro e w2b ⟨rfl, hb2b⟩
  have tb2b := tb2.below hb2b
  have hs2b := hs2.below hb2b
  have F2b := F2.below hb2b F2.le
  have bw2b := bw2.trans (hb2b.mono bw2.size)
  clear tb2 hs2 bw2 F2 hb2b
  go_wp2_with fail
  refine (HOV.out _ hs2b).mono ?_
  rintro e w2c ⟨rfl, hk2c⟩
  have hb2c : Below w2b.heap.size w2b w2c := below_draws hk2c
  have tb2 := tb2b.below hb2c
  have hs2 := hs2b.below hb2c
  have F2 := F2b.below hb2c F2b.le
  have bw2 := bw2b.trans (hb2c.mono bw2b.size)
  clear tb2b hs2b bw2b hb2c hk2c F2b
  go_wp2_with fail
  refine (HRT.out _ hs2).mono ?_
  rintro e w' ⟨rfl, rfl⟩
  go_wp2_with fail
  refine (HE0.out _ (hT.below bw2)).mono ?_
  rintro e w3 ⟨rfl, hb3⟩
  have tb3 := tb2.below hb3
  have hs3 := hs2.below hb3
  have F3 := F2.below hb3 F2.le
  have bw3 := bw2.trans (hb3.mono bw2.size)
  clear tb2 hs2 bw2 hb3 F2
  go_wp2_with fail
  refine (Round_zero b A2 n2 c2 ts HLA.out hd1 hd4 (by rw [← HZ.out]; exact HD.out) _ tb3).mono ?_
  rintro e w3b ⟨rfl, hb3b⟩
  have tb3b := tb3.below hb3b
  have hs3b := hs3.below hb3b
  have bw3b := bw3.trans (hb3b.mono bw3.size)
  clear tb3 hs3 bw3 hb3b F3
  go_wp2_with fail
  refine (HE.out _ (hT.below bw3b)).mono ?_
  rintro e w4 ⟨rfl, hb4⟩
  have tb4 := tb3b.below hb4
  have hs4 := hs3b.below hb4
  have bw4 := bw3b.trans (hb4.mono bw3b.size)
  clear tb3b hs3b bw3b hb4
  go_wp2_with fail
  refine (ints_sameH none none 0 0 0 0 [] [] rfl rfl rfl (by omega) _ SL.nil SL.nil).mono ?_
  rintro e w5 ⟨rfl, m, rfl⟩
  go_wp2_with fail
  refine (rows_same A2 A n2 c2 c ts HLA.out (by omega) _ (tb4.drewN m) (hs4.drewN m)).mono ?_
  rintro e w6 ⟨rfl, m2, rfl⟩
  go_wp2
  go_ret
  exact ⟨rfl, below_drewN bw4 _⟩
set_option maxRecDepth 100000 in
set_option maxHeartbeats 2000000 in
theorem tot_c3 (w : World) (q : Nat) [NeZero q] (h3 : 3 ≤ q) (hqm : q ≤ 2147483647) (hpr : IsPrime q) (A : Option Addr) (d c : Nat) (ts : List (List Int)) (ha : ArgM w A d c ts) (hd16 : d ≤ 5864062014805) (hlen : ∀ t ∈ ts, t.length ≤ 17592186044416) (hi : ∀ t ∈ ts, ∀ x ∈ t, I64 x) (hd1 : 1 ≤ d) (hd4 : d ≤ 4) (v : Nat) (hv : Over ts v) (hv1 : 1 ≤ v) (hqd : q ≤ d) (hT : Typed w) :
    Calls Tryd.prog 11 #[vi q, .slice A d c] w fun e w' => SaysW (.bool true) w e w' := by
  have HF := Lib.hid (sfield_yes q h3 hqm hpr w hT)
  have HC := Lib.hid (fun W hW => copied_any A d c ts ha.len hd16 hlen W hW)
  have HD := Lib.hid hv
  have HLA := Lib.hid ha.len
  have hn0 : (ts.getD 0 []).length = 2 ^ v := by
    rw [List.getD_eq_getElem?_getD, List.getElem?_eq_getElem (by rw [ha.len]; omega), Option.getD_some]
    exact (hv _ (List.getElem_mem _)).2
  have hvs : varsI (2 ^ v) = (v : Int) := varsI_of ⟨(hv _ (List.getElem_mem (show 0 < ts.length by rw [ha.len]; omega))).1, rfl⟩
  have hov : ∀ W, TB W A ts → Calls Tryd.prog 49 #[.slice A d c] W fun e w' => e = .returned (vi v) ∧ ∃ k, w' = W.drewN k := fun W hW =>
    rover_all A d c ts ha.len hd1 hd4 _ hn0 v (fun _ => hvs.symm) (fun ⟨j, hj, hne⟩ => absurd (by
      rw [List.getD_eq_getElem?_getD, List.getElem?_eq_getElem (by rw [ha.len]; omega), Option.getD_some]
      exact (hv _ (List.getElem_mem _)).2) hne) W hW
  have HOV := Lib.hid hov
  have htt := fun A2 b c2 W (hcW : W.cell? ⟨b, 0, none⟩ = some (vi q)) hW => Total_any q b (by omega) hqm A2 d c2 ts ha.len hd1 hd4 v hv W hcW hW
  have hrt := fun W hW => rtotal_any q (by omega) hqm A d c ts ha.len hd1 hd4 (2 ^ v) (fun t ht => (hv t ht).2) W hW
  have he0 := fun W hg => error_any 0 0 W hg
  rw [errV_zero, show ((0 : Int) == 0) = true from rfl] at he0
  have HE0 := Lib.hid he0
  generalize fv (totP d (2 ^ v) (tabOf q ts)) = z at htt hrt
  have HTT := Lib.hid htt
  have HRT := Lib.hid hrt
  have v0 : (0 : Int) ≤ (v : Int) := by omega
  have he2 := fun W hg => error_any 3 3 W hg
  rw [errV_ne (by decide), show ((3 : Int) == 3) = true from rfl] at he2
  have HE := Lib.hid he2
  have t1 : ((v : Int) == 0) = false := by rw [beq_eq_false_iff_ne]; omega
  clear he2 hov hrt htt he0 hn0 hvs
  go_enter Tryd.func11, Tryd.ntmps11
  go_wp2_with fail
  refine (HF.out).mono ?_
  rintro e w1 ⟨b, rfl, F1, hb1⟩
  have hs1 := ha.tb.below hb1
  go_wp2_with fail
  refine (HC.out _ hs1).mono ?_
  rintro e w2 ⟨v2, us, rfl, hownR, hrows, hb2⟩
  obtain ⟨A2, n2, c2, rfl, hl2, _⟩ := ownR_shape hownR
  have hl2' := hrows.1
  rw [HLA.out, hl2] at hl2'
  subst hl2'
  have tb2 := tb_own hownR hrows hi
  have F2 := F1.below hb2 F1.le
  have hs2 := hs1.below hb2
  have bw2 := hb1.trans (hb2.mono hb1.size)
  clear hownR hrows hl2 F1 hs1 hb1 hb2
  go_wp2_with fail
  refine (HTT.out A2 b c2 _ F2.c0 tb2).mono ?_
  rintro e w2b ⟨rfl, hb2b⟩
  have tb2b := tb2.below hb2b
  have hs2b := hs2.below hb2b
  have F2b := F2.below hb2b F2.le
  have bw2b := bw2.trans (hb2b.mono bw2.size)
  clear tb2 hs2 bw2 F2 hb2b
  go_wp2_with fail
  refine (HOV.out _ hs2b).mono ?_
  rintro e w2c ⟨rfl, hk2c⟩
  have hb2c : Below w2b.heap.size w2b w2c := below_draws hk2c
  have tb2 := tb2b.below hb2c
  have hs2 := hs2b.below hb2c
  have F2 := F2b.below hb2c F2b.le
  have bw2 := bw2b.trans (hb2c.mono bw2b.size)
  clear tb2b hs2b bw2b hb2c hk2c F2b
  go_wp2_with fail
  refine (HRT.out _ hs2).mono ?_
  rintro e w' ⟨rfl, rfl⟩
  go_wp2_with fail
  refine (HE0.out _ (hT.below bw2)).mono ?_
  rintro e w3 ⟨rfl, hb3⟩
  have tb3 := tb2.below hb3
  have hs3 := hs2.below hb3
  have F3 := F2.below hb3 F2.le
  have bw3 := bw2.trans (hb3.mono bw2.size)
  clear tb2 hs2 bw2 hb3 F2
  go_wp2_with fail
  refine (Round_big q _ b A2 n2 c2 ts HLA.out hd1 hd4 v hv1 HD.out hqd _ F3 tb3).mono ?_
  rintro e w3b ⟨rfl, hb3b⟩
  have tb3b := tb3.below hb3b
  have hs3b := hs3.below hb3b
  have bw3b := bw3.trans (hb3b.mono bw3.size)
  clear tb3 hs3 bw3 hb3b F3
  go_wp2_with fail
  refine (HE.out _ (hT.below bw3b)).mono ?_
  rintro e w4 ⟨rfl, hb4⟩
  have tb4 := tb3b.below hb4
  have hs4 := hs3b.below hb4
  have bw4 := bw3b.trans (hb4.mono bw3b.size)
  clear tb3b hs3b bw3b hb4
  go_wp2_with fail
  refine (ints_sameH none none 0 0 0 0 [] [] rfl rfl rfl (by omega) _ SL.nil SL.nil).mono ?_
  rintro e w5 ⟨rfl, m, rfl⟩
  go_wp2_with fail
  refine (rows_same A2 A n2 c2 c ts HLA.out (by omega) _ (tb4.drewN m) (hs4.drewN m)).mono ?_
  rintro e w6 ⟨rfl, m2, rfl⟩
  go_wp2
  go_ret
  exact ⟨rfl, below_drewN bw4 _⟩
set_option maxRecDepth 100000 in
set_option maxHeartbeats 2000000 in
theorem tot_c4 (w : World) (q : Nat) [NeZero q] (h3 : 3 ≤ q) (hqm : q ≤ 2147483647) (hpr : IsPrime q) (A : Option Addr) (d c : Nat) (ts : List (List Int)) (ha : ArgM w A d c ts) (hd16 : d ≤ 5864062014805) (hlen : ∀ t ∈ ts, t.length ≤ 17592186044416) (hi : ∀ t ∈ ts, ∀ x ∈ t, I64 x) (hd1 : 1 ≤ d) (hd4 : d ≤ 4) (v : Nat) (hv : Over ts v) (u : Nat) (hv1 : v = u + 1) (hqd : d < q) (hT : Typed w) :
    Calls Tryd.prog 11 #[vi q, .slice A d c] w fun e w' => SaysW (.bool true) w e w' := by
  have HF := Lib.hid (sfield_yes q h3 hqm hpr w hT)
  have HC := Lib.hid (fun W hW => copied_any A d c ts ha.len hd16 hlen W hW)
  have HD := Lib.hid hv
  have HLA := Lib.hid ha.len
  have hn0 : (ts.getD 0 []).length = 2 ^ v := by
    rw [List.getD_eq_getElem?_getD, List.getElem?_eq_getElem (by rw [ha.len]; omega), Option.getD_some]
    exact (hv _ (List.getElem_mem _)).2
  have hvs : varsI (2 ^ v) = (v : Int) := varsI_of ⟨(hv _ (List.getElem_mem (show 0 < ts.length by rw [ha.len]; omega))).1, rfl⟩
  have hov : ∀ W, TB W A ts → Calls Tryd.prog 49 #[.slice A d c] W fun e w' => e = .returned (vi v) ∧ ∃ k, w' = W.drewN k := fun W hW =>
    rover_all A d c ts ha.len hd1 hd4 _ hn0 v (fun _ => hvs.symm) (fun ⟨j, hj, hne⟩ => absurd (by
      rw [List.getD_eq_getElem?_getD, List.getElem?_eq_getElem (by rw [ha.len]; omega), Option.getD_some]
      exact (hv _ (List.getElem_mem _)).2) hne) W hW
  have HOV := Lib.hid hov
  have htt := fun A2 b c2 W (hcW : W.cell? ⟨b, 0, none⟩ = some (vi q)) hW => Total_any q b (by omega) hqm A2 d c2 ts ha.len hd1 hd4 v hv W hcW hW
  have hrt := fun W hW => rtotal_any q (by omega) hqm A d c ts ha.len hd1 hd4 (2 ^ v) (fun t ht => (hv t ht).2) W hW
  have he0 := fun W hg => error_any 0 0 W hg
  rw [errV_zero, show ((0 : Int) == 0) = true from rfl] at he0
  have HE0 := Lib.hid he0
  generalize fv (totP d (2 ^ v) (tabOf q ts)) = z at htt hrt
  have HTT := Lib.hid htt
  have HRT := Lib.hid hrt
  have v0 : (0 : Int) ≤ (v : Int) := by omega
  have t1 : ((v : Int) == 0) = false := by rw [beq_eq_false_iff_ne]; omega
  have hrd := fun S b A2 c2 W FW hW => Round_any q S b A2 d c2 ts ha.len hd1 hd4 u (by rw [← hv1]; exact hv) hqd W FW hW
  have hn3 : 2 ^ (u + 1) ≤ 65536 := by
    have h0 := (hv _ (List.getElem_mem (show 0 < ts.length by rw [ha.len]; omega))).1
    rw [hv1] at h0
    exact Nat.le_trans (Nat.pow_le_pow_right (n := 2) (by omega) h0) (by decide)
  have hrr := fun W hW => rround_any q (by omega) hqm A d c ts ha.len hd1 hd4 (2 ^ (u + 1)) (2 ^ u) (fun t ht => by rw [← hv1]; exact (hv t ht).2) (by rw [Nat.pow_succ]; omega) hn3 W hW
  have hll := roundL_len' q (2 ^ u) ts d
  generalize fvs (roundL q (2 ^ u) ts d) = L at hrd hrr hll
  have HRD := Lib.hid hrd
  have HRR := Lib.hid hrr
  have HLL0 := Lib.hid hll
  have t2 : ¬ q ≤ d := by omega
  clear hov hrt htt he0 hn0 hvs hrd hrr hll hn3 hv1
  go_enter Tryd.func11, Tryd.ntmps11
  go_wp2_with fail
  refine (HF.out).mono ?_
  rintro e w1 ⟨b, rfl, F1, hb1⟩
  have hs1 := ha.tb.below hb1
  go_wp2_with fail
  refine (HC.out _ hs1).mono ?_
  rintro e w2 ⟨v2, us, rfl, hownR, hrows, hb2⟩
  obtain ⟨A2, n2, c2, rfl, hl2, _⟩ := ownR_shape hownR
  have hl2' := hrows.1
  rw [HLA.out, hl2] at hl2'
  subst hl2'
  have tb2 := tb_own hownR hrows hi
  have F2 := F1.below hb2 F1.le
  have hs2 := hs1.below hb2
  have bw2 := hb1.trans (hb2.mono hb1.size)
  clear hownR hrows hl2 F1 hs1 hb1 hb2
  go_wp2_with fail
  refine (HTT.out A2 b c2 _ F2.c0 tb2).mono ?_
  rintro e w2b ⟨rfl, hb2b⟩
  have tb2b := tb2.below hb2b
  have hs2b := hs2.below hb2b
  have F2b := F2.below hb2b F2.le
  have bw2b := bw2.trans (hb2b.mono bw2.size)
  clear tb2 hs2 bw2 F2 hb2b
  go_wp2_with fail
  refine (HOV.out _ hs2b).mono ?_
  rintro e w2c ⟨rfl, hk2c⟩
  have hb2c : Below w2b.heap.size w2b w2c := below_draws hk2c
  have tb2 := tb2b.below hb2c
  have hs2 := hs2b.below hb2c
  have F2 := F2b.below hb2c F2b.le
  have bw2 := bw2b.trans (hb2c.mono bw2b.size)
  clear tb2b hs2b bw2b hb2c hk2c F2b
  go_wp2_with fail
  refine (HRT.out _ hs2).mono ?_
  rintro e w' ⟨rfl, rfl⟩
  go_wp2_with fail
  refine (HE0.out _ (hT.below bw2)).mono ?_
  rintro e w3 ⟨rfl, hb3⟩
  have tb3 := tb2.below hb3
  have hs3 := hs2.below hb3
  have F3 := F2.below hb3 F2.le
  have bw3 := bw2.trans (hb3.mono bw2.size)
  clear tb2 hs2 bw2 hb3 F2
  go_wp2_with fail
  refine (HRD.out _ b A2 c2 _ F3 tb3).mono ?_
  rintro e w3b ⟨v3, rfl, hown3, hb3b⟩
  have tb3b := tb3.below hb3b
  have hs3b := hs3.below hb3b
  have bw3b := bw3.trans (hb3b.mono bw3.size)
  obtain ⟨AL, nL, cL, rfl, hlL, hcL, hmL, slL⟩ := hown3.shapeN
  have hnL : nL ≤ 9223372036854775807 := by rw [← hlL, HLL0.out]; omega
  have HLL := Lib.hid hlL
  clear tb3 hs3 bw3 hb3b F3 hown3 hlL
  go_wp2_with fail
  refine (HRR.out _ hs3b).mono ?_
  rintro e w3c ⟨v4, rfl, hown4, hb3c⟩
  have tb3c := tb3b.below hb3c
  have hs3c := hs3b.below hb3c
  have slL3 := slL.below hb3c
  have bw3c := bw3b.trans (hb3c.mono bw3b.size)
  obtain ⟨AK, nK, cK, rfl, hlK, hcK, hmK, slK⟩ := hown4.shapeN
  have HLK := Lib.hid hlK
  clear tb3b hs3b bw3b hb3c slL hown4 hlK
  go_wp2_with fail
  refine (HE0.out _ (hT.below bw3c)).mono ?_
  rintro e w4 ⟨rfl, hb4⟩
  have tb4 := tb3c.below hb4
  have hs4 := hs3c.below hb4
  have slL4 := slL3.below hb4
  have slK4 := slK.below hb4
  have bw4 := bw3c.trans (hb4.mono bw3c.size)
  clear tb3c hs3c bw3c hb4 slL3 slK
  go_wp2_with fail
  refine (ints_sameH AL AK nL cL nK cK _ _ HLL.out HLK.out rfl (by omega) _ slL4 slK4).mono ?_
  rintro e w5 ⟨rfl, m, rfl⟩
  go_wp2_with fail
  refine (rows_same A2 A n2 c2 c ts HLA.out (by omega) _ (tb4.drewN m) (hs4.drewN m)).mono ?_
  rintro e w6 ⟨rfl, m2, rfl⟩
  go_wp2
  go_ret
  exact ⟨rfl, below_drewN bw4 _⟩

theorem totals_walk (w : World) (p : Int) (hp : I64 p) (A : Option Addr) (d c : Nat) (ts : List (List Int)) (ha : ArgMS w A d c ts) (hT : Typed w) :
    Calls Tryd.prog 11 #[vi p, .slice A d c] w fun e w' => SaysW (.bool true) w e w' := by
  by_cases hF : HasField p
  · obtain ⟨h3, hm, hpr⟩ := hF
    obtain ⟨q, rfl⟩ := Int.eq_ofNat_of_zero_le (a := p) (by omega)
    rw [Int.toNat_natCast] at hpr
    haveI := hpr.ne
    by_cases h : d = 0 ∨ 4 < d
    · exact tot_c0 w q (by omega) (by omega) hpr A d c ts ha.m ha.n24 ha.rows ha.i64 h hT
    · by_cases hv : ∃ v, Over ts v
      · obtain ⟨v, hv⟩ := hv
        rcases v with _ | u
        · exact tot_c2 w q (by omega) (by omega) hpr A d c ts ha.m ha.n24 ha.rows ha.i64 (by omega) (by omega) 0 hv rfl hT
        · by_cases hqd : q ≤ d
          · exact tot_c3 w q (by omega) (by omega) hpr A d c ts ha.m ha.n24 ha.rows ha.i64 (by omega) (by omega) (u + 1) hv (by omega) hqd hT
          · exact tot_c4 w q (by omega) (by omega) hpr A d c ts ha.m ha.n24 ha.rows ha.i64 (by omega) (by omega) (u + 1) hv u rfl (by omega) hT
      · exact tot_c1 w q (by omega) (by omega) hpr A d c ts ha.m ha.n24 ha.rows ha.i64 (by omega) (by omega) hv hT
  · have HN := Lib.hid (sfield_no p hp hF w hT)
    clear hF
    go_enter Tryd.func11, Tryd.ntmps11
    go_wp2_with fail
    refine (HN.out).mono ?_
    rintro e w1 ⟨rfl, hb1⟩
    go_wp2
    go_ret
    exact ⟨rfl, hb1⟩
end Go.Proofs.YtkhkoeibigpdnaaDoor
