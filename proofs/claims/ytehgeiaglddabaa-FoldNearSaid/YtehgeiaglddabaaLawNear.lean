/- The walk of the law FoldNear. -/
import Derived.Test.YtehgeiaglddabaaLv5
import Derived.Test.YtehgeiaglddabaaCode
import Derived.Test.YtehgeiaglddabaaEach
import Derived.Test.YtehgeiaglddabaaAppA
import Derived.Test.YtehgeiaglddabaaFn
import Derived.Test.YtehgeiaglddabaaArg
set_option linter.unusedVariables false
namespace Go.Proofs.Ytehgeiaglddabaa
open Go.RowKit Zp

theorem pmul_n (p : Nat) [NeZero p] (hp2 : p ≤ 2147483647) (b : Nat) (A B : Option Addr) (na ca nb cb : Nat) (xs ys : List Int) (hna : xs.length = na) (hnb : ys.length = nb) (hxs : ∀ n ∈ xs, I64 n) (hys : ∀ n ∈ ys, I64 n) (hrx : na * 8 ≤ 140737488351232) (hry : nb * 8 ≤ 140737488351232) (hcx : na ≤ ca) (hcy : nb ≤ cb)
    (w : World) (hc : w.cell? ⟨b, 0, none⟩ = some (vi p)) (hsx : SL w A xs) (hsy : SL w B ys) :
    Calls Try.prog 24 #[.pointer (some ⟨b, 0, none⟩), .slice A na ca, .slice B nb cb] w fun e w' => Made (fvs (trimL (mulL (els p xs) (els p ys)))) w e w' := by
  subst hna hnb
  exact pmul_any p hp2 b A B ca cb xs ys hxs hys hrx hry hcx hcy w hc hsx hsy
theorem degree_n (p : Nat) [NeZero p] (hp2 : p ≤ 2147483647) (b : Nat) (A : Option Addr) (n cap : Nat) (xs : List Int) (hn : xs.length = n) (hxs : ∀ n ∈ xs, I64 n) (hreach : n * 8 ≤ 281474976710656) (w : World) (hc : w.cell? ⟨b, 0, none⟩ = some (vi p)) (hs : SL w A xs) :
    Calls Try.prog 20 #[.pointer (some ⟨b, 0, none⟩), .slice A n cap] w fun e w' => e = .returned (vi (degL (els p xs))) ∧ w = w' := by
  subst hn
  exact degree_any p hp2 b A cap xs hxs hreach w hc hs
theorem at_n (A : Option Addr) (n c : Nat) (xs : List Int) (hn : xs.length = n) (hx : n ≤ 9223372036854775807) (i : Int) (hi : I64 i) (w : World) (hs : SL w A xs) :
    Calls Try.prog 28 #[.slice A n c, vi i] w fun e w' => e = .returned (vi (atI xs i)) ∧ w = w' := by
  subst hn
  exact at_any A c xs hx i hi w hs
theorem atI_fvs {p : Nat} [NeZero p] (l : List (Fin p)) (k : Nat) : atI (fvs l) (k : Int) = fv (co l k) := by
  rw [atI, if_pos (by omega), Int.toNat_natCast, List.getD_eq_getElem?_getD, List.getElem?_map]
  unfold co
  cases l[k]? with
  | none => rfl
  | some x => rfl
theorem distI_raw {p : Nat} [NeZero p] (xs : List Int) (m : List (Fin p)) (n : Nat) (hl : xs.length = n) (hm : m.length = n) : distI p xs (fvs m) = diffN n (co (els p xs)) (co m) := by
  unfold distI
  rw [els_fvs, List.length_map, hl, hm, Nat.max_self, Nat.min_self, Nat.sub_self, Nat.zero_add]
theorem distI_fv {p : Nat} [NeZero p] (l m : List (Fin p)) (n : Nat) (hl : l.length = n) (hm : m.length = n) : distI p (fvs l) (fvs m) = diffN n (co l) (co m) := by
  rw [distI_raw (fvs l) m n (by simpa using hl) hm, els_fvs]

/-- times a polynomial of one place, which the caller writes out -/
theorem pmul_one (q : Nat) [NeZero q] (hm : q ≤ 2147483647) (b : Nat) (A : Option Addr) (n c : Nat) (O : List (Fin q)) (hn : (fvs O).length = n) (hn8 : n ≤ 65600) (hnc : n ≤ c) (x : Int) (hx : I64 x) (w : World) (hc : w.cell? ⟨b, 0, none⟩ = some (vi q)) (hs : SL w A (fvs O)) :
    Calls Try.prog 24 #[.pointer (some ⟨b, 0, none⟩), .slice A n c, .slice (some ⟨w.heap.size, 0, none⟩) 1 1] (w.alloc (.cells #[vi x] 3)) fun e w' => Made (fvs (trimL (mulL O [el q x]))) w e w' := by
  have hbl : b < w.heap.size := block_lt_of_cell hc
  have hba : Below w.heap.size w (w.alloc (.cells #[vi x] 3)) := (Below.refl _ _).alloc (Nat.le_refl _) _
  have h := pmul_n q hm b A (some ⟨w.heap.size, 0, none⟩) n c 1 1 (fvs O) [x] hn rfl (i64_fvs _ hm) (by simpa using hx) (by omega) (by omega) hnc (Nat.le_refl _) (w.alloc (.cells #[vi x] 3)) ((hba.cell (p := ⟨b, 0, none⟩) hbl).trans hc) (hs.below hba) (sl_lit w [x])
  rw [els_fvs] at h
  exact h.mono fun e w' ⟨v, h1, h2, h3⟩ => ⟨v, h1, h2.more hba.size, hba.trans (h3.mono hba.size)⟩

/-- the loop that weaves -/
def NearRel {q : Nat} [NeZero q] (e o : List (Fin q)) (κ : Nat) (w8 : World) (v i : Value) (wr : World) : Prop :=
  ∃ k : Nat, k ≤ κ ∧ i = vi k ∧ Own wr w8.heap.size v (fvs (weave e o k)) ∧ Below w8.heap.size w8 wr

set_option maxRecDepth 100000 in
set_option maxHeartbeats 4000000 in
theorem near_walk (w : World) (p : Int) (hp : I64 p) (size : Int) (hsz : I64 size) (t : Int) (ht : I64 t) (k : Int) (hk : I64 k) (A : Option Addr) (na ca : Nat) (xs : List Int) (ha : ArgS w A na ca xs) (r : Int) (hr : I64 r) (s : Int) (hs : I64 s)
    (B : Option Addr) (nb cb : Nat) (ys : List Int) (hb : ArgS w B nb cb ys) (C : Option Addr) (nc cc : Nat) (zs : List Int) (hc : ArgS w C nc cc zs) :
    Calls Try.prog 12 #[vi p, vi size, vi t, vi k, .slice A na ca, vi r, vi s, .slice B nb cb, .slice C nc cc] w fun e w' => SaysW (.bool true) w e w' := by
  have hra := ha.r8
  have hrb := hb.r8
  have hrc := hc.r8
  have hla := ha.len
  have hlb := hb.len
  have hlc := hc.len
  rw [hla] at hra
  rw [hlb] at hrb
  rw [hlc] at hrc
  have HLA := Lib.hid hla
  have HLB := Lib.hid hlb
  have HLC := Lib.hid hlc
  clear hla hlb hlc
  by_cases hF : HasHalf p size t
  · obtain ⟨q, m, rfl, hm0, rfl, h3, hm, hpr, hsn, h0⟩ := hF.parts
    haveI := hpr.ne
    have hpl := fun w => plain5_yes q m t ht hpr h3 hm hm0 hsn h0 w
    have HPL := Lib.hid hpl
    have hn1 := hsn.le
    have hord := rootI_ord hpr hsn.pos hsn.2
    have HORD := Lib.hid hord
    have hrh := rootI_half hm0 hsn.2 (by omega)
    have HRH := Lib.hid hrh
    clear hpl hF h0 hord hrh
    obtain ⟨n, hnn⟩ : ∃ n, n = 2 * m := ⟨_, rfl⟩
    rw [← hnn] at HPL hn1 ⊢
    have HNN := Lib.hid hnn
    clear hnn
    go_enter Try.func12, Try.ntmps12
    go_wp2_with fail
    refine (lives5_any _).mono ?_
    rintro e w1 ⟨rfl, hb1⟩
    go_wp2_with fail
    refine (HPL.out _).mono ?_
    rintro e w2 ⟨b, D, H, rfl, hD, hH, hb2⟩
    have hbel2 := hb1.trans (hb2.mono hb1.size)
    rw [← HNN.out] at hD
    clear hb1 hb2
    go_wp2_with fail
    refine (sub_any q hm b s r hs hr _ hD.fld.c0).mono ?_
    rintro e w' ⟨rfl, rfl⟩
    have hsw := ha.sl.below hbel2
    obtain ⟨da, hda⟩ : ∃ d, d = degL (els q ys) := ⟨_, rfl⟩
    obtain ⟨db, hdb⟩ : ∃ d, d = degL (els q zs) := ⟨_, rfl⟩
    have hdega := fun (W : World) hc hs => degree_n q hm b B nb cb ys HLB.out hb.i64 (by omega) W hc hs
    have hdegb := fun (W : World) hcc hs => degree_n q hm b C nc cc zs HLC.out hc.i64 (by omega) W hcc hs
    rw [← hda] at hdega
    rw [← hdb] at hdegb
    have HDA := Lib.hid hda
    have HDB := Lib.hid hdb
    have HDEGA := Lib.hid hdega
    have HDEGB := Lib.hid hdegb
    clear hda hdb hdega hdegb
    by_cases hlen : na = n
    · subst hlen
      go_wp2_with fail
      refine (fold_any q _ D b na m HNN.out hm0 (el q t) A ca xs HLA.out ha.i64 r hr _ hD hsw).mono ?_
      rintro e w3 ⟨v3, rfl, hown3, hb3⟩
      have hbel3 := hbel2.trans (hb3.mono hbel2.size)
      have hD3 := hD.below hb3 (Nat.le_refl _)
      have hH3 := hH.below hb3 (Nat.le_refl _)
      obtain ⟨A3, n3, c3, rfl, hl3, _, _, hs3⟩ := hown3.shapeN
      rw [List.length_map, foldL_length] at hl3
      subst hl3
      clear hown3
      go_wp2_with fail
      refine (fold_any q _ D b na m HNN.out hm0 (el q t) A ca xs HLA.out ha.i64 s hs _ hD3 (ha.sl.below hbel3)).mono ?_
      rintro e w4 ⟨v4, rfl, hown4, hb4⟩
      have hbel4 := hbel3.trans (hb4.mono hbel3.size)
      have hD4 := hD3.below hb4 hD3.le
      have hH4 := hH3.below hb4 hH3.le
      have hs3' := hs3.below hb4
      obtain ⟨A4, n4, c4, rfl, hl4, _, _, hs4⟩ := hown4.shapeN
      rw [List.length_map, foldL_length] at hl4
      subst hl4
      clear hown4 hb3 hb4 hs3
      have hcb4 := hD4.fld.c0
      go_wp2_with fail
      refine (HDEGA.out _ hcb4 (hb.sl.below hbel4)).mono ?_
      rintro e w' ⟨rfl, rfl⟩
      go_wp2_with fail
      refine (HDEGB.out _ hcb4 (hc.sl.below hbel4)).mono ?_
      rintro e w' ⟨rfl, rfl⟩
      by_cases hx : el q s - el q r = 0
      · have t1 : (fv (el q s - el q r) == 0) = true := by rw [hx]; rfl
        clear hx
        go_wp2
        go_ret
        exact ⟨rfl, hbel4⟩
      · have t1 : (fv (el q s - el q r) == 0) = false := by rw [beq_eq_false_iff_ne]; exact fun h => hx (fv_eq_zero.1 h)
        have HX := Lib.hid hx
        clear hx
        by_cases hk2 : k < 2
        · go_wp2; go_ret; exact ⟨rfl, hbel4⟩
        · by_cases hkn : (na : Int) < k
          · go_wp2; go_ret; exact ⟨rfl, hbel4⟩
          · by_cases hpar : k % 2 = 0
            · obtain ⟨kk, rfl⟩ := Int.eq_ofNat_of_zero_le (a := k) (by omega)
              obtain ⟨κ, hκ⟩ : ∃ κ, κ = kk / 2 := ⟨_, rfl⟩
              have hκ2 : kk = 2 * κ := by omega
              have hκn : κ ≤ 65536 := by omega
              have t2 : ((kk : Int) % 2 != 0) = false := by rw [hpar]; rfl
              have t3 : (kk : Int) / 2 = (κ : Int) := by omega
              clear hpar hκ
              have HK2 := Lib.hid hκ2
              clear hκ2
              by_cases hd1 : (κ : Int) ≤ da
              · go_wp2; go_ret; exact ⟨rfl, hbel4⟩
              · by_cases hd2 : (κ : Int) ≤ db
                · go_wp2; go_ret; exact ⟨rfl, hbel4⟩
                · have hm1 : m ≤ 65536 := by have := HNN.out; omega
                  have hta : (trimL (els q ys)).length ≤ κ := by have := HDA.out; unfold degL at this; omega
                  have htb : (trimL (els q zs)).length ≤ κ := by have := HDB.out; unfold degL at this; omega
                  have hO0 := subL_length (a := els q zs) (b := els q ys) htb hta
                  have HTA := Lib.hid hta
                  have HTB := Lib.hid htb
                  clear hta htb
                  go_wp2_with fail
                  refine (values_n q _ H b m (el q t * el q t) B nb cb ys HLB.out hb.i64 (by omega) _ hH4 (hb.sl.below hbel4)).mono ?_
                  rintro e w5 ⟨A5, c5, hl5, rfl, _, _, hs5, hb5⟩
                  have hbel5 := hbel4.trans (hb5.mono hbel4.size)
                  have hH5 := hH4.below hb5 hH4.le
                  have hD5 := hD4.below hb5 hD4.le
                  have HL5 := Lib.hid hl5
                  clear hl5
                  go_wp2_with fail
                  refine (values_n q _ H b m (el q t * el q t) C nc cc zs HLC.out hc.i64 (by omega) _ hH5 (hc.sl.below hbel5)).mono ?_
                  rintro e w6 ⟨A6, c6, hl6, rfl, _, _, hs6, hb6⟩
                  have hbel6 := hbel5.trans (hb6.mono hbel5.size)
                  have hH6 := hH5.below hb6 hH5.le
                  have hD6 := hD5.below hb6 hD5.le
                  have HL6 := Lib.hid hl6
                  clear hl6
                  have hcb6 := hH6.fld.c0
                  have hs3a := (hs3'.below hb5).below hb6
                  have hs4a := (hs4.below hb5).below hb6
                  have hs5a := hs5.below hb6
                  have hd1 := distance_any q hm b A3 A5 m c3 m c5 _ _ (by rw [List.length_map, foldL_length]) HL5.out (i64_fvs _ hm) (i64_fvs _ hm) (by omega) (by omega) w6 hcb6 hs3a hs5a
                  have hd2 := fun k => distance_any q hm b A4 A6 m c4 m c6 _ _ (by rw [List.length_map, foldL_length]) HL6.out (i64_fvs _ hm) (i64_fvs _ hm) (by omega) (by omega) (w6.drewN k) hcb6 (hs4a.drewN k) (hs6.drewN k)
                  rw [distI_fv _ _ m (foldL_length _ _ _ _ _) (valL_length _ _ _ _)] at hd1
                  rw [distI_fv _ _ m (foldL_length _ _ _ _ _) (valL_length _ _ _ _)] at hd2
                  obtain ⟨D1, hD1⟩ : ∃ D1, D1 = diffN m (co (foldL (el q t) (rootI q (na : Int)) m (els q xs) (el q r))) (co (valL (el q t * el q t) (rootI q (m : Int)) m (els q ys))) := ⟨_, rfl⟩
                  obtain ⟨D2, hD2⟩ : ∃ D2, D2 = diffN m (co (foldL (el q t) (rootI q (na : Int)) m (els q xs) (el q s))) (co (valL (el q t * el q t) (rootI q (m : Int)) m (els q zs))) := ⟨_, rfl⟩
                  rw [← hD1] at hd1
                  rw [← hD2] at hd2
                  have hD1l : D1 ≤ 65536 := by rw [hD1]; exact Nat.le_trans (diffN_le _ _ _) (by omega)
                  have hD2l : D2 ≤ 65536 := by rw [hD2]; exact Nat.le_trans (diffN_le _ _ _) (by omega)
                  have HD1 := Lib.hid hd1
                  have HD2 := Lib.hid hd2
                  have HE1 := Lib.hid hD1
                  have HE2 := Lib.hid hD2
                  clear hd1 hd2 hD1 hD2 hs3a hs4a hs5a hs3' hs4 hs5 hb5 hb6
                  go_wp2_with fail
                  refine (HD1.out).mono ?_
                  rintro e w' ⟨rfl, k7, rfl⟩
                  go_wp2_with fail
                  refine (HD2.out k7).mono ?_
                  rintro e w' ⟨rfl, k8, rfl⟩
                  obtain ⟨w7, hw7⟩ : ∃ W : World, W = (w6.drewN k7).drewN k8 := ⟨_, rfl⟩
                  have hH7 : Dom w7 w2.heap.size H b q m (el q t * el q t) := by rw [hw7]; exact (hH6.drewN k7).drewN k8
                  have hD7 : Dom w7 w2.heap.size D b q na (el q t) := by rw [hw7]; exact (hD6.drewN k7).drewN k8
                  have hbel7 : Below w.heap.size w w7 := by rw [hw7]; exact below_drewN (below_drewN hbel6 k7) k8
                  have e78 : (w6.drewN k7).drewN k8 = w6.drewN (k7 + k8) := World.drewN_drewN _ _ _
                  first | rw [← hw7] | rw [← e78, ← hw7]
                  clear hw7 e78
                  go_wp2_with fail
                  refine (psub_any q hm b C B nc cc nb cb zs ys HLC.out HLB.out hc.i64 hb.i64 (by omega) (by omega) _ hH7.fld.c0 (hc.sl.below hbel7) (hb.sl.below hbel7)).mono ?_
                  rintro e w8 ⟨v8, rfl, hown8, hb8⟩
                  have hbel8 := hbel7.trans (hb8.mono hbel7.size)
                  have hH8 := hH7.below hb8 hH7.le
                  have hD8 := hD7.below hb8 hD7.le
                  obtain ⟨A8, n8, c8, rfl, hl8, hn8c, _, hs8⟩ := hown8.shapeN
                  have hn8 : n8 ≤ 65536 := by rw [← hl8, List.length_map]; omega
                  have HL8 := Lib.hid hl8
                  clear hl8 hown8
                  have hxI := i64_fv (el q s - el q r) hm
                  go_wp2_with fail
                  refine (inv_any q (by omega) hm b _ hxI _ hH8.fld.c0).mono ?_
                  rintro e w' ⟨rfl, rfl⟩
                  rw [el_fv]
                  obtain ⟨X, hX⟩ : ∃ X, X = Zp.inv (el q s - el q r) := ⟨_, rfl⟩
                  rw [← hX]
                  have HXX := Lib.hid hX
                  clear hX
                  obtain ⟨O0, hO0e⟩ : ∃ O0, O0 = trimL (subL (els q zs) (els q ys)) := ⟨_, rfl⟩
                  rw [← hO0e] at hs8 HL8
                  have hp1 := pmul_one q hm b A8 n8 c8 O0 HL8.out (by omega) hn8c (fv X) (i64_fv X hm) w8 hH8.fld.c0 hs8
                  rw [el_fv] at hp1
                  obtain ⟨O, hOe⟩ : ∃ O, O = trimL (mulL O0 [X]) := ⟨_, rfl⟩
                  have hOl : O.length ≤ 65537 := by
                    have h1 := mulL_trim_length O0 [X]
                    have h2 := HL8.out
                    rw [hOe]; simp at h1 h2 ⊢; omega
                  rw [← hOe] at hp1
                  have HP1 := Lib.hid hp1
                  have HO0E := Lib.hid hO0e
                  have HOE := Lib.hid hOe
                  clear hp1 hO0e hOe
                  go_wp2_with fail
                  refine (HP1.out).mono ?_
                  rintro e w9 ⟨v9, rfl, hown9, hb9⟩
                  have hbel9 := hbel8.trans (hb9.mono hbel8.size)
                  have hH9 := hH8.below hb9 hH8.le
                  have hD9 := hD8.below hb9 hD8.le
                  obtain ⟨A9, n9, c9, rfl, hl9, hn9c, hm9, hs9⟩ := hown9.shapeN
                  have hn9 : n9 ≤ 65537 := by rw [← hl9, List.length_map]; exact hOl
                  have HL9 := Lib.hid hl9
                  clear hl9 hown9 hOl
                  have hp2 := pmul_one q hm b A9 n9 c9 O HL9.out (by omega) hn9c r hr w9 hH9.fld.c0 hs9
                  obtain ⟨E0, hE0e⟩ : ∃ E0, E0 = trimL (mulL O [el q r]) := ⟨_, rfl⟩
                  have hE0l : E0.length ≤ 65538 := by
                    have h1 := mulL_trim_length O [el q r]
                    have h2 := HL9.out
                    rw [hE0e]; simp at h1 h2 ⊢; omega
                  rw [← hE0e] at hp2
                  have HP2 := Lib.hid hp2
                  have HE0E := Lib.hid hE0e
                  clear hp2 hE0e
                  go_wp2_with fail
                  refine (HP2.out).mono ?_
                  rintro e w10 ⟨v10, rfl, hown10, hb10⟩
                  have hbel10 := hbel9.trans (hb10.mono hbel9.size)
                  have hH10 := hH9.below hb10 hH9.le
                  have hD10 := hD9.below hb10 hD9.le
                  have hs9' := hs9.below hb10
                  obtain ⟨A10, n10, c10, rfl, hl10, _, _, hs10⟩ := hown10.shapeN
                  have hn10 : n10 ≤ 65538 := by rw [← hl10, List.length_map]; exact hE0l
                  have HL10 := Lib.hid hl10
                  clear hl10 hown10 hE0l hs8 hs9 hb8 hb9
                  have hsu := psub_any q hm b B A10 nb cb n10 c10 ys (fvs E0) HLB.out HL10.out hb.i64 (i64_fvs _ hm) (by omega) (by omega) w10 hH10.fld.c0 (hb.sl.below hbel10) hs10
                  rw [els_fvs] at hsu
                  obtain ⟨E, hEe⟩ : ∃ E, E = trimL (subL (els q ys) E0) := ⟨_, rfl⟩
                  rw [← hEe] at hsu
                  have HSU := Lib.hid hsu
                  have HEE := Lib.hid hEe
                  clear hsu hEe
                  go_wp2_with fail
                  refine (HSU.out).mono ?_
                  rintro e w11 ⟨v11, rfl, hown11, hb11⟩
                  have hbel11 := hbel10.trans (hb11.mono hbel10.size)
                  have hH11 := hH10.below hb11 hH10.le
                  have hD11 := hD10.below hb11 hD10.le
                  have hs9b := hs9'.below hb11
                  obtain ⟨A11, n11, c11, rfl, hl11, hn11c, hm11, hs11⟩ := hown11.shapeN
                  have hn11 : n11 ≤ 9223372036854775807 := by unfold maxLen at hm11; omega
                  have HL11 := Lib.hid hl11
                  clear hl11 hown11 hs10 hb10 hb11
                  go_wp2
                  go_loopw [36, 37] (fun v i wr => NearRel E O κ w11 v i wr) (fun _ i _ => κ - (intOf i).toNat)
                  case atStart => exact ⟨0, Nat.zero_le _, rfl, World.ownsRow_nil _ _ _ _, Below.refl _ _⟩
                  case round =>
                    obtain ⟨j, hj, rfl, hown, hbj⟩ := hrel
                    by_cases hjk : j < κ
                    · have hjI : I64 (j : Int) := ⟨by omega, by omega⟩
                      have ha1 := fun W hs => at_n A11 n11 c11 (fvs E) HL11.out hn11 (j : Int) hjI W hs
                      have ha2 := fun W hs => at_n A9 n9 c9 (fvs O) HL9.out (by omega) (j : Int) hjI W hs
                      rw [atI_fvs] at ha1 ha2
                      have hws := weave_succ E O j
                      obtain ⟨x0, hx0⟩ : ∃ x, x = co E j := ⟨_, rfl⟩
                      obtain ⟨x1, hx1⟩ : ∃ x, x = co O j := ⟨_, rfl⟩
                      rw [← hx0] at ha1 hws
                      rw [← hx1] at ha2 hws
                      have hwl : (fvs (weave E O j)).length + 2 ≤ 17592186044416 := by rw [List.length_map, weave_length]; omega
                      have HA1 := Lib.hid ha1
                      have HA2 := Lib.hid ha2
                      have HWS := Lib.hid hws
                      have HWL := Lib.hid hwl
                      have hse := hs11.below hbj
                      have hso := hs9b.below hbj
                      clear ha1 ha2 hws hwl hx0 hx1
                      go_wp2_with fail
                      refine (HA1.out _ hse).mono ?_
                      rintro e w' ⟨rfl, rfl⟩
                      go_wp2_with fail
                      refine (HA2.out _ hso).mono ?_
                      rintro e w' ⟨rfl, rfl⟩
                      have hsn := sl_lit wr [fv x0, fv x1]
                      go_wp2_with (at_builtin; refine wpList_appA _ rfl _ _ rfl w11.heap.size _ (fvs (weave E O j)) (some ⟨wr.heap.size, 0, none⟩) 2 2 [fv x0, fv x1] rfl rfl rfl (hown.alloc' _) hsn HWL.out (by simp; have := hbj.size; omega) ?_; intro v' w12 hg)
                      go_roundw
                      case rel =>
                        refine ⟨j + 1, by omega, by go_num, ?_, hg.below (hbj.alloc hbj.size _) (hown.alloc' _) (Nat.le_refl _) (by simp; have := hbj.size; omega)⟩
                        have h1 := hg.own
                        rw [HWS.out, fvs, List.map_append]
                        exact h1
                      case measure => simp [intOf]; omega
                    · obtain rfl : j = κ := by omega
                      obtain ⟨A12, n12, c12, rfl, hl12, _, _, hs12⟩ := hown.shapeN
                      have hn12 : n12 ≤ 65536 := by rw [← hl12, List.length_map, weave_length]; have := HK2.out; omega
                      have hDj := hD11.below hbj hD11.le
                      have hbelj := hbel11.trans (hbj.mono hbel11.size)
                      have hvs := values_n q _ D b na (el q t) A12 n12 c12 (fvs (weave E O j)) hl12 (i64_fvs _ hm) (by omega) wr hDj hs12
                      rw [els_fvs] at hvs
                      have HVS := Lib.hid hvs
                      clear hvs hl12 hown
                      go_wp2_with fail
                      refine (HVS.out).mono ?_
                      rintro e w13 ⟨A13, c13, hl13, rfl, _, _, hs13, hb13⟩
                      have hbel13 := hbelj.trans (hb13.mono hbelj.size)
                      have hD13 := hDj.below hb13 hDj.le
                      have hdl := distance_any q hm b A A13 na ca na c13 xs _ HLA.out hl13 ha.i64 (i64_fvs _ hm) (by omega) (by omega) w13 hD13.fld.c0 (ha.sl.below hbel13) hs13
                      rw [distI_raw xs _ na HLA.out (valL_length _ _ _ _)] at hdl
                      obtain ⟨D3, hD3e⟩ : ∃ D3, D3 = diffN na (co (els q xs)) (co (valL (el q t) (rootI q (na : Int)) na (weave E O j))) := ⟨_, rfl⟩
                      rw [← hD3e] at hdl
                      have hlaw : D3 ≤ 2 * (D1 + D2) := by
                        have hz : ∀ l : List (Fin q), (trimL l).length ≤ j → ∀ i, j ≤ i → co l i = 0 := fun l h i hi => (trimL_le_iff.1 h) i hi
                        have h := near_law hpr h3 hm0 hD13.s0 HORD.out (c := el q r) (d := el q s) HX.out (els q xs) (els q ys) (els q zs) E O (k := j)
                          (fun i => by rw [HEE.out, co_trim, co_subL, HE0E.out, co_trim, co_mulL_one])
                          (fun i => by rw [HOE.out, co_trim, co_mulL_one, HO0E.out, co_trim, co_subL, HXX.out])
                          (hz _ HTA.out) (hz _ HTB.out)
                        rw [← HRH.out, ← HNN.out, ← HE1.out, ← HE2.out, ← hD3e] at h
                        exact h
                      have hD3l : D3 ≤ 65536 := by rw [hD3e]; exact Nat.le_trans (diffN_le _ _ _) (by omega)
                      have HDL := Lib.hid hdl
                      clear hdl hD3e hl13
                      go_wp2_with fail
                      refine (HDL.out).mono ?_
                      rintro e w' ⟨rfl, k14, rfl⟩
                      have hi1 : (D3 : Int) ≤ 2 * ((D1 : Int) + D2) := by omega
                      go_wp2
                      go_ret
                      exact ⟨rfl, below_drewN hbel13 k14⟩
            · have t2 : (k % 2 != 0) = true := by rw [bne_iff_ne]; exact hpar
              clear hpar
              go_wp2; go_ret; exact ⟨rfl, hbel4⟩
    · go_wp2_with fail
      refine (fold_no D n A na ca r (.inr hlen) _ hD.c1).mono ?_
      rintro e w' ⟨rfl, rfl⟩
      go_wp2_with fail
      refine (fold_no D n A na ca s (.inr hlen) _ hD.c1).mono ?_
      rintro e w' ⟨rfl, rfl⟩
      go_wp2_with fail
      refine (HDEGA.out _ hD.fld.c0 (hb.sl.below hbel2)).mono ?_
      rintro e w' ⟨rfl, rfl⟩
      go_wp2_with fail
      refine (HDEGB.out _ hD.fld.c0 (hc.sl.below hbel2)).mono ?_
      rintro e w' ⟨rfl, rfl⟩
      by_cases hx : (fv (el q s - el q r) == 0) = true
      · go_wp2; go_ret; exact ⟨rfl, hbel2⟩
      · have hx' : (fv (el q s - el q r) == 0) = false := by simpa using hx
        clear hx
        go_wp2; go_ret; exact ⟨rfl, hbel2⟩
  · have hpl := fun w => plain5_no p size t hsz ht hF w
    have HPL := Lib.hid hpl
    clear hpl hF
    go_enter Try.func12, Try.ntmps12
    go_wp2_with fail
    refine (lives5_any _).mono ?_
    rintro e w1 ⟨rfl, hb1⟩
    go_wp2_with fail
    refine (HPL.out _).mono ?_
    rintro e w2 ⟨rfl, hb2⟩
    go_wp2
    go_ret
    exact ⟨rfl, hb1.trans (hb2.mono hb1.size)⟩
end Go.Proofs.Ytehgeiaglddabaa
