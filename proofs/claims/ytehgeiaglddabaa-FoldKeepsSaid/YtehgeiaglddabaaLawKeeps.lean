/- The walk of the law FoldKeeps. -/
import Derived.Test.YtehgeiaglddabaaLv5
import Derived.Test.YtehgeiaglddabaaArg
set_option linter.unusedVariables false
namespace Go.Proofs.Ytehgeiaglddabaa
open Go.RowKit Zp

theorem getD_I64 {xs : List Int} (h : ∀ n ∈ xs, I64 n) (k : Nat) : I64 (xs.getD k 0) := by
  rw [List.getD_eq_getElem?_getD]
  cases hx : xs[k]? with
  | none => constructor <;> decide
  | some x => exact h x (List.mem_of_getElem? hx)

theorem addmul_comm {p : Nat} [NeZero p] (a b c : Fin p) : a + c * b = b * c + a := by grind

/-- what the loop that folds the polynomial knows -/
def KeepsRel (q : Nat) [NeZero q] (r : Fin q) (xs : List Int) (w : World) (w4 : World) (v i : Value) (wr : World) : Prop :=
  ∃ k : Nat, k ≤ (xs.length + 1) / 2 ∧ i = vi ((2 * k : Nat) : Int) ∧ Own wr w4.heap.size v (fvs (tab k (fun t => co (els q xs) (2 * t) + r * co (els q xs) (2 * t + 1)))) ∧ Below w4.heap.size w4 wr

set_option maxRecDepth 100000 in
set_option maxHeartbeats 4000000 in
theorem keeps_walk (w : World) (p : Int) (hp : I64 p) (size : Int) (hsz : I64 size) (t : Int) (ht : I64 t) (A : Option Addr) (na ca : Nat) (xs : List Int) (ha : ArgS w A na ca xs) (r : Int) (hr : I64 r) :
    Calls Try.prog 9 #[vi p, vi size, vi t, .slice A na ca, vi r] w fun e w' => SaysW (.bool true) w e w' := by
  have hra := ha.r8
  have hla := ha.len
  rw [hla] at hra
  have HLA := Lib.hid hla
  clear hla
  by_cases hF : HasHalf p size t
  · obtain ⟨q, m, rfl, hm0, rfl, h3, hm, hpr, hsn, h0⟩ := hF.parts
    haveI := hpr.ne
    have hpl := fun w => plain5_yes q m t ht hpr h3 hm hm0 hsn h0 w
    have HPL := Lib.hid hpl
    have hn1 := hsn.le
    have hord := rootI_ord hpr hsn.pos hsn.2
    have HORD := Lib.hid hord
    have hrh := rootI_half hm0 hsn.2 (by omega)
    have HRH := Lib.hid hrh
    clear hpl hF hord h0 hrh
    obtain ⟨n, hnn⟩ : ∃ n, n = 2 * m := ⟨_, rfl⟩
    rw [← hnn] at HPL ⊢
    have HNN := Lib.hid hnn
    clear hnn
    go_enter Try.func9, Try.ntmps9
    go_wp2_with fail
    refine (lives5_any _).mono ?_
    rintro e w1 ⟨rfl, hb1⟩
    go_wp2_with fail
    refine (HPL.out _).mono ?_
    rintro e w2 ⟨b, D, H, rfl, hD, hH, hb2⟩
    have hbel2 := hb1.trans (hb2.mono hb1.size)
    rw [← HNN.out] at hD
    clear hb1 hb2
    go_wp2_with fail
    refine (values_n q _ D b n _ A _ ca xs HLA.out ha.i64 (by omega) _ hD (ha.sl.below hbel2)).mono ?_
    rintro e w3 ⟨A3, c3, hl3, rfl, _, _, hs3, hb3⟩
    have hD3 := hD.below hb3 (Nat.le_refl _)
    have hH3 := hH.below hb3 (Nat.le_refl _)
    have hbel3 := hbel2.trans (hb3.mono hbel2.size)
    have HL3 := Lib.hid hl3
    clear hl3
    have hfold := fold_any q _ D b n m HNN.out hm0 (el q t) A3 c3 _ HL3.out (i64_fvs _ hm) r hr w3 hD3 hs3
    have HFOLD := Lib.hid hfold
    clear hfold
    go_wp2_with fail
    refine (HFOLD.out).mono ?_
    rintro e w4 ⟨v4, rfl, hown4, hb4⟩
    have hbel4 := hbel3.trans (hb4.mono hbel3.size)
    have hH4 := hH3.below hb4 hH3.le
    have hsx4 := ha.sl.below hbel4
    have hcb := hH4.fld.c0
    have hbl : b < w4.heap.size := Nat.lt_of_lt_of_le hH4.fld.lt hH4.fld.le
    obtain ⟨A4, n4, c4, rfl, hl4, hl4a, hl4b, hs4⟩ := hown4.shapeN
    have hl4b : n4 ≤ 9223372036854775807 := by unfold maxLen at hl4b; omega
    have HL4 := Lib.hid hl4
    clear hl4
    rw [els_fvs, HNN.out, fold_vals hpr h3 hm0 hD3.s0 HORD.out] at hs4 HL4
    clear hown4
    go_wp2
    go_loopw [18, 19] (fun v i wr => KeepsRel q (el q r) xs w w4 v i wr) (fun _ i _ => na + 2 - (intOf i).toNat)
    case atStart => exact ⟨0, Nat.zero_le _, rfl, World.ownsRow_nil _ _ _ _, Below.refl _ _⟩
    case round =>
      obtain ⟨k, hk, rfl, hown, hb⟩ := hrel
      rw [HLA.out] at hk
      obtain ⟨u, hu⟩ : ∃ u, u = 2 * k := ⟨_, rfl⟩
      rw [← hu]
      have HU := Lib.hid hu
      have hcr := (hb.cell (p := ⟨b, 0, none⟩) hbl).trans hcb
      have hsx := hsx4.below hb
      by_cases hlt : u < na
      · have hux : u < xs.length := by rw [HLA.out]; exact hlt
        obtain ⟨ad, rfl, _, hcell⟩ := hsx.at_ hux
        have ix := ha.i64 _ (List.getElem_mem hux)
        have hgx : xs.getD u 0 = xs[u] := by rw [List.getD_eq_getElem?_getD, List.getElem?_eq_getElem hux]; rfl
        have hat : atI xs ((u : Int) + 1) = xs.getD (u + 1) 0 := by rw [atI, if_pos (by omega)]; rfl
        have hatc := fun W hs => at_any (some ad) ca xs (by rw [HLA.out]; omega) ((u : Int) + 1) (by constructor <;> omega) W hs
        rw [hat, HLA.out] at hatc
        have iy := getD_I64 ha.i64 (u + 1)
        have hts := tab_succ k (fun t => co (els q xs) (2 * t) + el q r * co (els q xs) (2 * t + 1))
        have hco : co (els q xs) (2 * k) + el q r * co (els q xs) (2 * k + 1) = el q (xs.getD (u + 1) 0) * el q r + el q xs[u] := by
          rw [co_els, co_els, ← hu, hgx]; exact addmul_comm _ _ _
        rw [hco] at hts
        obtain ⟨x, hx⟩ : ∃ x, x = xs[u] := ⟨_, rfl⟩
        obtain ⟨y, hy⟩ : ∃ y, y = xs.getD (u + 1) 0 := ⟨_, rfl⟩
        rw [← hx] at hcell ix hts
        rw [← hy] at hatc iy hts
        obtain ⟨Z, hZ⟩ : ∃ Z, Z = el q y * el q r + el q x := ⟨_, rfl⟩
        rw [← hZ] at hts
        have hadd := fun W hc => add_any q hm b (fv (el q y * el q r)) x (i64_fv _ hm) ix W hc
        rw [el_fv, ← hZ] at hadd
        have hln : (fvs (tab k (fun t => co (els q xs) (2 * t) + el q r * co (els q xs) (2 * t + 1)))).length < 17592186044416 := by rw [List.length_map, tab_length]; omega
        have HATC := Lib.hid hatc
        have HADD := Lib.hid hadd
        have HTS := Lib.hid hts
        have HLN := Lib.hid hln
        clear hatc hadd hts hln hco hat hgx hx hy hZ hu
        go_wp2_with fail
        refine (HATC.out _ hsx).mono ?_
        rintro e w' ⟨rfl, rfl⟩
        go_wp2_with fail
        refine (mul_any q hm b y r iy hr _ hcr).mono ?_
        rintro e w' ⟨rfl, k5, rfl⟩
        go_wp2_with fail
        refine (HADD.out _ (by exact hcr)).mono ?_
        rintro e w' ⟨rfl, k6, rfl⟩
        go_wp2_with (at_builtin; refine wpList_app1 _ (fv Z) rfl _ _ rfl w4.heap.size _ _ rfl rfl (hown.drewN _) HLN.out hb.size ?_; intro v' w6 hg)
        go_roundw
        case rel =>
          refine ⟨k + 1, by rw [HLA.out]; have := HU.out; omega, ?_, ?_, hg.below (below_drewN hb _) (hown.drewN _) (Nat.le_refl _) hb.size⟩
          · rw [HU.out]; go_num
          · rw [HTS.out]
            have := hg.own
            rwa [fvs, List.map_append]
        case measure => simp [intOf]; omega
      · have hkk : k = (na + 1) / 2 := by have := HU.out; omega
        have etab : tab k (fun t => co (els q xs) (2 * t) + el q r * co (els q xs) (2 * t + 1)) = foldP (el q r) (els q xs) := by rw [foldP, List.length_map, HLA.out, ← hkk]
        rw [etab] at hown
        obtain ⟨A5, n5, c5, rfl, hl5, _, _, hs5⟩ := hown.shapeN
        have hn5 : n5 * 8 ≤ 281474976710656 := by
          rw [← hl5, List.length_map, foldP, tab_length, List.length_map, HLA.out]; omega
        have hH6 := hH4.below hb hH4.le
        have hvals := values_n q _ H b m (el q t * el q t) A5 n5 c5 _ hl5 (i64_fvs _ hm) hn5 wr hH6 hs5
        rw [els_fvs, HRH.out] at hvals
        have HVALS := Lib.hid hvals
        have hs4' := hs4.below hb
        clear hvals hl5 hn5 etab hkk hown hu
        go_wp2_with fail
        refine (HVALS.out).mono ?_
        rintro e w7 ⟨A7, c7, hl7, rfl, _, _, hs7, hb7⟩
        have hints := ints_n A4 A7 n4 c4 m c7 _ _ HL4.out hl7 hl4b (by omega) w7 (hs4'.below hb7) hs7
        rw [eqB_true rfl] at hints
        have HINTS := Lib.hid hints
        clear hints hl7
        go_wp2_with fail
        refine (HINTS.out).mono ?_
        rintro e w8 ⟨rfl, k8, rfl⟩
        go_wp2
        go_ret
        have hb9 := hb.trans (hb7.mono hb.size)
        exact ⟨rfl, below_drewN (hbel4.trans (hb9.mono hbel4.size)) _⟩
  · have hpl := fun w => plain5_no p size t hsz ht hF w
    have HPL := Lib.hid hpl
    clear hpl hF
    go_enter Try.func9, Try.ntmps9
    go_wp2_with fail
    refine (lives5_any _).mono ?_
    rintro e w1 ⟨rfl, hb1⟩
    go_wp2_with fail
    refine (HPL.out _).mono ?_
    rintro e w2 ⟨rfl, hb2⟩
    go_wp2
    go_ret
    exact ⟨rfl, hb1.trans (hb2.mono hb1.size)⟩
end Go.Proofs.Ytehgeiaglddabaa
