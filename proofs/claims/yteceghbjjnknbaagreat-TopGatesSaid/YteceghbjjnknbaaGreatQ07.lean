/- A bundle of texts: Gw3, Gw7, Gw8, Gk3, Gv, Gw4, Rb, Hr, Hp, Rs, Hh, Rch, Rt1, Nd, Ne, Nf, Ng, Cp, Wk, Wl. -/
import Derived.Test.YteceghbjjnknbaaGreatQ05
import Derived.Test.YteceghbjjnknbaaGreatQ00
import Derived.Test.YteceghbjjnknbaaGreatQ06
import Derived.Test.YteceghbjjnknbaaGreatQ01
import Derived.Test.YteceghbjjnknbaaGreatQ02
import Derived.Test.YteceghbjjnknbaaGreatQ04
import Derived.BigQuiet
import Derived.Deep.DeepCutAuto
import Derived.Deep.LoopGhost
import Derived.Deep.QuietTactic
import Derived.IntWalk
set_option linter.unusedVariables false
set_option linter.unusedSimpArgs false
namespace Go.Proofs.YteceghbjjnknbaaGreat
open Go.RowKit Zp
def gI (g : GateR) : GateI := ⟨g.k.toNat, g.a.toNat, g.b.toNat⟩
def GNn (gs : List GateR) : Prop := ∀ g ∈ gs, 0 ≤ g.k ∧ 0 ≤ g.a ∧ 0 ≤ g.b
section
variable {p : Nat} [NeZero p]
def wiE (L : List GateI) (k : Nat) (z x y : List (Fin p)) (i : Nat) : Fin p := if (L.getD i ⟨0, 0, 0⟩).k = k then wtL z i * (wtL x (L.getD i ⟨0, 0, 0⟩).a * wtL y (L.getD i ⟨0, 0, 0⟩).b) else 0
theorem wireE_eq (L : List GateI) (k : Nat) (z x y : List (Fin p)) : wireE L k z x y = sumT L.length (wiE L k z x y) := rfl
end
theorem new3_cell (w : World) (a b c : Value) (t : Nat) : (w.alloc (.cells #[a, b, c] t)).cell? ⟨w.heap.size, 1, none⟩ = some b ∧ (w.alloc (.cells #[a, b, c] t)).cell? ⟨w.heap.size, 2, none⟩ = some c := by
  have h : (w.alloc (.cells #[a, b, c] t)).heap[w.heap.size]? = some (.cells #[a, b, c] t) := by simp only [World.alloc]; exact Array.getElem?_push_size
  unfold World.cell?
  simp only [h]
  exact ⟨rfl, rfl⟩
set_option maxRecDepth 100000 in
set_option maxHeartbeats 4000000 in
theorem wire_any (p S b : Nat) [NeZero p] (wide : Int) (AL : Option Addr) (nL cL : Nat) (Ls : List (List GateR)) (li : Nat) (hli : li < Ls.length) (hLn : Ls.length = nL) (hGn : GNn Ls[li]) (hgl : Ls[li].length ≤ 64) (kk : Nat) (hkk : kk ≤ 1)
    (A B C : Option Addr) (nA cA nB cB nC cC : Nat) (zs xs ys : List Int) (hlz : zs.length = nA) (hlx : xs.length = nB) (hly : ys.length = nC) (hnA : nA ≤ 64) (hnB : nB ≤ 64) (hnC : nC ≤ 64) (hIz : ∀ x ∈ zs, I64 x) (hIx : ∀ x ∈ xs, I64 x) (hIy : ∀ x ∈ ys, I64 x)
    (w : World) (F : Fld w S b p) (hLT : LT w AL Ls) (hsz : SL w A zs) (hsx : SL w B xs) (hsy : SL w C ys) :
    Calls Tryz.prog 76 #[.pointer (some ⟨b, 0, none⟩), .agg #[vi wide, .slice AL nL cL], vi li, vi kk, .slice A nA cA, .slice B nB cB, .slice C nC cC] w fun e w' => e = .returned (vi (fv (wireE (Ls[li].map gI) kk (els p zs) (els p xs) (els p ys)))) ∧ Below w.heap.size w w' := by
  have hp1 := F.two
  have hp2 := F.max
  have hcb := F.c0
  obtain ⟨al, A1, n1, c1, rfl, hal, hcl, hl1, hl2, hGT⟩ := hLT li hli
  obtain ⟨gs, hgs⟩ : ∃ gs, gs = Ls[li] := ⟨_, rfl⟩
  rw [← hgs] at hGn hgl hl1 hGT ⊢
  have k1 : (0 : Int) ≤ (li : Int) := by omega
  have k2 : (li : Int) < (nL : Int) := by omega
  have HC := Lib.hid hcb
  have HBL : Hid (b < w.heap.size) := Lib.hid (block_lt_of_cell hcb)
  have HU1 := Lib.hid (fun (i : Nat) (hi : i ≤ 64) W hc hs => unit_any p hp2 hp1 b i (by omega) A nA cA zs hlz hnA hIz W hc hs)
  have HU2 := Lib.hid (fun (i : Nat) (hi : i ≤ 9223372036854775807) W hc hs => unit_any p hp2 hp1 b i hi B nB cB xs hlx hnB hIx W hc hs)
  have HU3 := Lib.hid (fun (i : Nat) (hi : i ≤ 9223372036854775807) W hc hs => unit_any p hp2 hp1 b i hi C nC cC ys hly hnC hIy W hc hs)
  have HZ := Lib.hid hsz
  have HX := Lib.hid hsx
  have HY := Lib.hid hsy
  have HG := Lib.hid hGT
  have HN := Lib.hid hGn
  have HL1 := Lib.hid hl1
  have HW := Lib.hid (wireE_eq (gs.map gI) kk (els p zs) (els p xs) (els p ys))
  obtain ⟨f, hf⟩ : ∃ f, f = wiE (gs.map gI) kk (els p zs) (els p xs) (els p ys) := ⟨_, rfl⟩
  have HF := Lib.hid hf
  rw [← hf] at HW
  have hn64 : n1 ≤ 64 := by omega
  have hb0 : Below w.heap.size w (w.alloc (.cells #[vi wide, .slice (some al) nL cL] 24)) := (Below.refl _ _).alloc (Nat.le_refl _) _
  have hcl1 : (w.alloc (.cells #[vi wide, .slice (some al) nL cL] 24)).cell? (al.add li) = some (.slice A1 n1 c1) := (hb0.cell (by rw [block_of_add]; exact hal)).trans hcl
  clear hcb hLT hsz hsx hsy hGT hGn hl1 hf F hlz hlx hly hIz hIx hIy hgs hli hLn
  go_enter Tryz.func76, Tryz.ntmps76
  go_wp2
  go_loopw [15, 25] (fun v i wr => ∃ t : Nat, t ≤ n1 ∧ v = vi (fv (sumT t f)) ∧ i = vi t ∧ Below w.heap.size w wr) (fun _ i _ => n1 - (intOf i).toNat)
  case atStart => exact ⟨0, Nat.zero_le _, by rw [sumT, fv_zero], rfl, hb0⟩
  case round =>
    obtain ⟨t, ht, rfl, rfl, hb⟩ := hrel
    by_cases htn : t < n1
    · have htg : t < gs.length := by rw [HL1.out]; exact htn
      obtain ⟨ad, rfl, hE⟩ := (HG.out.below hb) t htg
      obtain ⟨d0, d1, d2⟩ := hE.cells
      obtain ⟨-, -, -, -, I0, I1, I2⟩ := hE
      obtain ⟨m0, m1, m2⟩ := HN.out _ (List.getElem_mem htg)
      have hft : f t = if gs[t].k.toNat = kk then wtL (els p zs) t * (wtL (els p xs) gs[t].a.toNat * wtL (els p ys) gs[t].b.toNat) else 0 := by
        rw [HF.out, wiE, List.getD_eq_getElem?_getD, List.getElem?_map, List.getElem?_eq_getElem htg]
        rfl
      generalize gs[t] = g at d0 d1 d2 I0 I1 I2 m0 m1 m2 hft
      obtain ⟨g0, g1, g2⟩ := g
      obtain ⟨g0, rfl⟩ := Int.eq_ofNat_of_zero_le m0
      obtain ⟨g1, rfl⟩ := Int.eq_ofNat_of_zero_le m1
      obtain ⟨g2, rfl⟩ := Int.eq_ofNat_of_zero_le m2
      simp only [Int.toNat_natCast] at hft d0 d1 d2 I0 I1 I2 m0 m1 m2
      have j1 : (0 : Int) ≤ (t : Int) := by omega
      have j2 : (t : Int) < (n1 : Int) := by omega
      have a1 := I1.2
      have a2 := I2.2
      have hb4 : Below w.heap.size w (wr.alloc (.cells #[vi g0, vi g1, vi g2] 61)) := hb.alloc hb.size _
      have hq := new3_cell wr (vi g0) (vi g1) (vi g2) 61
      have hsz4 : wr.heap.size < (wr.alloc (.cells #[vi g0, vi g1, vi g2] 61)).heap.size := by show wr.heap.size < (wr.heap.push _).size; rw [Array.size_push]; exact Nat.lt_succ_self _
      have KX : Hid (∀ W', Below (wr.alloc (.cells #[vi g0, vi g1, vi g2] 61)).heap.size (wr.alloc (.cells #[vi g0, vi g1, vi g2] 61)) W' → Below w.heap.size w W' ∧ W'.cell? ⟨b, 0, none⟩ = some (vi p) ∧ SL W' A zs ∧ SL W' B xs ∧ SL W' C ys) := Lib.hid fun W' hb' => by
        have h := hb4.trans (hb'.mono hb4.size)
        exact ⟨h, (h.cell (p := ⟨b, 0, none⟩) HBL.out).trans HC.out, HZ.out.below h, HX.out.below h, HY.out.below h⟩
      have KS : Hid (∀ W', Below (wr.alloc (.cells #[vi g0, vi g1, vi g2] 61)).heap.size (wr.alloc (.cells #[vi g0, vi g1, vi g2] 61)) W' → W'.cell? ⟨wr.heap.size, 1, none⟩ = some (vi g1) ∧ W'.cell? ⟨wr.heap.size, 2, none⟩ = some (vi g2)) := Lib.hid fun W' hb' => ⟨(hb'.cell (p := ⟨wr.heap.size, 1, none⟩) hsz4).trans hq.1, (hb'.cell (p := ⟨wr.heap.size, 2, none⟩) hsz4).trans hq.2⟩
      have hb66 : Below (wr.alloc (.cells #[vi g0, vi g1, vi g2] 61)).heap.size (wr.alloc (.cells #[vi g0, vi g1, vi g2] 61)) (wr.alloc (.cells #[vi g0, vi g1, vi g2] 61)).drew := below_drewN (Below.refl _ _) 1
      clear hq hsz4
      by_cases hk : g0 = kk
      · rw [if_pos hk] at hft
        have t1 : ((g0 : Int) != (kk : Int)) = false := by rw [hk]; simp
        have hst : sumT (t + 1) f = sumT t f + wtL (els p zs) t * (wtL (els p xs) g1 * wtL (els p ys) g2) := by rw [sumT_succ, hft]
        have HST := Lib.hid hst
        clear hst hft hk
        go_wp2_with fail
        refine wp_region_held_drew (S := fun W' => W'.cell? ⟨wr.heap.size, 1, none⟩ = some (vi g1) ∧ W'.cell? ⟨wr.heap.size, 2, none⟩ = some (vi g2)) (by kernel_rfl) (KS.out _ hb66) (fun hHeld => ?_)
        refine tkH 0 ?_
        refine tkH 1 ?_
        refine tkH 2 ?_
        refine tkH 3 ?_
        refine tkH 5 ?_
        refine tkH 6 ?_
        refine tkH 7 ?_
        refine tkH 8 ?_
        refine tkH 9 ?_
        refine tkH 11 ?_
        refine tkH 12 ?_
        refine tkH 13 ?_
        refine tkH 14 ?_
        refine stH 4 (fun K hK => ?_)
        go_simp
        refine (HU1.out t (by omega) _ (KX.out _ hb66).2.1 (KX.out _ hb66).2.2.1).mono ?_
        rintro _ w5 ⟨rfl, k5, h5⟩
        have hb5 : Below (wr.alloc (.cells #[vi g0, vi g1, vi g2] 61)).heap.size (wr.alloc (.cells #[vi g0, vi g1, vi g2] 61)) w5 := by rw [h5]; exact below_drewN hb66 _
        clear h5
        refine hK.out _ _ (by (first | exact KS.out _ (by assumption) | (simp only [Act.put]; exact KS.out _ (by assumption)))) (fun hHeld => ?_)
        clear hK K
        (try simp only [Act.put, List.setIfInBounds_toArray, List.set_cons_zero, List.set_cons_succ])
        refine stH 10 (fun K hK => ?_)
        go_simp
        refine (HU2.out g1 (by omega) _ (KX.out _ hb5).2.1 (KX.out _ hb5).2.2.2.1).mono ?_
        rintro _ w6 ⟨rfl, k6, h6⟩
        have hb6 : Below (wr.alloc (.cells #[vi g0, vi g1, vi g2] 61)).heap.size (wr.alloc (.cells #[vi g0, vi g1, vi g2] 61)) w6 := by rw [h6]; exact below_drewN hb5 _
        clear h6
        refine hK.out _ _ (by (first | exact KS.out _ (by assumption) | (simp only [Act.put]; exact KS.out _ (by assumption)))) (fun hHeld => ?_)
        clear hK K
        (try simp only [Act.put, List.setIfInBounds_toArray, List.set_cons_zero, List.set_cons_succ])
        refine stH 15 (fun K hK => ?_)
        go_simp
        refine (HU3.out g2 (by omega) _ (KX.out _ hb6).2.1 (KX.out _ hb6).2.2.2.2).mono ?_
        rintro _ w7 ⟨rfl, k7, h7⟩
        have hb7 : Below (wr.alloc (.cells #[vi g0, vi g1, vi g2] 61)).heap.size (wr.alloc (.cells #[vi g0, vi g1, vi g2] 61)) w7 := by rw [h7]; exact below_drewN hb6 _
        clear h7
        refine hK.out _ _ (by (first | exact KS.out _ (by assumption) | (simp only [Act.put]; exact KS.out _ (by assumption)))) (fun hHeld => ?_)
        clear hK K
        (try simp only [Act.put, List.setIfInBounds_toArray, List.set_cons_zero, List.set_cons_succ])
        refine stH 16 (fun K hK => ?_)
        go_simp
        refine (mul_any p hp2 b _ _ (i64_fv _ hp2) (i64_fv _ hp2) _ (KX.out _ hb7).2.1).mono ?_
        rintro _ w8 ⟨rfl, k8, h8⟩
        have hb8 : Below (wr.alloc (.cells #[vi g0, vi g1, vi g2] 61)).heap.size (wr.alloc (.cells #[vi g0, vi g1, vi g2] 61)) w8 := by rw [h8]; exact below_drewN hb7 _
        clear h8
        refine hK.out _ _ (by (first | exact KS.out _ (by assumption) | (simp only [Act.put]; exact KS.out _ (by assumption)))) (fun hHeld => ?_)
        clear hK K
        (try simp only [Act.put, List.setIfInBounds_toArray, List.set_cons_zero, List.set_cons_succ])
        refine stH 17 (fun K hK => ?_)
        go_simp
        refine (mul_any p hp2 b _ _ (i64_fv _ hp2) (i64_fv _ hp2) _ (KX.out _ hb8).2.1).mono ?_
        rintro _ w9 ⟨rfl, k9, h9⟩
        have hb9 : Below (wr.alloc (.cells #[vi g0, vi g1, vi g2] 61)).heap.size (wr.alloc (.cells #[vi g0, vi g1, vi g2] 61)) w9 := by rw [h9]; exact below_drewN hb8 _
        clear h9
        refine hK.out _ _ (by (first | exact KS.out _ (by assumption) | (simp only [Act.put]; exact KS.out _ (by assumption)))) (fun hHeld => ?_)
        clear hK K
        (try simp only [Act.put, List.setIfInBounds_toArray, List.set_cons_zero, List.set_cons_succ])
        refine tkH 18 ?_
        refine wpAnyH_done (by kernel_rfl) ?_ _
        have HX9 := Lib.hid (KX.out _ hb9)
        clear hHeld KS hb66 hb5 hb6 hb7 hb8 hb9
        go_wp2_with (go_at_call 73; refine (add_any p hp2 b _ _ (i64_fv _ hp2) (i64_fv _ hp2) _ (by exact HX9.out.2.1)).mono ?_; rintro e w' ⟨rfl, k5, rfl⟩)
        go_roundw
        case rel => exact ⟨t + 1, by omega, by rw [HST.out]; simp only [el_fv], by go_num, below_drewN HX9.out.1 _⟩
        case measure => simp only [intOf, Int.toNat_natCast]; omega
      · rw [if_neg hk] at hft
        have t1 : ((g0 : Int) != (kk : Int)) = true := by rw [bne_iff_ne]; omega
        have hst : sumT (t + 1) f = sumT t f := by rw [sumT_succ, hft]; grind
        have HST := Lib.hid hst
        clear hst hft hk
        go_wp2
        exact ⟨⟨t + 1, by omega, by rw [HST.out], by go_num, hb4⟩, by simp only [intOf]; omega⟩
    · obtain rfl : t = n1 := by omega
      go_wp2
      go_ret
      exact ⟨by rw [HW.out, List.length_map, HL1.out]; rfl, hb⟩
end Go.Proofs.YteceghbjjnknbaaGreat

namespace Go.Proofs.YteceghbjjnknbaaGreat
open Go.RowKit Zp
def idxG (P : List GateR → Bool) (ts : List (List GateR)) : Int := if ts.any P then ((ts.findIdx P : Nat) : Int) else -1
theorem idxG_no {P : List GateR → Bool} {ts : List (List GateR)} (h : ts.any P = false) : idxG P ts = -1 := by unfold idxG; rw [h]; rfl
theorem idxG_yes {P : List GateR → Bool} {ts : List (List GateR)} {k : Nat} (h : ts.any P = true) (hk : ts.findIdx P = k) : idxG P ts = k := by unfold idxG; rw [h, hk]; rfl
set_option maxRecDepth 100000 in
set_option maxHeartbeats 1000000 in
theorem indexG_any (K : Nat) (hK : ∀ (args : Array Value) (w : World), (callFunc K args).run Tryz.prog w = .ok (.enter K args) w) (P : List GateR → Bool) (A : Option Addr) (N c : Nat) (ts : List (List GateR)) (hN : ts.length = N) (hN2 : N ≤ 9223372036854775806)
    (w : World) (hY : ∀ (A1 : Option Addr) (n1 c1 : Nat) (x : List GateR), x.length = n1 → n1 ≤ 9223372036854775807 → GT w A1 x → Calls Tryz.prog K #[.slice A1 n1 c1] w fun e w' => e = .returned (.bool (P x)) ∧ w = w') (hT : LT w A ts) :
    Calls Tryz.prog 102 #[.slice A N c, .func (.func K) #[] #[]] w fun e w' => e = .returned (vi (idxG P ts)) ∧ w = w' := by
  have HN := Lib.hid hN
  have HT := Lib.hid hT
  have HY := Lib.hid hY
  clear hN hT hY
  go_enter Tryz.func102, Tryz.ntmps102
  go_wp2
  go_loop [8] (fun i => ∃ k : Nat, k ≤ N ∧ i = vi k ∧ ∀ j (h : j < ts.length), j < k → P ts[j] = false) (fun i => N - (intOf i).toNat)
  case atStart => exact ⟨0, Nat.zero_le _, rfl, fun j _ hj => absurd hj (Nat.not_lt_zero _)⟩
  case round =>
    obtain ⟨k, hk, rfl, hb⟩ := hrel
    have HB := Lib.hid hb
    clear hb
    by_cases hlt : k < N
    · have hkt : k < ts.length := by rw [HN.out]; exact hlt
      obtain ⟨ad, A1, n1, c1, rfl, hb1, hc1, hl1, hn1, hs1⟩ := HT.out k hkt
      have i1 : (0 : Int) ≤ k := by omega
      have i2 : (k : Int) < N := by omega
      have i3 : (k : Int) + 1 ≤ 9223372036854775807 := by omega
      have hyk := HY.out A1 n1 c1 _ hl1 (by omega) hs1
      obtain ⟨x, hx⟩ : ∃ x, x = ts[k] := ⟨_, rfl⟩
      rw [← hx] at hyk
      have HYK := Lib.hid hyk
      have HX := Lib.hid hx
      clear hl1 hs1 hx hyk
      by_cases hp : P x = true
      · have HR : Hid (idxG P ts = k) := Lib.hid (by
          have hpk : P ts[k] = true := by rw [← HX.out]; exact hp
          exact idxG_yes (List.any_eq_true.2 ⟨_, List.getElem_mem hkt, hpk⟩) (by
            rw [List.findIdx_eq hkt]
            exact ⟨hpk, fun j hj => by simpa using HB.out j (by omega) hj⟩))
        have HP := Lib.hid hp
        clear hp
        go_wp2_with fail
        refine HYK.out.mono ?_
        rintro _ _ ⟨rfl, rfl⟩
        rw [HP.out]
        go_wp2
        go_ret
        exact ⟨ret_int HR.out.symm, rfl⟩
      · have HP := Lib.hid (show P x = false by simpa using hp)
        have HBB : Hid (∀ j (h : j < ts.length), j < k + 1 → P ts[j] = false) := Lib.hid (fun j h hj => by
          by_cases e : j < k
          · exact HB.out j h e
          · obtain rfl : j = k := by omega
            rw [← HX.out]; exact HP.out)
        clear hp
        go_wp2_with fail
        refine HYK.out.mono ?_
        rintro _ _ ⟨rfl, rfl⟩
        rw [HP.out]
        go_wp2
        go_round
        case rel => exact ⟨k + 1, by omega, by go_num, HBB.out⟩
        case measure => simp [intOf]; omega
    · obtain rfl : k = N := by omega
      have HR : Hid (idxG P ts = -1) := Lib.hid (idxG_no (by
        rw [Bool.eq_false_iff]
        intro h
        obtain ⟨x, hx, hp⟩ := List.any_eq_true.1 h
        obtain ⟨j, hj, rfl⟩ := List.mem_iff_getElem.1 hx
        rw [HB.out j hj (by rw [← HN.out]; exact hj)] at hp
        cases hp))
      go_wp2
      go_ret
      exact ⟨ret_int HR.out.symm, rfl⟩
theorem containsG_any (K : Nat) (hK : ∀ (args : Array Value) (w : World), (callFunc K args).run Tryz.prog w = .ok (.enter K args) w) (P : List GateR → Bool) (A : Option Addr) (N c : Nat) (ts : List (List GateR)) (hN : ts.length = N) (hN2 : N ≤ 9223372036854775806)
    (w : World) (hY : ∀ (A1 : Option Addr) (n1 c1 : Nat) (x : List GateR), x.length = n1 → n1 ≤ 9223372036854775807 → GT w A1 x → Calls Tryz.prog K #[.slice A1 n1 c1] w fun e w' => e = .returned (.bool (P x)) ∧ w = w') (hT : LT w A ts) :
    Calls Tryz.prog 67 #[.slice A N c, .func (.func K) #[] #[]] w fun e w' => e = .returned (.bool (ts.any P)) ∧ w = w' := by
  have HI := Lib.hid (indexG_any K hK P A N c ts hN hN2 w hY hT)
  clear hY hT hN
  cases hb : ts.any P
  · rw [idxG_no hb] at HI
    clear hb
    go_enter Tryz.func67, Tryz.ntmps67
    go_wp2_with fail
    refine HI.out.mono ?_
    rintro _ _ ⟨rfl, rfl⟩
    go_wp2
    go_ret
    exact ⟨by simp, rfl⟩
  · obtain ⟨t, ht⟩ : ∃ t, ts.findIdx P = t := ⟨_, rfl⟩
    rw [idxG_yes hb ht] at HI
    have h0 : (0 : Int) ≤ (t : Int) := by omega
    clear hb ht
    go_enter Tryz.func67, Tryz.ntmps67
    go_wp2_with fail
    refine HI.out.mono ?_
    rintro _ _ ⟨rfl, rfl⟩
    go_wp2
    go_ret
    exact ⟨by simp, rfl⟩
theorem checked1_any (A1 : Option Addr) (n1 c1 : Nat) (x : List GateR) (hx : x.length = n1) (hn : n1 ≤ 9223372036854775807) (w : World) :
    Calls Tryz.prog 68 #[.slice A1 n1 c1] w fun e w' => e = .returned (.bool (!decide (LayN x.length))) ∧ w = w' := by
  rw [hx]
  by_cases h : LayN n1
  · have HZ := Lib.hid (fun W => size_lay n1 h W)
    have t1 : ¬ ((layV n1 : Nat) : Int) < 0 := by omega
    have HR := Lib.hid (show (!decide (LayN n1)) = false by simp [h])
    clear h
    go_enter Tryz.func68, Tryz.ntmps68
    go_wp2_with fail
    refine (HZ.out _).mono ?_
    rintro _ _ ⟨rfl, rfl⟩
    go_wp2
    go_ret
    exact ⟨ret_bool HR.out.symm, rfl⟩
  · have HZ := Lib.hid (fun W => size_no n1 (by omega) h W)
    have HR := Lib.hid (show (!decide (LayN n1)) = true by simp [h])
    clear h
    go_enter Tryz.func68, Tryz.ntmps68
    go_wp2_with fail
    refine (HZ.out _).mono ?_
    rintro _ _ ⟨rfl, rfl⟩
    go_wp2
    go_ret
    exact ⟨ret_bool HR.out.symm, rfl⟩
end Go.Proofs.YteceghbjjnknbaaGreat

namespace Go.Proofs.YteceghbjjnknbaaGreat
open Go.RowKit Zp
def benR (wide : Int) (Ls : List (List GateR)) (t : Nat) : Int := if t = 0 then 2 ^ wide.toNat else ((Ls.getD (t - 1) []).length : Int)
def GokR (ben : Int) (g : GateR) : Prop := (g.k = 0 ∨ g.k = 1) ∧ 0 ≤ g.a ∧ g.a < ben ∧ 0 ≤ g.b ∧ g.b < ben
structure CirR (wide : Int) (Ls : List (List GateR)) : Prop where
  w0 : 0 ≤ wide
  w6 : wide ≤ 6
  n1 : 1 ≤ Ls.length
  n8 : Ls.length ≤ 8
  lay : ∀ l ∈ Ls, LayN l.length
  gate : ∀ t (h : t < Ls.length), ∀ g ∈ Ls[t], GokR (benR wide Ls t) g
def CkR (wide : Int) (Ls : List (List GateR)) (w : World) (e : Ending) (w' : World) : Prop :=
  (CirR wide Ls ∧ e = .returned .nilIface ∨ ¬ CirR wide Ls ∧ ∃ k : Int, e = .returned (.iface 71 (vi k))) ∧ Below w.heap.size w w'
set_option maxRecDepth 100000 in
set_option maxHeartbeats 4000000 in
theorem checked_any (wide : Int) (hwI : I64 wide) (AL : Option Addr) (nL cL : Nat) (Ls : List (List GateR)) (hLn : Ls.length = nL) (hL2 : nL ≤ 5864062014805) (w : World) (hLT : LT w AL Ls) :
    Calls Tryz.prog 27 #[.agg #[vi wide, .slice AL nL cL]] w (CkR wide Ls w) := by
  have hbx : Below w.heap.size w (w.alloc (.cells #[vi wide, .slice AL nL cL] 24)) := (Below.refl _ _).alloc (Nat.le_refl _) _
  by_cases h1 : wide < 0
  · have HNO : Hid (¬ CirR wide Ls) := Lib.hid fun h => by have := h.w0; omega
    clear hLT
    go_enter Tryz.func27, Tryz.ntmps27
    go_wp2
    go_ret
    exact ⟨.inr ⟨HNO.out, _, rfl⟩, hbx⟩
  by_cases h2 : 6 < wide
  · have HNO : Hid (¬ CirR wide Ls) := Lib.hid fun h => by have := h.w6; omega
    clear hLT
    go_enter Tryz.func27, Tryz.ntmps27
    go_wp2
    go_ret
    exact ⟨.inr ⟨HNO.out, _, rfl⟩, hbx⟩
  by_cases h3 : nL < 1
  · have HNO : Hid (¬ CirR wide Ls) := Lib.hid fun h => by have := h.n1; omega
    have k3 : (nL : Int) < 1 := by omega
    clear hLT
    go_enter Tryz.func27, Tryz.ntmps27
    go_wp2
    go_ret
    exact ⟨.inr ⟨HNO.out, _, rfl⟩, hbx⟩
  by_cases h4 : 8 < nL
  · have HNO : Hid (¬ CirR wide Ls) := Lib.hid fun h => by have := h.n8; omega
    have k3 : ¬ (nL : Int) < 1 := by omega
    have k4 : (8 : Int) < (nL : Int) := by omega
    clear hLT h3
    go_enter Tryz.func27, Tryz.ntmps27
    go_wp2
    go_ret
    exact ⟨.inr ⟨HNO.out, _, rfl⟩, hbx⟩
  have k3 : ¬ (nL : Int) < 1 := by omega
  have k4 : ¬ (8 : Int) < (nL : Int) := by omega
  have HB := Lib.hid hbx
  have HLT := Lib.hid hLT
  have HLN := Lib.hid hLn
  have HCF := Lib.hid (containsG_any 68 (fun _ _ => rfl) (fun l => !decide (LayN l.length)) AL nL cL Ls hLn (by omega) (w.alloc (.cells #[vi wide, .slice AL nL cL] 24)) (fun A1 n1 c1 x hx hn _ => checked1_any A1 n1 c1 x hx hn _) (hLT.below hbx))
  cases h5 : Ls.any fun l => !decide (LayN l.length)
  case true =>
    have HNO : Hid (¬ CirR wide Ls) := Lib.hid fun h => by
      obtain ⟨l, hl, hn⟩ := List.any_eq_true.1 h5
      have := h.lay l hl
      simp [this] at hn
    rw [h5] at HCF
    clear hLT h5 hLn h3 h4
    go_enter Tryz.func27, Tryz.ntmps27
    go_wp2_with fail
    refine HCF.out.mono ?_
    rintro _ _ ⟨rfl, rfl⟩
    go_wp2
    go_ret
    exact ⟨.inr ⟨HNO.out, _, rfl⟩, hbx⟩
  rw [h5] at HCF
  have HLY : Hid (∀ l ∈ Ls, LayN l.length) := Lib.hid fun l hl => by
    have := List.any_eq_false.1 h5 l hl
    simpa using this
  obtain ⟨v, rfl⟩ := Int.eq_ofNat_of_zero_le (show 0 ≤ wide by omega)
  obtain ⟨m, hm⟩ : ∃ m : Nat, m = 2 ^ v := ⟨_, rfl⟩
  have hm64 : m ≤ 64 := by rw [hm]; exact Nat.pow_le_pow_right (n := 2) (by omega) (show v ≤ 6 by omega)
  have hpw : ((2 : Int) ^ v) = (m : Int) := by rw [hm, Int.natCast_pow]; rfl
  have hmin : min v 64 = v := by omega
  have hwr : IntKind.i64.wrap (m : Int) = (m : Int) := IntWalk.i64_in _ (by constructor <;> omega)
  have HB0 : Hid (benR (v : Int) Ls 0 = m) := Lib.hid (by unfold benR; rw [if_pos rfl, Int.toNat_natCast, hpw])
  have HYES : Hid ((∀ t (h : t < Ls.length), ∀ g ∈ Ls[t], GokR (benR (v : Int) Ls t) g) → CirR (v : Int) Ls) := Lib.hid fun h => ⟨by omega, by omega, by omega, by omega, HLY.out, h⟩
  clear hLT h5 hLn h3 h4 hm hbx
  go_enter Tryz.func27, Tryz.ntmps27
  go_wp2_with fail
  refine HCF.out.mono ?_
  rintro _ _ ⟨rfl, rfl⟩
  go_wp2
  go_loopw [3, 39] (fun v1 i wr => ∃ t : Nat, t ≤ nL ∧ v1 = vi (benR (v : Int) Ls t) ∧ i = vi t ∧ Below w.heap.size w wr ∧ ∀ j (h : j < Ls.length), j < t → ∀ g ∈ Ls[j], GokR (benR (v : Int) Ls j) g) (fun _ i _ => nL - (intOf i).toNat)
  case atStart => exact ⟨0, Nat.zero_le _, by rw [HB0.out], rfl, HB.out, fun j _ hj => absurd hj (Nat.not_lt_zero _)⟩
  case round =>
    rename World => w1
    obtain ⟨t, ht, rfl, rfl, hb, hall⟩ := hrel
    have HALL := Lib.hid hall
    clear hall
    by_cases htn : t < nL
    · have htg : t < Ls.length := by rw [HLN.out]; exact htn
      obtain ⟨al, A1, n1, c1, rfl, hal, hcl, hl1, hl2, hGT⟩ := (HLT.out.below hb) t htg
      obtain ⟨gs, hgs⟩ : ∃ gs, gs = Ls[t] := ⟨_, rfl⟩
      rw [← hgs] at hl1 hGT
      have HGS := Lib.hid hgs
      have HGT := Lib.hid hGT
      have HL1 := Lib.hid hl1
      have HBN : Hid (benR (v : Int) Ls (t + 1) = (n1 : Int)) := Lib.hid (by
        unfold benR
        rw [if_neg (by omega), Nat.add_sub_cancel, List.getD_eq_getElem?_getD, List.getElem?_eq_getElem htg, Option.getD_some, ← hgs, hl1])
      have k1 : (0 : Int) ≤ (t : Int) := by omega
      have k2 : (t : Int) < (nL : Int) := by omega
      obtain ⟨ben, hben⟩ : ∃ ben, ben = benR (v : Int) Ls t := ⟨_, rfl⟩
      rw [← hben]
      have HBEN := Lib.hid hben
      clear hgs hGT hl1 hben hal
      go_wp2
      go_loopw [45] (fun i wr => ∃ j : Nat, j ≤ n1 ∧ i = vi j ∧ Below w.heap.size w wr ∧ w1.heap.size ≤ wr.heap.size ∧ Below w1.heap.size w1 wr ∧ ∀ q (h : q < gs.length), q < j → GokR ben gs[q]) (fun i _ => n1 - (intOf i).toNat)
      case atStart => exact ⟨0, Nat.zero_le _, rfl, hb, Nat.le_refl _, Below.refl _ _, fun j _ hj => absurd hj (Nat.not_lt_zero _)⟩
      case round =>
        obtain ⟨j, hj, rfl, hb2, hsz2, hbb2, hgok⟩ := hrel
        have HGOK := Lib.hid hgok
        clear hgok
        by_cases hjn : j < n1
        · have hjg : j < gs.length := by rw [HL1.out]; exact hjn
          obtain ⟨ad, rfl, hE⟩ := (HGT.out.below hbb2) j hjg
          obtain ⟨d0, d1, d2⟩ := hE.cells
          obtain ⟨-, -, -, -, I0, I1, I2⟩ := hE
          have HNG : Hid (¬ GokR ben gs[j] → ¬ CirR (v : Int) Ls) := Lib.hid fun h hc => h (by rw [HBEN.out]; exact hc.gate t htg _ (by rw [← HGS.out]; exact List.getElem_mem hjg))
          have HGN : Hid (GokR ben gs[j] → ∀ q (h : q < gs.length), q < j + 1 → GokR ben gs[q]) := Lib.hid fun h q hq hqj => by
            by_cases e : q < j
            · exact HGOK.out q hq e
            · obtain rfl : q = j := by omega
              exact h
          generalize gs[j] = g at d0 d1 d2 I0 I1 I2 HNG HGN
          obtain ⟨g0, g1, g2⟩ := g
          dsimp only at d0 d1 d2 I0 I1 I2
          have j1 : (0 : Int) ≤ (j : Int) := by omega
          have j2 : (j : Int) < (n1 : Int) := by omega
          have hbx : Below w.heap.size w (wr.alloc (.cells #[vi g0, vi g1, vi g2] 61)) := hb2.alloc hb2.size _
          have hbb4 : Below w1.heap.size w1 (wr.alloc (.cells #[vi g0, vi g1, vi g2] 61)) := hbb2.alloc hsz2 _
          have hsz4 : wr.heap.size < (wr.alloc (.cells #[vi g0, vi g1, vi g2] 61)).heap.size := by show wr.heap.size < (wr.heap.push _).size; rw [Array.size_push]; exact Nat.lt_succ_self _
          have hsz5 : w1.heap.size ≤ (wr.alloc (.cells #[vi g0, vi g1, vi g2] 61)).heap.size := by omega
          clear hsz4
          by_cases hkk : g0 = 0 ∨ g0 = 1
          · by_cases a1 : g1 < 0
            · have HNO : Hid (¬ CirR (v : Int) Ls) := Lib.hid (HNG.out fun h => by have := h.2.1; dsimp only at this; omega)
              rcases hkk with rfl | rfl
              · skip
                go_wp2
                go_ret
                exact ⟨.inr ⟨HNO.out, _, rfl⟩, hbx⟩
              · skip
                go_wp2
                go_ret
                exact ⟨.inr ⟨HNO.out, _, rfl⟩, hbx⟩
            by_cases a2 : ben ≤ g1
            · have HNO : Hid (¬ CirR (v : Int) Ls) := Lib.hid (HNG.out fun h => by have := h.2.2.1; dsimp only at this; omega)
              rcases hkk with rfl | rfl
              · skip
                go_wp2
                go_ret
                exact ⟨.inr ⟨HNO.out, _, rfl⟩, hbx⟩
              · skip
                go_wp2
                go_ret
                exact ⟨.inr ⟨HNO.out, _, rfl⟩, hbx⟩
            by_cases a3 : g2 < 0
            · have HNO : Hid (¬ CirR (v : Int) Ls) := Lib.hid (HNG.out fun h => by have := h.2.2.2.1; dsimp only at this; omega)
              rcases hkk with rfl | rfl
              · skip
                go_wp2
                go_ret
                exact ⟨.inr ⟨HNO.out, _, rfl⟩, hbx⟩
              · skip
                go_wp2
                go_ret
                exact ⟨.inr ⟨HNO.out, _, rfl⟩, hbx⟩
            by_cases a4 : ben ≤ g2
            · have HNO : Hid (¬ CirR (v : Int) Ls) := Lib.hid (HNG.out fun h => by have := h.2.2.2.2; dsimp only at this; omega)
              rcases hkk with rfl | rfl
              · skip
                go_wp2
                go_ret
                exact ⟨.inr ⟨HNO.out, _, rfl⟩, hbx⟩
              · skip
                go_wp2
                go_ret
                exact ⟨.inr ⟨HNO.out, _, rfl⟩, hbx⟩
            have HG1 := Lib.hid (HGN.out ⟨hkk, by dsimp only; omega, by dsimp only; omega, by dsimp only; omega, by dsimp only; omega⟩)
            rcases hkk with rfl | rfl
            · go_wp2
              go_roundw
              case rel => exact ⟨j + 1, by omega, by go_num, hbx, hsz5, hbb4, HG1.out⟩
              case measure => simp only [intOf, Int.toNat_natCast]; omega
            · go_wp2
              go_roundw
              case rel => exact ⟨j + 1, by omega, by go_num, hbx, hsz5, hbb4, HG1.out⟩
              case measure => simp only [intOf, Int.toNat_natCast]; omega
          · have t1 : (g0 != 0) = true := by rw [bne_iff_ne]; omega
            have t2 : (g0 != 1) = true := by rw [bne_iff_ne]; omega
            have HNO : Hid (¬ CirR (v : Int) Ls) := Lib.hid (HNG.out fun h => hkk h.1)
            clear hkk
            go_wp2
            go_ret
            exact ⟨.inr ⟨HNO.out, _, rfl⟩, hbx⟩
        · obtain rfl : j = n1 := by omega
          have HA2 : Hid (∀ q (h : q < Ls.length), q < t + 1 → ∀ g ∈ Ls[q], GokR (benR (v : Int) Ls q) g) := Lib.hid fun q hq hqt g hg => by
            by_cases e : q < t
            · exact HALL.out q hq e g hg
            · obtain rfl : q = t := by omega
              rw [← HGS.out] at hg
              obtain ⟨i, hi, rfl⟩ := List.mem_iff_getElem.1 hg
              rw [← HBEN.out]
              exact HGOK.out i hi (by rw [← HL1.out]; exact hi)
          go_wp2
          go_roundw
          case rel => exact ⟨t + 1, by omega, by rw [HBN.out], by go_num, hb2, HA2.out⟩
          case measure => simp only [intOf, Int.toNat_natCast]; omega
    · obtain rfl : t = nL := by omega
      have HC : Hid (CirR (v : Int) Ls) := Lib.hid (HYES.out fun q hq g hg => HALL.out q hq (by rw [← HLN.out]; exact hq) g hg)
      go_wp2
      go_ret
      exact ⟨.inl ⟨HC.out, rfl⟩, hb⟩
end Go.Proofs.YteceghbjjnknbaaGreat

namespace Go.Proofs.YteceghbjjnknbaaGreat
open Go.RowKit Zp
section
variable {p : Nat} [NeZero p]
structure CirOk (nv : Nat → Nat) (Ls : List (List GateI)) : Prop where
  one : 1 ≤ Ls.length
  max : Ls.length ≤ 8
  small : ∀ l, nv l ≤ 6
  len : ∀ l, l < Ls.length → (Ls.getD l []).length = 2 ^ nv (l + 1)
  kind : ∀ l, l < Ls.length → ∀ g ∈ Ls.getD l [], g.k = 0 ∨ g.k = 1
  ins : ∀ l, l < Ls.length → ∀ g ∈ Ls.getD l [], g.a < 2 ^ nv l ∧ g.b < 2 ^ nv l
end
section
variable (p kk : Nat) [NeZero p] (f : Nat → Fin p) (n : Nat) (L : List GateI) (z : List (Fin p))
def told3 (xs : List (Fin p)) : List Int := [fv (partE f n L z (xs ++ [0])), fv (partE f n L z (xs ++ [1])), fv (partE f n L z (xs ++ [1 + 1]))]
def rdG (D : List Int) : Nat → List (Fin p) × List Int
  | 0 => ([], D)
  | r + 1 => ((rdG D r).1 ++ [el p ((drawnL p kk (digL p kk (3 :: ((rdG D r).2 ++ told3 p f n L z (rdG D r).1)))).getD 0 0)], drawnL p kk (digL p kk (3 :: ((rdG D r).2 ++ told3 p f n L z (rdG D r).1))))
def xsG (D : List Int) (r : Nat) : List (Fin p) := (rdG p kk f n L z D r).1
def dgG (D : List Int) (r : Nat) : List Int := (rdG p kk f n L z D r).2
theorem xsG_length (D : List Int) (r : Nat) : (xsG p kk f n L z D r).length = r := by
  induction r with
  | zero => rfl
  | succ r ih => show ((rdG p kk f n L z D r).1 ++ [_]).length = r + 1; rw [List.length_append]; unfold xsG at ih; rw [ih]; rfl
def lineG (D : List Int) : List Int := (List.range (n + 1)).map fun t => fv (extF f (betw ((xsG p kk f n L z D (2 * n)).take n) ((xsG p kk f n L z D (2 * n)).drop n) (el p ((t : Nat) : Int))))
def dgN (D : List Int) : List Int := drawnL p kk (digL p kk (3 :: (dgG p kk f n L z D (2 * n) ++ lineG p kk f n L z D)))
def zN (D : List Int) : List (Fin p) := betw ((xsG p kk f n L z D (2 * n)).take n) ((xsG p kk f n L z D (2 * n)).drop n) (el p ((dgN p kk f n L z D).getD 0 0))
theorem zN_length (D : List Int) : (zN p kk f n L z D).length = n := by
  have h := xsG_length p kk f n L z D (2 * n)
  unfold zN
  rw [betw_length _ _ _ (by rw [List.length_take, List.length_drop, h]; omega), List.length_take, h]
  omega
end
section
variable (p kk : Nat) [NeZero p] (nv : Nat → Nat) (Ls : List (List GateI)) (inp : Nat → Fin p) (z0 : List (Fin p)) (D0 : List Int)
end
section
variable {p kk : Nat} [NeZero p]
theorem small_nodup (h : 23 ≤ p) (m : Nat) (hm : m ≤ 16) : ((List.range m).map fun t => el p ((t : Nat) : Int)).Nodup := by
  unfold List.Nodup
  rw [List.pairwise_map]
  refine List.Pairwise.imp_of_mem (fun {i k} hi hk hlt e => ?_) List.pairwise_lt_range
  have hi' := List.mem_range.1 hi
  have hk' := List.mem_range.1 hk
  have h1 := congrArg fv e
  rw [fv_el, fv_el, Int.emod_eq_of_lt (by omega) (by omega), Int.emod_eq_of_lt (by omega) (by omega)] at h1
  omega
theorem round_ok {f : Nat → Fin p} {n : Nat} {L : List GateI} {z xs : List (Fin p)} (h : xs.length < 2 * n) : partE f n L z (xs ++ [0]) + partE f n L z (xs ++ [1]) = partE f n L z xs := part_sum f n L z xs h
theorem round_fit (hp : IsPrime p) (h23 : 23 ≤ p) {f : Nat → Fin p} {n : Nat} {L : List GateI} {z xs Q : List (Fin p)} (h : xs.length < 2 * n) (hQ : Fitted ((List.range 3).map fun t => el p ((t : Nat) : Int)) (els p (told3 p f n L z xs)) 3 Q) (t : Fin p) : ev Q t = partE f n L z (xs ++ [t]) := by
  have hQ' : Fitted ((List.range 3).map fun t => el p ((t : Nat) : Int)) (els p (told3 p f n L z xs)) ((List.range 3).map fun t => el p ((t : Nat) : Int)).length Q := by simpa using hQ
  refine fitted_poly hp (small_nodup h23 3 (by omega)) hQ' (g := fun t => partE f n L z (xs ++ [t])) (by simpa using part_poly f n L z xs h) (fun j hj => ?_) t
  have hj3 : j < 3 := by simpa using hj
  have e0 : el p ((0 : Nat) : Int) = 0 := by simpa using el_zero (p := p)
  have e1 : el p ((1 : Nat) : Int) = 1 := by simpa using el_one (p := p)
  have e2 : el p ((2 : Nat) : Int) = 1 + 1 := by simpa using el_two (p := p)
  rcases (show j = 0 ∨ j = 1 ∨ j = 2 by omega) with rfl | rfl | rfl
  · show el p (fv _) = partE f n L z (xs ++ [el p ((0 : Nat) : Int)]); rw [el_fv, e0]
  · show el p (fv _) = partE f n L z (xs ++ [el p ((1 : Nat) : Int)]); rw [el_fv, e1]
  · show el p (fv _) = partE f n L z (xs ++ [el p ((2 : Nat) : Int)]); rw [el_fv, e2]
theorem line_fit (hp : IsPrime p) (h23 : 23 ≤ p) {f : Nat → Fin p} {n : Nat} (hn : n ≤ 6) {x y : List (Fin p)} (hx : x.length = n) (hy : y.length = n) {Q : List (Fin p)} (hQ : Fitted ((List.range (n + 1)).map fun t => el p ((t : Nat) : Int)) (els p ((List.range (n + 1)).map fun t => fv (extF f (betw x y (el p ((t : Nat) : Int)))))) (n + 1) Q) (t : Fin p) : ev Q t = extF f (betw x y t) := by
  have hQ' : Fitted ((List.range (n + 1)).map fun t => el p ((t : Nat) : Int)) (els p ((List.range (n + 1)).map fun t => fv (extF f (betw x y (el p ((t : Nat) : Int)))))) ((List.range (n + 1)).map fun t => el p ((t : Nat) : Int)).length Q := by simpa using hQ
  have hl := line_poly f x y (hx.trans hy.symm)
  rw [hx] at hl
  refine fitted_poly hp (small_nodup h23 (n + 1) (by omega)) hQ' (g := fun t => extF f (betw x y t)) (by simpa using hl) (fun j hj => ?_) t
  have hjn : j < n + 1 := by simpa using hj
  rw [co_els]
  have e1 : ((List.range (n + 1)).map fun t => fv (extF f (betw x y (el p ((t : Nat) : Int))))).getD j 0 = fv (extF f (betw x y (el p ((j : Nat) : Int)))) := by
    rw [List.getD_eq_getElem?_getD, List.getElem?_map, List.getElem?_range hjn]; rfl
  have e2 : co ((List.range (n + 1)).map fun t => el p ((t : Nat) : Int)) j = el p ((j : Nat) : Int) := by
    unfold co
    rw [List.getElem?_map, List.getElem?_range hjn]; rfl
  rw [e1, e2, el_fv]
end
end Go.Proofs.YteceghbjjnknbaaGreat

namespace Go.Proofs.YteceghbjjnknbaaGreat
open Go.RowKit Zp
section
variable (p : Nat) [NeZero p] (inp : List Int) (Ls : List (List GateR))
def lvE : Nat → List (Fin p)
  | 0 => els p inp
  | l + 1 => (Ls.getD l []).map fun g => apE g.k.toNat (co (lvE l) g.a.toNat) (co (lvE l) g.b.toNat)
def lvR (t : Nat) : List (List Int) := (List.range t).map fun l => fvs (lvE p inp Ls l)
theorem lvR_len (t : Nat) : (lvR p inp Ls t).length = t := by simp [lvR]
theorem lvR_succ (t : Nat) : lvR p inp Ls (t + 1) = lvR p inp Ls t ++ [fvs (lvE p inp Ls t)] := by simp [lvR, List.range_succ]
theorem lvR_at (t l : Nat) (h : l < (lvR p inp Ls t).length) : (lvR p inp Ls t)[l] = fvs (lvE p inp Ls l) := by simp [lvR]
theorem lvE_len (l : Nat) : (lvE p inp Ls l).length = if l = 0 then inp.length else (Ls.getD (l - 1) []).length := by
  cases l with
  | zero => simp [lvE, els]
  | succ l => simp [lvE]
theorem lvE_at (l : Nat) (hl : l < Ls.length) (j : Nat) (hj : j < Ls[l].length) : (lvE p inp Ls (l + 1))[j]? = some (apE Ls[l][j].k.toNat (co (lvE p inp Ls l) Ls[l][j].a.toNat) (co (lvE p inp Ls l) Ls[l][j].b.toNat)) := by
  show ((Ls.getD l []).map _)[j]? = _
  rw [List.getD_eq_getElem?_getD, List.getElem?_eq_getElem hl, Option.getD_some, List.getElem?_map, List.getElem?_eq_getElem hj]
  rfl
def nvR (wide : Nat) : Nat → Nat
  | 0 => wide
  | l + 1 => layV (Ls.getD l []).length
end
section
variable {p : Nat} [NeZero p] {inp : List Int} {Ls : List (List GateR)} {wide : Nat}
abbrev LsI (Ls : List (List GateR)) : List (List GateI) := Ls.map fun l => l.map gI
theorem lsI_at (l : Nat) : (LsI Ls).getD l [] = (Ls.getD l []).map gI := by
  rw [List.getD_eq_getElem?_getD, List.getD_eq_getElem?_getD, List.getElem?_map]
  cases Ls[l]? <;> rfl
theorem CirR.len (h : CirR (wide : Int) Ls) (l : Nat) (hl : l < Ls.length) : (Ls.getD l []).length = 2 ^ nvR Ls wide (l + 1) := by
  have hm : Ls.getD l [] ∈ Ls := by rw [List.getD_eq_getElem?_getD, List.getElem?_eq_getElem hl]; exact List.getElem_mem hl
  exact (h.lay _ hm).pow
theorem CirR.small (h : CirR (wide : Int) Ls) (l : Nat) : nvR Ls wide l ≤ 6 := by
  cases l with
  | zero => have := h.w6; show wide ≤ 6; omega
  | succ l =>
    by_cases hl : l < Ls.length
    · have hm : Ls.getD l [] ∈ Ls := by rw [List.getD_eq_getElem?_getD, List.getElem?_eq_getElem hl]; exact List.getElem_mem hl
      exact (h.lay _ hm).le6
    · have e : Ls.getD l [] = [] := by rw [List.getD_eq_getElem?_getD, List.getElem?_eq_none (by omega)]; rfl
      show layV (Ls.getD l []).length ≤ 6
      rw [e]; decide
theorem CirR.ben (h : CirR (wide : Int) Ls) (l : Nat) (hl : l ≤ Ls.length) : benR (wide : Int) Ls l = ((2 ^ nvR Ls wide l : Nat) : Int) := by
  unfold benR
  cases l with
  | zero => rw [if_pos rfl, Int.toNat_natCast, Int.natCast_pow]; rfl
  | succ l => rw [if_neg (by omega), Nat.add_sub_cancel, h.len l (by omega)]
theorem CirR.size (h : CirR (wide : Int) Ls) (hi : inp.length = 2 ^ wide) (l : Nat) (hl : l ≤ Ls.length) : (lvE p inp Ls l).length = 2 ^ nvR Ls wide l := by
  rw [lvE_len]
  cases l with
  | zero => rw [if_pos rfl]; exact hi
  | succ l => rw [if_neg (by omega), Nat.add_sub_cancel, h.len l (by omega)]
theorem CirR.ok (h : CirR (wide : Int) Ls) : CirOk (nvR Ls wide) (LsI Ls) := by
  have hg : ∀ l, l < Ls.length → ∀ g ∈ (LsI Ls).getD l [], (g.k = 0 ∨ g.k = 1) ∧ g.a < 2 ^ nvR Ls wide l ∧ g.b < 2 ^ nvR Ls wide l := fun l hl g hm => by
    rw [lsI_at] at hm
    obtain ⟨g', hm', rfl⟩ := List.mem_map.1 hm
    rw [List.getD_eq_getElem?_getD, List.getElem?_eq_getElem hl, Option.getD_some] at hm'
    obtain ⟨h1, h2, h3, h4, h5⟩ := h.gate l hl g' hm'
    rw [h.ben l (by omega)] at h3 h5
    unfold gI
    refine ⟨?_, ?_, ?_⟩
    · dsimp only; omega
    · dsimp only; omega
    · dsimp only; omega
  exact ⟨by simpa using h.n1, by simpa using h.n8, h.small, fun l hl => by rw [lsI_at, List.length_map]; exact h.len l (by simpa using hl), fun l hl g hm => (hg l (by simpa using hl) g hm).1, fun l hl g hm => (hg l (by simpa using hl) g hm).2⟩
end
end Go.Proofs.YteceghbjjnknbaaGreat

namespace Go.Proofs.YteceghbjjnknbaaGreat
open Go.RowKit Zp
theorem apply_any (p S b k : Nat) [NeZero p] (kk : Nat) (x y : Int) (hx : I64 x) (hy : I64 y) (w : World) (F : Fld w S b p) (hk : w.cell? ⟨k, 0, none⟩ = some (.pointer (some ⟨b, 0, none⟩))) :
    Calls Tryz.prog 61 #[.pointer (some ⟨k, 0, none⟩), vi kk, vi x, vi y] w fun e w' => e = .returned (vi (fv (apE kk (el p x) (el p y)))) ∧ ∃ m, w' = w.drewN m := by
  have hp2 := F.max
  have hcb := F.c0
  by_cases h0 : kk = 0
  · have t1 : ((kk : Int) == 0) = true := by rw [h0]; rfl
    have hr : apE kk (el p x) (el p y) = el p x + el p y := by rw [apE, if_pos h0]
    rw [hr]
    clear h0 hr F
    go_enter Tryz.func61, Tryz.ntmps61
    go_wp2_with (go_at_call 73; refine (add_any p hp2 b _ _ hx hy _ (by exact hcb)).mono ?_; rintro e w' ⟨rfl, k5, rfl⟩)
    go_ret
    exact ⟨rfl, _, rfl⟩
  · have t1 : ((kk : Int) == 0) = false := by rw [beq_eq_false_iff_ne]; omega
    have hr : apE kk (el p x) (el p y) = el p x * el p y := by rw [apE, if_neg h0]
    rw [hr]
    clear h0 hr F
    go_enter Tryz.func61, Tryz.ntmps61
    go_wp2_with (go_at_call 75; refine (mul_any p hp2 b _ _ hx hy _ (by exact hcb)).mono ?_; rintro e w' ⟨rfl, k5, rfl⟩)
    go_ret
    exact ⟨rfl, _, rfl⟩
end Go.Proofs.YteceghbjjnknbaaGreat

namespace Go.Proofs.YteceghbjjnknbaaGreat
open Go.RowKit Zp
def RPow {p : Nat} [NeZero p] (T : Fin p) (n : Int) (a x k : Value) : Prop :=
  ∃ (j : Int) (A X : Fin p), j.natAbs ≤ n.natAbs ∧ I64 j ∧ a = vi (fv A) ∧ x = vi (fv X) ∧ k = vi j ∧ X * pw A j.natAbs = T
theorem RPow.step {p : Nat} [NeZero p] {T A X : Fin p} {n j r d : Int} (h0 : j ≠ 0) (h : X * pw A j.natAbs = T) (hj : j.natAbs ≤ n.natAbs) (hr : j.tmod 2 = r) (hd : j.tdiv 2 = d) :
    d.natAbs ≤ n.natAbs ∧ d.natAbs < j.natAbs ∧ (r = 0 → X * pw (A * A) d.natAbs = T) ∧ (r ≠ 0 → X * A * pw (A * A) d.natAbs = T) := by
  have e1 : d.natAbs = j.natAbs / 2 := by rw [← hd]; simp [Int.natAbs_tdiv]; rfl
  have e2 : r.natAbs = j.natAbs % 2 := by rw [← hr]; simp [Int.natAbs_tmod]
  have hs := pow_step A j.natAbs
  rw [← e1] at hs
  refine ⟨by omega, by omega, fun hr0 => ?_, fun hr0 => ?_⟩
  · rw [← h, hs, if_neg (by omega)]; grind
  · rw [← h, hs, if_pos (by omega)]; grind
end Go.Proofs.YteceghbjjnknbaaGreat

namespace Go.Proofs.YteceghbjjnknbaaGreat
open Go.RowKit Zp
def NoCom (n m i : Nat) : Prop := ∀ j, 2 ≤ j → j < i → ¬ (j ∣ n ∧ j ∣ m)
theorem NoCom.step {n m i : Nat} (h : NoCom n m i) (hi : ¬ (i ∣ n ∧ i ∣ m)) : NoCom n m (i + 1) := fun j h2 hj => by
  by_cases e : j = i
  · subst e; exact hi
  · exact h j h2 (by omega)
theorem NoCom.gcd {n m : Nat} (hn : 0 < n) (h : NoCom n m (n + 1)) : Nat.gcd n m = 1 := by
  have h1 := Nat.gcd_dvd_left n m
  have h2 := Nat.gcd_dvd_right n m
  have h3 := Nat.le_of_dvd hn h1
  have h4 := Nat.gcd_pos_of_pos_left m hn
  false_or_by_contra
  rename_i hne
  exact h _ (by omega) (by omega) ⟨h1, h2⟩
section
variable {p : Nat} [NeZero p] {w : World} {s b k z : Nat} {oo : Nat → Nat → Fin p}
end
end Go.Proofs.YteceghbjjnknbaaGreat

namespace Go.Proofs.YteceghbjjnknbaaGreat
open Go.RowKit Zp
end Go.Proofs.YteceghbjjnknbaaGreat

namespace Go.Proofs.YteceghbjjnknbaaGreat
open Go.RowKit Zp
end Go.Proofs.YteceghbjjnknbaaGreat

namespace Go.Proofs.YteceghbjjnknbaaGreat
open Go.RowKit Zp
end Go.Proofs.YteceghbjjnknbaaGreat

namespace Go.Proofs.YteceghbjjnknbaaGreat
open Go.RowKit Zp
end Go.Proofs.YteceghbjjnknbaaGreat

namespace Go.Proofs.YteceghbjjnknbaaGreat
open Go.RowKit Zp
end Go.Proofs.YteceghbjjnknbaaGreat

namespace Go.Proofs.YteceghbjjnknbaaGreat
open Go.RowKit Zp
theorem TB.take {w : World} {A : Option Addr} {ls : List (List Int)} (h : TB w A ls) (j : Nat) : TB w A (ls.take j) := fun k hk => by
  have hk' : k < ls.length := by rw [List.length_take] at hk; omega
  obtain ⟨ad, A1, n, c, h1, h2, h3, h4, h5⟩ := h k hk'
  have e : (ls.take j)[k] = ls[k] := by simp
  rw [e]
  exact ⟨ad, A1, n, c, h1, h2, h3, h4, h5⟩
theorem TB.drop {w : World} {ad : Addr} {ls : List (List Int)} (h : TB w (some ad) ls) (j : Nat) : TB w (some (ad.add j)) (ls.drop j) := fun k hk => by
  have hk' : j + k < ls.length := by rw [List.length_drop] at hk; omega
  obtain ⟨ad', A1, n, c, h1, h2, h3, h4, h5⟩ := h (j + k) hk'
  injection h1 with h1
  subst h1
  have e : (ls.drop j)[k] = ls[j + k] := by simp
  rw [e]
  exact ⟨ad.add j, A1, n, c, rfl, by rw [add_of_add]; exact h2, by rw [add_of_add]; exact h3, h4, h5⟩
def UsAt (w : World) (us : List Value) (ls : List (List Int)) : Prop :=
  us.length = ls.length ∧ ∀ k (h : k < us.length) (h' : k < ls.length), ∃ (g c : Nat) (t : TypeId) (cs : Array Value), us[k] = .slice (some ⟨g, 0, none⟩) 4 c ∧ Blk w g t cs ∧ t ≠ 25 ∧ (t = 3 ∨ t = 66) ∧ SL w (some ⟨g, 0, none⟩) ls[k] ∧ ls[k].length = 4 ∧ ∀ x ∈ ls[k], I64 x
theorem UsAt.nil (w : World) : UsAt w [] [] := ⟨rfl, fun k h => absurd h (by simp)⟩
theorem UsAt.below {w w' : World} {us : List Value} {ls : List (List Int)} (h : UsAt w us ls) (hb : Below w.heap.size w w') : UsAt w' us ls := ⟨h.1, fun k h1 h2 => by
  obtain ⟨g, c, t, cs, e1, e2, e3, e4, e5, e6⟩ := h.2 k h1 h2
  exact ⟨g, c, t, cs, e1, Blk.below e2 hb e2.lt, e3, e4, e5.below hb, e6⟩⟩
theorem UsAt.app {w : World} {us vs : List Value} {ls ms : List (List Int)} (h : UsAt w us ls) (h' : UsAt w vs ms) : UsAt w (us ++ vs) (ls ++ ms) := by
  refine ⟨by rw [List.length_append, List.length_append, h.1, h'.1], fun k h1 h2 => ?_⟩
  by_cases hk : k < us.length
  · rw [List.getElem_append_left hk, List.getElem_append_left (by rw [← h.1]; exact hk)]
    exact h.2 k hk (by rw [← h.1]; exact hk)
  · rw [List.length_append] at h1
    rw [List.getElem_append_right (by omega), List.getElem_append_right (by rw [← h.1]; omega)]
    have e : k - ls.length = k - us.length := by rw [h.1]
    simp only [e]
    exact h'.2 (k - us.length) (by omega) (by rw [← h'.1]; omega)
theorem UsAt.one {w : World} {g c : Nat} {t : TypeId} {cs : Array Value} {l : List Int} (h1 : Blk w g t cs) (h2 : t ≠ 25) (h3 : t = 3 ∨ t = 66) (h4 : SL w (some ⟨g, 0, none⟩) l) (h5 : l.length = 4) (h6 : ∀ x ∈ l, I64 x) : UsAt w [.slice (some ⟨g, 0, none⟩) 4 c] [l] :=
  ⟨rfl, fun k hk hk' => by
    have e : k = 0 := by simp at hk; omega
    subst e
    exact ⟨g, c, t, cs, rfl, h1, h2, h3, h4, h5, h6⟩⟩
theorem UsAt.far {w w' : World} {us : List Value} {ls : List (List Int)} {x : Nat} {tx : TypeId} {cx : Array Value} (h : UsAt w us ls) (hx : Blk w x tx cx) (ht : tx = 25 ∨ tx = 51) (hg : w.grownBy w' (some x)) : UsAt w' us ls := ⟨h.1, fun k h1 h2 => by
  obtain ⟨g, c, t, cs, e1, e2, e3, e4, e5, e6⟩ := h.2 k h1 h2
  have hgx : g ≠ x := Blk.ne_ e2 hx (by
    rcases ht with rfl | rfl
    · exact e3
    · rcases e4 with rfl | rfl <;> decide)
  exact ⟨g, c, t, cs, e1, Blk.grown e2 hg (by intro e; injection e with e; exact hgx e), e3, e4, e5.far hg hgx, e6⟩⟩
theorem ownR_blk {w : World} {base : Nat} {v : Value} {us : List Value} (h : OwnR w base v us) {g : Nat} (hg : v.ownBlock = some g) : ∃ cs, Blk w g 25 cs := by
  rcases h.2 with ⟨rfl, _⟩ | ⟨g', cap, cur, rfl, _, hh, _⟩
  · cases hg
  · injection hg with hg
    subst hg
    exact ⟨cur, hh⟩
theorem UsAt.grew {w w' : World} {base : Nat} {v v' : Value} {us vs ws : List Value} {ls : List (List Int)} (h : GrewR w w' base v v' us) (ho : OwnR w base v vs) (hr : UsAt w ws ls) : UsAt w' ws ls := by
  rcases hv : v.ownBlock with _ | g
  · have hg := h.grown
    rw [hv] at hg
    exact hr.below ⟨hg.os, hg.tape, hg.output, hg.size, fun i hi => hg.block i hi (by intro e; cases e)⟩
  · obtain ⟨cs, hcs⟩ := ownR_blk ho hv
    exact hr.far hcs (.inl rfl) (by rw [← hv]; exact h.grown)
theorem tb_us {w : World} {base : Nat} {A : Option Addr} {n c : Nat} {us : List Value} {ls : List (List Int)} (h : OwnR w base (.slice A n c) us) (hr : UsAt w us ls) : TB w A ls := fun k hk => by
  have hku : k < us.length := by rw [hr.1]; exact hk
  have hn : us.length = n := by
    rcases h.2 with ⟨e, h0⟩ | ⟨g, cap, cur, e, _⟩
    · injection e with _ e2 _; omega
    · injection e with _ e2 _; exact e2.symm
  subst hn
  have hrd := Reads.of_own h
  obtain ⟨ad, u, e1, e2, e3, e4⟩ := Reads.at_ (k := k) hrd (by omega)
  have e5 : u = us[k] := by
    rw [List.getElem?_eq_getElem hku] at e3
    injection e3 with e3
    exact e3.symm
  obtain ⟨g, c1, t, cs, f1, f2, f3, f4, f5, f6, f7⟩ := hr.2 k hku hk
  exact ⟨ad, some ⟨g, 0, none⟩, 4, c1, e1, by rw [block_of_add]; exact e2, by rw [e4, e5, f1], f6, by omega, f5, f7⟩
end Go.Proofs.YteceghbjjnknbaaGreat

namespace Go.Proofs.YteceghbjjnknbaaGreat
open Go.RowKit Zp
theorem OwnR.moreB {w : World} {base base' : Nat} {v : Value} {us : List Value} (h : OwnR w base v us) (hb : base' ≤ base) : OwnR w base' v us := by
  refine ⟨h.1, ?_⟩
  rcases h.2 with h0 | ⟨g, cap, cur, hv, hg, rest⟩
  · exact .inl h0
  · exact .inr ⟨g, cap, cur, hv, Nat.le_trans hb hg, rest⟩
theorem hidL_le' (l : List Int) : ∀ (m a : Nat), 1 ≤ m → (hidL l a m).length ≤ m := by
  intro m
  induction m using Nat.strongRecOn with
  | ind m ih =>
    intro a hm
    by_cases hs : shownB l a m = true
    · by_cases h : 2 ≤ m
      · have hl := leftN_lt h
        rw [show hidL l a m = hidL l a (leftN m) ++ hidL l (a + leftN m) (m - leftN m) by rw [hidL, if_pos hs, dif_pos h], List.length_append]
        have := ih (leftN m) (by omega) a (by omega)
        have := ih (m - leftN m) (by omega) (a + leftN m) (by omega)
        omega
      · rw [hidL, if_pos hs, dif_neg h]; simp
    · rw [hidL, if_neg hs]; simpa using hm
end Go.Proofs.YteceghbjjnknbaaGreat

namespace Zp
def Cand (S : List Int) (t : Nat) (x : Int) : Prop := ∀ j (h : j < S.length), j < t → S[j] < x
theorem cand_in {l : List Int} {t : Nat} {x : Int} (hx : x ∈ l) (h : Cand (onceL l) t x) : ∃ j, ∃ hj : j < (onceL l).length, t ≤ j ∧ (onceL l)[j] = x := by
  obtain ⟨j, hj, e⟩ := List.mem_iff_getElem.1 ((mem_onceL x l).2 hx)
  refine ⟨j, hj, ?_, e⟩
  rcases Nat.lt_or_ge j t with h1 | h1
  · have := h j hj h1; omega
  · exact h1
theorem cand_none {l : List Int} {t : Nat} (h : ∀ x ∈ l, ¬ Cand (onceL l) t x) (ht : t ≤ (onceL l).length) : t = (onceL l).length := by
  rcases Nat.lt_or_ge t (onceL l).length with h1 | h1
  · exfalso
    refine h (onceL l)[t] ((mem_onceL _ l).1 (List.getElem_mem h1)) fun j hj hjt => (asc_onceL l).at_lt hjt h1
  · omega
theorem cand_min {l : List Int} {t : Nat} {y : Int} (hy : y ∈ l) (hc : Cand (onceL l) t y) (hm : ∀ x ∈ l, Cand (onceL l) t x → y ≤ x) : ∃ h : t < (onceL l).length, (onceL l)[t] = y := by
  obtain ⟨j, hj, htj, e⟩ := cand_in hy hc
  have ht : t < (onceL l).length := by omega
  refine ⟨ht, ?_⟩
  have h1 := (asc_onceL l).at_le htj hj
  have h2 := hm (onceL l)[t] ((mem_onceL _ l).1 (List.getElem_mem ht)) fun j hj hjt => (asc_onceL l).at_lt hjt ht
  omega
def Best (l : List Int) (t i : Nat) (b : Int) : Prop :=
  (b = -1 ∧ ∀ j (h : j < l.length), j < i → ¬ Cand (onceL l) t l[j]) ∨
  (∃ m : Nat, ∃ h : m < l.length, m < i ∧ b = m ∧ Cand (onceL l) t l[m] ∧ ∀ j (h' : j < l.length), j < i → Cand (onceL l) t l[j] → l[m] ≤ l[j])
theorem Best.zero (l : List Int) (t : Nat) : Best l t 0 (-1) := .inl ⟨rfl, fun j _ h => absurd h (Nat.not_lt_zero _)⟩
theorem Best.skip {l : List Int} {t i : Nat} {b : Int} (h : Best l t i b) (hi : i < l.length) (hc : ¬ Cand (onceL l) t l[i]) : Best l t (i + 1) b := by
  rcases h with ⟨e, h⟩ | ⟨m, hm, hmi, e, h1, h2⟩
  · refine .inl ⟨e, fun j hj hji => ?_⟩
    by_cases h3 : j < i
    · exact h j hj h3
    · obtain rfl : j = i := by omega
      exact hc
  · refine .inr ⟨m, hm, by omega, e, h1, fun j hj hji hcj => ?_⟩
    by_cases h3 : j < i
    · exact h2 j hj h3 hcj
    · obtain rfl : j = i := by omega
      exact absurd hcj hc
theorem Best.first {l : List Int} {t i : Nat} {b : Int} (h : Best l t i b) (hb : b < 0) (hi : i < l.length) (hc : Cand (onceL l) t l[i]) : Best l t (i + 1) i := by
  rcases h with ⟨e, h⟩ | ⟨m, hm, hmi, e, h1, h2⟩
  · refine .inr ⟨i, hi, by omega, rfl, hc, fun j hj hji hcj => ?_⟩
    by_cases h3 : j < i
    · exact absurd hcj (h j hj h3)
    · obtain rfl : j = i := by omega
      exact Int.le_refl _
  · omega
theorem Best.less {l : List Int} {t i m : Nat} (h : Best l t i m) (hm : m < l.length) (hi : i < l.length) (hc : Cand (onceL l) t l[i]) (hlt : l[i] < l[m]) : Best l t (i + 1) i := by
  rcases h with ⟨e, h⟩ | ⟨m', hm', hmi, e, h1, h2⟩
  · omega
  · obtain rfl : m = m' := by omega
    refine .inr ⟨i, hi, by omega, rfl, hc, fun j hj hji hcj => ?_⟩
    by_cases h3 : j < i
    · have := h2 j hj h3 hcj; omega
    · obtain rfl : j = i := by omega
      exact Int.le_refl _
theorem Best.keep {l : List Int} {t i m : Nat} (h : Best l t i m) (hm : m < l.length) (hi : i < l.length) (hge : ¬ l[i] < l[m]) : Best l t (i + 1) m := by
  rcases h with ⟨e, h⟩ | ⟨m', hm', hmi, e, h1, h2⟩
  · omega
  · obtain rfl : m = m' := by omega
    refine .inr ⟨m, hm, by omega, rfl, h1, fun j hj hji hcj => ?_⟩
    by_cases h3 : j < i
    · exact h2 j hj h3 hcj
    · obtain rfl : j = i := by omega
      omega
theorem Best.lo {l : List Int} {t i : Nat} {b : Int} (h : Best l t i b) : b = -1 ∨ ∃ m : Nat, b = m ∧ m < l.length := by
  rcases h with ⟨e, _⟩ | ⟨m, hm, _, e, _⟩
  · exact .inl e
  · exact .inr ⟨m, e, hm⟩
theorem Best.none {l : List Int} {t i : Nat} (h : Best l t i (-1)) (hi : l.length ≤ i) (ht : t ≤ (onceL l).length) : t = (onceL l).length := by
  rcases h with ⟨_, h⟩ | ⟨m, hm, _, e, _⟩
  · refine cand_none (fun x hx => ?_) ht
    obtain ⟨j, hj, rfl⟩ := List.mem_iff_getElem.1 hx
    exact h j hj (by omega)
  · omega
theorem Best.some {l : List Int} {t i m : Nat} (h : Best l t i m) (hm : m < l.length) (hi : l.length ≤ i) : ∃ h : t < (onceL l).length, (onceL l)[t] = l[m] := by
  rcases h with ⟨e, h⟩ | ⟨m', hm', hmi, e, h1, h2⟩
  · omega
  · obtain rfl : m = m' := by omega
    refine cand_min (List.getElem_mem hm) h1 fun x hx hc => ?_
    obtain ⟨j, hj, rfl⟩ := List.mem_iff_getElem.1 hx
    exact h2 j hj (by omega) hc
end Zp
namespace Go.Proofs.YteceghbjjnknbaaGreat
open Go.RowKit Zp
end Go.Proofs.YteceghbjjnknbaaGreat

namespace Go.Proofs.YteceghbjjnknbaaGreat
open Go.RowKit Zp
end Go.Proofs.YteceghbjjnknbaaGreat

namespace Go.Proofs.YteceghbjjnknbaaGreat
open Go.RowKit Zp
end Go.Proofs.YteceghbjjnknbaaGreat

namespace Go.Proofs.YteceghbjjnknbaaGreat
open Go.RowKit Zp Go.MapKept Go.ChangeMaps
def WorkIs (y bD bL : Nat) (r : (GF × GF) × List (List Int)) (w : World) (e : Ending) (w' : World) : Prop :=
  ∃ A' n' c', e = .returned (.slice A' n' c') ∧ r.2.length = n' ∧ n' ≤ c' ∧ TB w' A' r.2 ∧ Way w' y bD bL r.1.1 r.1.2 ∧ GrowM w w' bD bL
theorem TB.tail {w : World} {ad : Addr} {l : List Int} {ls : List (List Int)} (h : TB w (some ad) (l :: ls)) : TB w (some (ad.add 1)) ls := fun k hk => by
  obtain ⟨ad', A, n, c, e, h2, h3, h4⟩ := h (k + 1) (by simpa using hk)
  injection e with e
  subst e
  refine ⟨ad.add 1, A, n, c, rfl, ?_, ?_, h4⟩
  · rw [add_of_add, Nat.add_comm 1 k]; exact h2
  · rw [add_of_add, Nat.add_comm 1 k]; exact h3
theorem TB.none_ (w : World) (A : Option Addr) : TB w A [] := fun k hk => absurd hk (by simp)
theorem DMap.put {w' : World} {bD a m : Nat} {fD : GF} {F F' : Value → Option Value} {d : List Int} (h : ∀ a m, 1 ≤ m → a + m ≤ 65536 → F (Gp a (a + m)) = (fD a m).map dgV)
    (hm : MapIs Tryz.prog 139 w' bD F') (hp : Put F F' (Gp a (a + m)) (dgV d)) : DMap w' bD (updF fD a m d) := by
  refine ⟨F', hm, fun a' m' h1 h2 => ?_⟩
  by_cases e : a' = a ∧ m' = m
  · obtain ⟨rfl, rfl⟩ := e
    rw [updF_same, hp.1]; rfl
  · rw [updF_other _ _ e, hp.2 _ (fun he => e ?_), h a' m' h1 h2]
    have := gp_inj he
    omega
theorem Way.putD {w : World} {y bD bL a m : Nat} {fD fL : GF} (h : Way w y bD bL fD fL) (h1 : 1 ≤ m) (h2 : a + m ≤ 65536) (d : List Int) :
    ∃ w', (Instr.mapUpdate 166 (.map (some bD)) (.agg #[vi (a : Int), vi ((a : Int) + (m : Int))]) (dgV d)).run Tryz.prog w = .ok () w' ∧ Way w' y bD bL (updF fD a m d) fL ∧ w.grownBy w' (some bD) := by
  obtain ⟨F, h3, h4⟩ := h.dig
  obtain ⟨kl, hkl⟩ := key_gp (a := a) (c := a + m) (by omega)
  have e : Gp a (a + m) = .agg #[vi (a : Int), vi ((a : Int) + (m : Int))] := by simp [Gp]
  obtain ⟨w', F', hrun, hm, hp, hg⟩ := h3.update keyed_group Tryz.underlying166 hkl (val := dgV d)
  refine ⟨w', by rw [← e]; exact hrun, ?_, hg⟩
  have hgm : GrowM w w' bD bL := GrowM.one hg
  exact ⟨hgm.blk h.mapD h.mapL h.obj, DMap.put h4 hm hp, h.lis.same (hg.block _ h.mapL.lt (fun e => by injection e with e; exact h.ne e.symm)) (fun A xs hs => hs.growM hgm h.mapD h.mapL), h.ne⟩
theorem four_of {d : List Int} (h : d.length = 4) : ∃ x0 x1 x2 x3, d = [x0, x1, x2, x3] := by
  match d, h with
  | [x0, x1, x2, x3], _ => exact ⟨x0, x1, x2, x3, rfl⟩
set_option maxRecDepth 100000 in
set_option maxHeartbeats 1000000 in
theorem work_no (p S b s k z y bD bL : Nat) [NeZero p] (oo : Nat → Nat → Fin p) (A0 : Option Addr) (n0 c0 : Nat) (l : List Int) (hl : l.length = n0) (hn0 : n0 ≤ 65536) (hup : Asc l) (AR : Option Addr) (nR cR : Nat) (v3 : Value)
    (a m : Nat) (h1 : 1 ≤ m) (ha : a + m ≤ 65536) (hsh : shownB l a m = false) (x : List Int) (ns : List (List Int)) (An : Option Addr) (nn cn : Nat) (hnn : (x :: ns).length = nn) (hcn : nn ≤ cn) (hx4 : x.length = 4) (fD fL : GF)
    (w : World) (F : Fld w S b p) (G : Spg w s b k z oo) (Y : Way w y bD bL fD fL) (hp : SL w A0 l) (hT : TB w An (x :: ns)) :
    Calls Tryz.prog 118 #[.pointer (some ⟨y, 0, none⟩), .pointer (some ⟨s, 0, none⟩), .agg #[.slice A0 n0 c0, .slice AR nR cR, v3], Gp a (a + m), .slice An nn cn] w
      (WorkIs y bD bL ((updF fD a m (fvs (els p x)), fL), ns) w) := by
  have hsl := block_lt_of_cell G.c0
  have hpm := F.max
  obtain ⟨ad, A1, n1, c1, rfl, hb1, hc1, hl1, hn1, hs1, hi1⟩ := hT 0 (by simp)
  have hTt := hT.tail
  have ead : ad.add 0 = ad := by simp [Addr.add]
  rw [ead] at hb1 hc1
  change x.length = n1 at hl1
  change SL w A1 x at hs1
  have hi1' : ∀ j ∈ x, I64 j := hi1
  obtain ⟨W, hW⟩ : ∃ W, W = (w.alloc (.cells #[.slice A0 n0 c0, .slice AR nR cR, v3] 51)).alloc (.cells #[vi a, vi ((a : Int) + (m : Int))] 139) := ⟨_, rfl⟩
  have hb0 : Below w.heap.size w W := by rw [hW]; exact ((Below.refl _ _).alloc (Nat.le_refl _) _).alloc (by simp) _
  have hB7 := (Blk.new w 51 #[.slice A0 n0 c0, .slice AR nR cR, v3]).alloc (.cells #[vi a, vi ((a : Int) + (m : Int))] 139)
  have hB8 := Blk.new (w.alloc (.cells #[.slice A0 n0 c0, .slice AR nR cR, v3] 51)) 139 #[vi a, vi ((a : Int) + (m : Int))]
  rw [← hW] at hB7 hB8
  rw [show (w.alloc (.cells #[.slice A0 n0 c0, .slice AR nR cR, v3] 51)).heap.size = w.heap.size + 1 by simp] at hB8
  have d0 := (hB7.cell 0).trans (show _ = some (.slice A0 n0 c0) from rfl)
  have HSH := Lib.hid (shows_any A0 n0 c0 l hl hn0 hup a m ha W (hp.below hb0))
  rw [hsh] at HSH
  have HB0 := Lib.hid hb0
  have HB8 := Lib.hid hB8
  have HWE := Lib.hid hW
  have HEL := Lib.hid (fun W' (hs : SL W' A1 x) hc => elements_any p b hpm A1 n1 c1 x hl1 hi1' (by omega) W' hs hc)
  have HF := Lib.hid F
  have HG := Lib.hid G
  have HY := Lib.hid Y
  have HSF := Lib.hid (fun W' (G : Spg W' s b k z oo) => sfield_s s b k z oo W' G)
  have HS1 := Lib.hid hs1
  have HC1 := Lib.hid hc1
  have HTT := Lib.hid hTt
  have HLN := Lib.hid hnn
  have hd4 : (fvs (els p x)).length = 4 := by simp [fvs, els, hx4]
  obtain ⟨d, hd⟩ : ∃ d, d = fvs (els p x) := ⟨_, rfl⟩
  rw [← hd] at hd4 HEL ⊢
  obtain ⟨x0, x1, x2, x3, hd'⟩ := four_of hd4
  subst hd'
  have nn1 : (1 : Int) ≤ (nn : Int) := by simp at hnn; omega
  have nn0 : (0 : Int) < (nn : Int) := by omega
  have nnN : 0 < nn := by omega
  have hta := fun (W : World) (g c : Nat) => run_arrayAt (P := Tryz.prog) (w := W) 171 3 4 (some ⟨g, 0, none⟩) 4 c Tryz.underlying171 (Nat.le_refl _)
  have nn2 : (nn : Int) ≤ (cn : Int) := by omega
  rw [hW] at d0 HSH
  clear hW hb0 hB7 hB8 hsh Y F G hp hT hTt hs1 hc1 hi1 hi1' hl1 hnn hd hd4 hx4 hl hup ead
  go_enter Tryz.func118, Tryz.ntmps118
  go_wp2_with fail
  refine HSH.out.mono ?_
  rintro _ w3 ⟨rfl, hb3⟩
  go_wp2_with fail
  rw [← HWE.out] at hb3
  have hb03 : Below w.heap.size w w3 := HB0.out.trans (hb3.mono HB0.out.size)
  have HB03 := Lib.hid hb03
  have KX : Hid (∀ W', Below w3.heap.size w3 W' → Fld W' S b p ∧ Spg W' s b k z oo ∧ SL W' A1 x ∧ Way W' y bD bL fD fL ∧ Below w.heap.size w W') := Lib.hid fun W' hb => by
    have hb' := HB03.out.trans (hb.mono HB03.out.size)
    exact ⟨HF.out.below hb' HF.out.le, HG.out.below hb' hsl, HS1.out.below hb', HY.out.below hb', hb'⟩
  have hB8' := Blk.below HB8.out hb3 HB8.out.lt
  have KS : Hid (∀ W', Below w3.heap.size w3 W' → W'.cell? ⟨y, 0, none⟩ = some (.map (some bD)) ∧ W'.cell? ⟨w.heap.size + 1, 0, none⟩ = some (vi a) ∧ W'.cell? ⟨w.heap.size + 1, 1, none⟩ = some (vi ((a : Int) + m)) ∧ W'.cell? ad = some (.slice A1 n1 c1)) := Lib.hid fun W' hb => by
    have hq := Blk.below hB8' hb hB8'.lt
    have hb' := HB03.out.trans (hb.mono HB03.out.size)
    exact ⟨((HY.out.below hb').obj.cell 0).trans rfl, (hq.cell 0).trans rfl, (hq.cell 1).trans rfl, (hb'.cell (p := ad) hb1).trans HC1.out⟩
  have hb33 : Below w3.heap.size w3 w3.drew := below_drewN (Below.refl _ _) 1
  clear hB8' hb3 hb03
  refine wp_region_held_drew (S := fun w' => w'.cell? ⟨y, 0, none⟩ = some (.map (some bD)) ∧ w'.cell? ⟨w.heap.size + 1, 0, none⟩ = some (vi a) ∧ w'.cell? ⟨w.heap.size + 1, 1, none⟩ = some (vi ((a : Int) + m)) ∧ w'.cell? ad = some (.slice A1 n1 c1)) (by kernel_rfl) (KS.out _ hb33) (fun hHeld => ?_)
  refine tkH 0 ?_
  refine tkH 1 ?_
  refine tkH 2 ?_
  refine tkH 3 ?_
  refine tkH 4 ?_
  refine tkH 5 ?_
  refine tkH 7 ?_
  refine tkH 8 ?_
  refine tkH 9 ?_
  refine stH 6 (fun K hK => ?_)
  go_simp
  refine (HSF.out _ (KX.out _ hb33).2.1).mono ?_
  rintro _ _ ⟨rfl, rfl⟩
  refine hK.out _ _ (by (first | exact KS.out _ (by assumption) | (simp only [Act.put]; exact KS.out _ (by assumption)))) (fun hHeld => ?_)
  clear hK K
  (try simp only [Act.put, List.setIfInBounds_toArray, List.set_cons_zero, List.set_cons_succ])
  refine stH 10 (fun K hK => ?_)
  go_simp
  refine (HEL.out _ (KX.out _ hb33).2.2.1 (KX.out _ hb33).1.c0).mono ?_
  rintro _ w4 ⟨v4, rfl, ho4, hb4⟩
  obtain ⟨g4, c4, rfl, hg41, hg42⟩ := ho4.block (by simp)
  have q0 := ho4.at_ rfl 0 (by simp)
  have q1 := ho4.at_ rfl 1 (by simp)
  have q2 := ho4.at_ rfl 2 (by simp)
  have q3 := ho4.at_ rfl 3 (by simp)
  simp only [List.length_cons, List.length_nil, List.getElem_cons_zero, List.getElem_cons_succ] at q0 q1 q2 q3 ⊢
  have hb34 := hb33.trans (hb4.mono hb33.size)
  obtain ⟨w5, hrun, hY5, hg5⟩ := (KX.out _ hb34).2.2.2.1.putD h1 ha [x0, x1, x2, x3]
  have HY5 := Lib.hid hY5
  have HG5 := Lib.hid hg5
  change (Instr.mapUpdate _ _ _ (.agg #[vi x0, vi x1, vi x2, vi x3])).run _ _ = _ at hrun
  clear hY5 hg5 ho4
  refine hK.out _ _ (by (first | exact KS.out _ (by assumption) | (simp only [Act.put]; exact KS.out _ (by assumption)))) (fun hHeld => ?_)
  clear hK K
  (try simp only [Act.put, List.setIfInBounds_toArray, List.set_cons_zero, List.set_cons_succ])
  refine stH 11 (fun K hK => ?_)
  go_simp
  refine hK.out _ _ (by (first | exact KS.out _ (by assumption) | (simp only [Act.put]; exact KS.out _ (by assumption)))) (fun hHeld => ?_)
  clear hK K
  (try simp only [Act.put, List.setIfInBounds_toArray, List.set_cons_zero, List.set_cons_succ])
  refine stH 12 (fun K hK => ?_)
  go_simp
  refine hK.out _ _ (by (first | exact KS.out _ (by assumption) | (simp only [Act.put]; exact KS.out _ (by assumption)))) (fun hHeld => ?_)
  clear hK K
  (try simp only [Act.put, List.setIfInBounds_toArray, List.set_cons_zero, List.set_cons_succ])
  refine stH 13 (fun K hK => ?_)
  go_simp
  refine hK.out _ _ ?_ (fun hHeld => ?_)
  · have hb := KS.out _ hb34
    have hm := (KX.out _ hb34).2.2.2.1
    have hg : GrowM w4 w5 bD bL := GrowM.one HG5.out
    exact ⟨hg.cell hm.mapD hm.mapL hb.1, hg.cell hm.mapD hm.mapL hb.2.1, hg.cell hm.mapD hm.mapL hb.2.2.1, hg.cell hm.mapD hm.mapL hb.2.2.2⟩
  clear hK K
  (try simp only [Act.put, List.setIfInBounds_toArray, List.set_cons_zero, List.set_cons_succ])
  refine wpAnyH_done (by kernel_rfl) ?_ _
  clear hHeld
  have hm := (KX.out _ hb34).2.2.2.1
  have hgm : GrowM w w5 bD bL := (GrowM.of (KX.out _ hb34).2.2.2.2).trans (GrowM.one HG5.out)
  have HFIN : Hid (Way w5 y bD bL (updF fD a m [x0, x1, x2, x3]) fL ∧ GrowM w w5 bD bL ∧ TB w5 (some (ad.add 1)) ns) := Lib.hid ⟨HY5.out, hgm, HTT.out.growM hgm HY.out.mapD HY.out.mapL⟩
  clear hm hgm q0 q1 q2 q3 hrun KX KS HSH HEL HSF hta
  have HNS : Hid (ns.length = nn - 1) := Lib.hid (by have := HLN.out; simp at this; omega)
  by_cases hc1 : cn = 1
  · have hn0 : ns = [] := List.eq_nil_of_length_eq_zero (by have := HLN.out; simp at this; omega)
    subst hc1
    have e : nn = 1 := by omega
    subst e
    go_wp2
    go_ret
    exact ⟨_, _, _, rfl, HNS.out, by omega, by rw [hn0]; exact TB.none_ _ _, HFIN.out.1, HFIN.out.2.1⟩
  · go_wp2
    go_ret
    exact ⟨_, _, _, rfl, HNS.out, by omega, HFIN.out.2.2, HFIN.out.1, HFIN.out.2.1⟩
end Go.Proofs.YteceghbjjnknbaaGreat

namespace Go.Proofs.YteceghbjjnknbaaGreat
open Go.RowKit Zp Go.MapKept Go.ChangeMaps
theorem LMap.put {w w' : World} {bL a m : Nat} {fL : GF} {F F' : Value → Option Value} {l : List Int} {v : Value} (h : ∀ a m, 1 ≤ m → a + m ≤ 65536 → LIs w (F (Gp a (a + m))) (fL a m)) (hs : ∀ A xs, SL w A xs → SL w' A xs)
    (hm : MapIs Tryz.prog 139 w' bL F') (hp : Put F F' (Gp a (a + m)) v) (hv : LIs w' (some v) (some l)) : LMap w' bL (updF fL a m l) := by
  refine ⟨F', hm, fun a' m' h1 h2 => ?_⟩
  by_cases e : a' = a ∧ m' = m
  · obtain ⟨rfl, rfl⟩ := e
    rw [updF_same, hp.1]; exact hv
  · rw [updF_other _ _ e, hp.2 _ (fun he => e ?_)]
    · exact (h a' m' h1 h2).mono hs
    · have := gp_inj he
      omega
structure PutBoth (w : World) (y bD bL a m : Nat) (fD fL : GF) (d l : List Int) (v : Value) (v0 v1 : Value) (s0 s1 : Nat) (w1 w2 w3 w4 : World) : Prop where
  r1 : (Instr.mapEntry 167 (.map (some bL)) (.agg #[vi (a : Int), vi ((a : Int) + (m : Int))])).run Tryz.prog w = .ok (.tuple #[v0, vi (s0 : Int)]) w1
  r2 : (Instr.entryStore 167 (.map (some bL)) (vi (s0 : Int)) v).run Tryz.prog w1 = .ok () w2
  r3 : (Instr.mapEntry 166 (.map (some bD)) (.agg #[vi (a : Int), vi ((a : Int) + (m : Int))])).run Tryz.prog w2 = .ok (.tuple #[v1, vi (s1 : Int)]) w3
  r4 : (Instr.entryStore 166 (.map (some bD)) (vi (s1 : Int)) (dgV d)).run Tryz.prog w3 = .ok () w4
  way : Way w4 y bD bL (updF fD a m d) (updF fL a m l)
  g1 : GrowM w w1 bD bL
  g2 : GrowM w w2 bD bL
  g3 : GrowM w w3 bD bL
  g4 : GrowM w w4 bD bL
theorem Way.putBoth {w : World} {y bD bL a m : Nat} {fD fL : GF} (h : Way w y bD bL fD fL) (h1 : 1 ≤ m) (h2 : a + m ≤ 65536) (d l : List Int) (v : Value) (hv : LIs w (some v) (some l)) :
    ∃ v0 v1 s0 s1 w1 w2 w3 w4, PutBoth w y bD bL a m fD fL d l v v0 v1 s0 s1 w1 w2 w3 w4 := by
  have hmD := h.mapD
  have hmL := h.mapL
  obtain ⟨FL, l1, l2⟩ := h.lis
  obtain ⟨FD, d1, d2⟩ := h.dig
  obtain ⟨kl, hkl⟩ := key_gp (a := a) (c := a + m) (by omega)
  have e : Gp a (a + m) = .agg #[vi (a : Int), vi ((a : Int) + (m : Int))] := by simp [Gp]
  obtain ⟨v0, s0, w1, e1, n1, g1⟩ := l1.entry keyed_group Tryz.underlying167 (z := .slice none 0 0) (by kernel_rfl) hkl
  obtain ⟨w2, FL', e2, m2, p2, g2⟩ := n1.store 167 v
  have G1 : GrowM w w1 bD bL := GrowM.two g1
  have G2 : GrowM w w2 bD bL := G1.trans (GrowM.two g2)
  have neDL : some bD ≠ some bL := fun e' => h.ne (Option.some.inj e')
  have neLD : some bL ≠ some bD := fun e' => h.ne (Option.some.inj e').symm
  have d1' := (d1.kept g1 neDL).kept g2 neDL
  obtain ⟨v1, s1, w3, e3, n3, g3⟩ := d1'.entry keyed_group Tryz.underlying166 (z := .agg #[vi 0, vi 0, vi 0, vi 0]) (by kernel_rfl) hkl
  obtain ⟨w4, FD', e4, m4, p4, g4⟩ := n3.store 166 (dgV d)
  have G3 : GrowM w w3 bD bL := G2.trans (GrowM.one g3)
  have G4 : GrowM w w4 bD bL := G3.trans (GrowM.one g4)
  have hs : ∀ A xs, SL w A xs → SL w4 A xs := fun A xs hs => hs.growM G4 hmD hmL
  refine ⟨v0, v1, s0, s1, w1, w2, w3, w4, ⟨by rw [← e]; exact e1, e2, by rw [← e]; exact e3, e4, ?_, G1, G2, G3, G4⟩⟩
  exact ⟨G4.blk hmD hmL h.obj, DMap.put d2 m4 p4, LMap.put l2 hs ((m2.kept g3 neLD).kept g4 neLD) p2 (hv.mono hs), h.ne⟩
end Go.Proofs.YteceghbjjnknbaaGreat
