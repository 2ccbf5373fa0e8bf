/- A bundle of texts: Rf, LawM4. -/
import Derived.Test.YtgmkcmahbefcoaaDoorB04
import Derived.Test.YtgmkcmahbefcoaaDoorB03
import Derived.Test.YtgmkcmahbefcoaaDoorB02
import Derived.BigQuiet
import Derived.IntWalk
import Derived.Test.YtgmkcmahbefcoaaDoorB09
/- Walks of the reference's Point, Pair, Fold of a word. -/
set_option linter.unusedVariables false
namespace Go.Proofs.YtgmkcmahbefcoaaDoor
open Go.RowKit Zp

theorem pair_eq {p : Nat} [NeZero p] (a b r x : Fin p) : (a + b) * Zp.inv (el p 2) + (a - b) * Zp.inv (x * el p 2) * r = foldE a b r x := by
  unfold foldE half2
  have e : Zp.inv (x * el p 2) = Zp.inv x * Zp.inv (el p 2) := mul_pw _ _ _
  rw [e]; grind
set_option maxRecDepth 100000 in
set_option maxHeartbeats 1000000 in
theorem rpoint_any (q : Nat) [NeZero q] (hq2 : 2 ≤ q) (hqm : q ≤ 2147483647) (n i : Nat) (hi : i ≤ 65536) (s r : Fin q) (w : World) :
    Calls Tryd.prog 85 #[RDom q n (fv s) (fv r), vi i] w fun e w' => SaysW (vi (fv (s * pw r i))) w e w' := by
  have h1 := fun w => rpow_nn q hq2 hqm (fv r) i (i64_fv _ hqm) ⟨by omega, by omega⟩ (by omega) w
  have h2 := fun w => rmul_any q hqm (fv (pw r i)) (fv s) (i64_fv _ hqm) (i64_fv _ hqm) w
  simp only [el_fv, Int.natAbs_natCast] at h1 h2
  rw [show pw r i * s = s * pw r i by grind] at h2
  generalize fv (s * pw r i) = S at h2 ⊢
  generalize fv (pw r i) = R at h1 h2
  have H1 := Lib.hid h1
  have H2 := Lib.hid h2
  clear h1 h2
  go_enter Tryd.func85, Tryd.ntmps85
  go_wp2_with fail
  refine (H1.out _).mono ?_
  rintro e w' ⟨rfl, rfl⟩
  go_wp2_with fail
  refine (H2.out _).mono ?_
  rintro e w' ⟨rfl, rfl⟩
  go_wp2
  go_ret
  exact ⟨rfl, (Below.refl _ _).alloc (Nat.le_refl _) _⟩
set_option maxRecDepth 100000 in
set_option maxHeartbeats 2000000 in
theorem rpair_any (q : Nat) [NeZero q] (hq2 : 2 ≤ q) (hqm : q ≤ 2147483647) (n i : Nat) (hi : i ≤ 65536) (s r : Fin q) (x y c : Int) (hx : I64 x) (hy : I64 y) (hc : I64 c) (w : World) :
    Calls Tryd.prog 57 #[RDom q n (fv s) (fv r), vi i, vi x, vi y, vi c] w fun e w' => SaysW (vi (fv (foldE (el q x) (el q y) (el q c) (s * pw r i)))) w e w' := by
  have hI2 : I64 2 := by constructor <;> decide
  have h0 := fun w => rpoint_any q hq2 hqm n i hi s r w
  have h1 := fun w => radd_any q hqm x y hx hy w
  have h2 := fun w => rdiv_any q hq2 hqm (fv (el q x + el q y)) 2 (i64_fv _ hqm) hI2 w
  have h3 := fun w => rsub_any q hqm x y hx hy w
  have h4 := fun w => rmul_any q hqm (fv (s * pw r i)) 2 (i64_fv _ hqm) hI2 w
  have h5 := fun w => rdiv_any q hq2 hqm (fv (el q x - el q y)) (fv (s * pw r i * el q 2)) (i64_fv _ hqm) (i64_fv _ hqm) w
  have h6 := fun w => rmul_any q hqm (fv ((el q x - el q y) * Zp.inv (s * pw r i * el q 2))) c (i64_fv _ hqm) hc w
  have h7 := fun w => radd_any q hqm (fv ((el q x + el q y) * Zp.inv (el q 2))) (fv ((el q x - el q y) * Zp.inv (s * pw r i * el q 2) * el q c)) (i64_fv _ hqm) (i64_fv _ hqm) w
  simp only [el_fv] at h2 h4 h5 h6 h7
  rw [pair_eq] at h7
  generalize fv (foldE (el q x) (el q y) (el q c) (s * pw r i)) = Z at h7 ⊢
  generalize fv ((el q x - el q y) * Zp.inv (s * pw r i * el q 2) * el q c) = V6 at h6 h7
  generalize fv ((el q x - el q y) * Zp.inv (s * pw r i * el q 2)) = V5 at h5 h6
  generalize fv (s * pw r i * el q 2) = V4 at h4 h5
  generalize fv (s * pw r i) = V0 at h0 h4
  generalize fv ((el q x + el q y) * Zp.inv (el q 2)) = V2 at h2 h7
  generalize fv (el q x + el q y) = V1 at h1 h2
  generalize fv (el q x - el q y) = V3 at h3 h5
  have H0 := Lib.hid h0
  have H1 := Lib.hid h1
  have H2 := Lib.hid h2
  have H3 := Lib.hid h3
  have H4 := Lib.hid h4
  have H5 := Lib.hid h5
  have H6 := Lib.hid h6
  have H7 := Lib.hid h7
  have hbA : Below w.heap.size w (w.alloc (.cells #[vi q, vi n, vi (fv s), vi (fv r)] 47)) := (Below.refl _ _).alloc (Nat.le_refl _) _
  clear h0 h1 h2 h3 h4 h5 h6 h7
  go_enter Tryd.func57, Tryd.ntmps57
  go_wp2_with fail
  refine (H0.out _).mono ?_
  rintro e w1 ⟨rfl, hb1⟩
  have hbw := hbA.trans (hb1.mono hbA.size)
  have hB1 := (Blk.new w 47 #[vi q, vi n, vi (fv s), vi (fv r)]).below hb1 (by simp)
  have e0 := (hB1.cell 0).trans (show _ = some (vi q) from rfl)
  clear hB1 hbA
  go_wp2_with fail
  refine (H1.out _).mono ?_
  rintro e w' ⟨rfl, rfl⟩
  go_wp2_with fail
  refine (H2.out _).mono ?_
  rintro e w' ⟨rfl, rfl⟩
  go_wp2_with fail
  refine (H3.out _).mono ?_
  rintro e w' ⟨rfl, rfl⟩
  go_wp2_with fail
  refine (H4.out _).mono ?_
  rintro e w' ⟨rfl, rfl⟩
  go_wp2_with fail
  refine (H5.out _).mono ?_
  rintro e w' ⟨rfl, rfl⟩
  go_wp2_with fail
  refine (H6.out _).mono ?_
  rintro e w' ⟨rfl, rfl⟩
  go_wp2_with fail
  refine (H7.out _).mono ?_
  rintro e w' ⟨rfl, rfl⟩
  go_wp2
  go_ret
  exact ⟨rfl, hbw⟩
set_option maxRecDepth 100000 in
set_option maxHeartbeats 2000000 in
theorem rfold_any (q : Nat) [NeZero q] (hq2 : 2 ≤ q) (hqm : q ≤ 2147483647) (n h : Nat) (hn : n = 2 * h) (hn2 : n ≤ 65536) (s r : Fin q) (A : Option Addr) (ca : Nat) (xs : List Int) (hml : xs.length = n) (hxs : ∀ x ∈ xs, I64 x) (c : Int) (hc : I64 c) (w : World) (hs : SL w A xs) :
    Calls Tryd.prog 22 #[RDom q n (fv s) (fv r), .slice A n ca, vi c] w fun e w' => Made (fvs (foldL s r h (els q xs) (el q c))) w e w' := by
  have hbA : Below w.heap.size w (w.alloc (.cells #[vi q, vi n, vi (fv s), vi (fv r)] 47)) := (Below.refl _ _).alloc (Nat.le_refl _) _
  have hB := Blk.new w 47 #[vi q, vi n, vi (fv s), vi (fv r)]
  have HML := Lib.hid hml
  have HN := Lib.hid hn
  have HP := Lib.hid (fun i (hi : i ≤ 65536) x y (hx : I64 x) (hy : I64 y) W => rpair_any q hq2 hqm n i hi s r x y c hx hy hc W)
  have hll : (fvs (foldL s r h (els q xs) (el q c))).length = h := by rw [List.length_map, foldL_length]
  have hat : ∀ (k : Nat) (x y : Int), k < h → xs[k]? = some x → xs[k + h]? = some y → (fvs (foldL s r h (els q xs) (el q c))).take k ++ [fv (foldE (el q x) (el q y) (el q c) (s * pw r k))] = (fvs (foldL s r h (els q xs) (el q c))).take (k + 1) := fun k x y hk hx hy => by
    rw [List.take_succ_eq_append_getElem (by rw [hll]; exact hk)]
    congr 2
    obtain ⟨hk1, rfl⟩ := List.getElem?_eq_some_iff.1 hx
    obtain ⟨hk2, rfl⟩ := List.getElem?_eq_some_iff.1 hy
    simp only [fvs, foldL, List.getElem_map, tab_get]
    rw [co_of_lt (by simp [els]; omega), co_of_lt (by simp [els]; omega)]
    simp [els]
  have HLL := Lib.hid hll
  have HAT := Lib.hid hat
  have HXS := Lib.hid hxs
  have e0 := (hB.cell 0).trans (show _ = some (vi q) from rfl)
  have e1 := (hB.cell 1).trans (show _ = some (vi n) from rfl)
  have e2 := (hB.cell 2).trans (show _ = some (vi (fv s)) from rfl)
  have e3 := (hB.cell 3).trans (show _ = some (vi (fv r)) from rfl)
  have hsA := hs.below hbA
  generalize fvs (foldL s r h (els q xs) (el q c)) = L at hat HLL HAT ⊢
  obtain ⟨W, hW⟩ : ∃ W, W = w.alloc (.cells #[vi q, vi n, vi (fv s), vi (fv r)] 47) := ⟨_, rfl⟩
  have hBl : w.heap.size < W.heap.size := by rw [hW]; simp
  rw [← hW] at e0 e1 e2 e3 hsA hbA
  have HW := Lib.hid hW
  have HBA := Lib.hid hbA
  have HSA := Lib.hid hsA
  have t2 : (n : Int).tdiv 2 = (h : Int) := by rw [Int.tdiv_eq_ediv_of_nonneg (by omega)]; omega
  have t3 : (n : Int) / 2 = (h : Int) := by omega
  have t3' : n / 2 = h := by omega
  have t4' : IntKind.i64.wrap (h : Int) = h := IntWalk.i64_in _ (by constructor <;> omega)
  have hh2 : h ≤ 32768 := by omega
  clear hat hll hml hxs hB hs hW hbA hsA hn
  go_enter Tryd.func22, Tryd.ntmps22
  go_wp2
  rw [← HW.out]
  clear HW
  go_loopw [7, 8, 9] (fun v i _ wr => ∃ k : Nat, k ≤ h ∧ i = vi k ∧ Own wr W.heap.size v (L.take k) ∧ Below W.heap.size W wr) (fun _ i _ _ => h - (intOf i).toNat)
  case atStart => exact ⟨0, Nat.zero_le _, rfl, World.ownsRow_nil _ _ _ _, Below.refl _ _⟩
  case round =>
    obtain ⟨k, hk, rfl, hown, hb⟩ := hrel
    have f1 := (hb.cell (p := ⟨w.heap.size, 1, none⟩) hBl).trans e1
    by_cases hkh : k < h
    · have f0 := (hb.cell (p := ⟨w.heap.size, 0, none⟩) hBl).trans e0
      have f2 := (hb.cell (p := ⟨w.heap.size, 2, none⟩) hBl).trans e2
      have f3 := (hb.cell (p := ⟨w.heap.size, 3, none⟩) hBl).trans e3
      have hk1 : k < xs.length := by have := HML.out; have := HN.out; omega
      have hk2 : k + h < xs.length := by have := HML.out; have := HN.out; omega
      have hsr := HSA.out.below hb
      obtain ⟨ad, rfl, hl1, hc1⟩ := hsr.at_ hk1
      obtain ⟨ad', e', _, hc2⟩ := hsr.at_ hk2
      injection e' with e'
      subst e'
      have hx := HXS.out _ (List.getElem_mem hk1)
      have hy := HXS.out _ (List.getElem_mem hk2)
      obtain ⟨x, hxe⟩ : ∃ x, x = xs[k] := ⟨_, rfl⟩
      obtain ⟨y, hye⟩ : ∃ y, y = xs[k + h] := ⟨_, rfl⟩
      have ha := HAT.out k x y hkh (by rw [List.getElem?_eq_getElem hk1, hxe]) (by rw [List.getElem?_eq_getElem hk2, hye])
      rw [← hxe] at hc1 hx
      rw [← hye] at hc2 hy
      have hp := HP.out k (by omega) x y hx hy
      generalize fv (foldE (el q x) (el q y) (el q c) (s * pw r k)) = Z at ha hp
      have HPP := Lib.hid hp
      have HA := Lib.hid ha
      have hlk : (L.take k).length < 17592186044416 := by have := List.length_take_le k L; omega
      have HLK := Lib.hid hlk
      have HB := Lib.hid hb
      have k0 : (0 : Int) ≤ (k : Int) := by omega
      have k1 : (k : Int) < (n : Int) := by omega
      have k2 : (k : Int) + h < (n : Int) := by omega
      have k3 : (0 : Int) ≤ (k : Int) + h := by omega
      have k4 : k < n := by omega
      have k5 : k + h < n := by omega
      have k6 : ((k : Int) + h).toNat = k + h := by omega
      have k7 : IntKind.i64.wrap ((k : Int) + h) = (k : Int) + h := IntWalk.i64_in _ (by constructor <;> omega)
      have hwl := Nat.lt_of_lt_of_le hBl hb.size
      clear ha hp hlk hxe hye hk1 hk2 hb hx hy
      go_wp2
      go_region_held3 (fun w' => w'.cell? ⟨w.heap.size, 0, none⟩ = some (vi q) ∧ w'.cell? ⟨w.heap.size, 1, none⟩ = some (vi n) ∧ w'.cell? ⟨w.heap.size, 2, none⟩ = some (vi (fv s)) ∧ w'.cell? ⟨w.heap.size, 3, none⟩ = some (vi (fv r)) ∧ w'.cell? (ad.add k) = some (vi x) ∧ w'.cell? (ad.add (k + h)) = some (vi y)) (first | exact ⟨f0, f1, f2, f3, hc1, hc2⟩ | exact ⟨(hb5.cell (p := ⟨w.heap.size, 0, none⟩) hwl).trans f0, (hb5.cell (p := ⟨w.heap.size, 1, none⟩) hwl).trans f1, (hb5.cell (p := ⟨w.heap.size, 2, none⟩) hwl).trans f2, (hb5.cell (p := ⟨w.heap.size, 3, none⟩) hwl).trans f3, (hb5.cell (p := ad.add k) (by rw [block_of_add]; exact hl1)).trans hc1, (hb5.cell (p := ad.add (k + h)) (by rw [block_of_add]; exact hl1)).trans hc2⟩) ((go_at_call 57; refine (HPP.out wr.drew).mono ?_; rintro e w5 ⟨rfl, hb5d⟩; have hb5 : Below wr.heap.size wr w5 := (show Below wr.heap.size wr wr.drew from below_drewN (Below.refl _ _) 1).trans hb5d; clear hb5d))
      all_goals
        have hbw5 := HB.out.trans (hb5.mono HB.out.size)
        have hown5 := hown.below hb5
        go_wp2_with (at_builtin; refine wpList_app1 _ _ rfl _ _ rfl W.heap.size _ _ rfl rfl hown5 HLK.out hbw5.size ?_; intro v' w6 hg)
        go_roundw
        case rel => exact ⟨k + 1, by omega, by go_num, by rw [← HA.out]; exact hg.own, hg.below hbw5 hown5 (Nat.le_refl _) hbw5.size⟩
        case measure => simp [intOf]; omega
    · have ek : k = h := by omega
      subst ek
      have t5 : ¬ (k : Int) < (k : Int) := by omega
      rw [List.take_of_length_le (by rw [HLL.out]; exact Nat.le_refl _)] at hown
      go_wp2
      go_ret
      exact ⟨_, rfl, hown.more HBA.out.size, HBA.out.trans (hb.mono HBA.out.size)⟩
end Go.Proofs.YtgmkcmahbefcoaaDoor

/- The walk of the law FoldFolds. -/
set_option linter.unusedVariables false
namespace Go.Proofs.YtgmkcmahbefcoaaDoor
open Go.RowKit Zp

theorem made5_no (p size t : Int) (hp : I64 p) (hs : I64 size) (ht : I64 t) (h : ¬ HasDom2 p size t) (w : World) (hT : Typed w) :
    Calls Tryd.prog 20 #[vi p, vi size, vi t] w fun e w' => SaysW NoMade5 w e w' := by
  by_cases hF : HasField p
  · obtain ⟨h3, hm, hpr⟩ := hF
    obtain ⟨q, rfl⟩ := Int.eq_ofNat_of_zero_le (a := p) (by omega)
    rw [Int.toNat_natCast] at hpr
    haveI := hpr.ne
    exact made5_nod q (by omega) (by omega) hpr size t hs ht (fun ⟨n, h1, h2, h3'⟩ => h ⟨⟨by omega, hm, by rw [Int.toNat_natCast]; exact hpr⟩, n, h1, by rw [Int.toNat_natCast]; exact h2, h3'⟩) w hT
  · exact made5_nof p size t hp hF w hT
set_option maxRecDepth 100000 in
set_option maxHeartbeats 1000000 in
theorem ffolds_walk (w : World) (p : Int) (hp : I64 p) (size : Int) (hs : I64 size) (t : Int) (ht : I64 t) (A : Option Addr) (m ca : Nat) (xs : List Int) (ha : ArgS w A m ca xs) (c : Int) (hc : I64 c) (hT : Typed w) :
    Calls Tryd.prog 5 #[vi p, vi size, vi t, .slice A m ca, vi c] w fun e w' => SaysW (.bool true) w e w' := by
  have hra := ha.r8
  rw [ha.len] at hra
  by_cases hD : HasDom2 p size t
  · obtain ⟨⟨h3, hm, hpr⟩, n, rfl, hsz, h0⟩ := hD
    obtain ⟨q, rfl⟩ := Int.eq_ofNat_of_zero_le (a := p) (by omega)
    rw [Int.toNat_natCast] at hpr hsz
    haveI := hpr.ne
    have hqm : q ≤ 2147483647 := by omega
    have hq2 : 2 ≤ q := by omega
    have hn := hsz.le
    have hn1 := hsz.pos
    have hM := made5_yes q n (by omega) hqm hpr t ht hsz h0 w hT
    obtain ⟨s, hsE⟩ : ∃ s, s = el q t := ⟨_, rfl⟩
    obtain ⟨r, hrE⟩ : ∃ r, r = rootI q (n : Int) := ⟨_, rfl⟩
    have hMT : MadeFive q n t = fun w e w' => ∃ (b D : Nat) (sp : Value), e = .returned (.tuple #[.pointer (some ⟨D, 0, none⟩), sp, RDom q n (fv s) (fv r), .bool true]) ∧ Dom w' w'.heap.size D b q n s ∧ SpgIf q sp w' ∧ Below w.heap.size w w' := by rw [hsE, hrE]; rfl
    rw [hMT] at hM
    have HM := Lib.hid hM
    clear hM hMT
    have HSA := Lib.hid ha.sl
    have HLA := Lib.hid ha.len
    by_cases h1 : n = 1 ∨ m ≠ n
    · have hF := fun (D : Nat) (AX : Option Addr) (cX : Nat) W (hcW : W.cell? ⟨D, 1, none⟩ = some (vi n)) => fold_no D n AX m cX c h1 W hcW
      have HF := Lib.hid hF
      have HE := Lib.hid (fun W hg => errIs 2 (by decide) W hg)
      have HOR := Lib.hid h1
      clear hF h1 hpr hsz h0 hsE hrE
      by_cases hmn : m = n
      · have t1 : ((m : Int) != (n : Int)) = false := by rw [bne_eq_false_iff_eq]; omega
        have t2 : ((n : Int) == 1) = true := by rw [beq_iff_eq]; rcases HOR.out with h | h <;> omega
        clear hmn
        go_enter Tryd.func5, Tryd.ntmps5
        go_wp2_with fail
        refine (HM.out).mono ?_
        rintro e w1 ⟨b, D, sp, rfl, hD, _, hb1⟩
        have hba : Below w1.heap.size w1 (w1.alloc (.cells #[vi q, vi n, vi (fv s), vi (fv r)] 47)) := (Below.refl _ _).alloc (Nat.le_refl _) _
        have hrd := RD.new w1 47 q n (fv s) (fv r)
        have hltB : w1.heap.size < (w1.alloc (.cells #[vi q, vi n, vi (fv s), vi (fv r)] 47)).heap.size := by simp
        have hD2 := hD.below hba hD.fld.le
        have bw2 := hb1.trans (hba.mono hb1.size)
        have sa2 := HSA.out.below bw2
        obtain ⟨B0, hB⟩ : ∃ B0, B0 = w1.heap.size := ⟨_, rfl⟩
        go_upto_region 4 with (fail)
        rw [← hB] at hrd hltB hD2 ⊢
        clear hD hba hB hb1
        generalize w1.alloc (.cells #[vi q, vi n, vi (fv s), vi (fv r)] 47) = w2 at hrd hltB hD2 bw2 sa2 ⊢
        have hba2 : Below w2.heap.size w2 (w2.alloc (.cells #[] 3)) := (Below.refl _ _).alloc (Nat.le_refl _) _
        have ho2 := own_empty w2 w2.heap.size (Nat.le_refl _)
        have sa2a := sa2.below hba2
        go_wp2_with (at_builtin; refine wpList_appA (w2.alloc (.cells #[] 3)) rfl _ _ rfl w2.heap.size _ [] A m ca xs rfl rfl HLA.out ho2 sa2a (by simp; omega) (by simp) ?_; intro v' w3 hg; have hown := hg.own; have hb3 := hg.below hba2 ho2 (Nat.le_refl _) (by simp); rw [List.nil_append] at hown; clear hg; obtain ⟨AX, nX, cX, rfl, hlX, hcX, _, sx3⟩ := hown.shapeN; rw [HLA.out] at hlX; subst hlX; clear hown)
        have hD3 := hD2.below hb3 hD2.fld.le
        have sa3 := sa2.below hb3
        have bw3 := bw2.trans (hb3.mono bw2.size)
        have hrd3 := hrd.below hb3 hltB
        have hlt3 := Nat.lt_of_lt_of_le hltB hb3.size
        clear hb3 hba2 ho2 sa2a hD2 sa2 bw2 hrd hltB
        refine (HF.out D AX cX _ hD3.c1).mono ?_
        rintro e w' ⟨he, rfl⟩
        subst he
        go_wp2_with fail
        refine (HE.out _ (hT.below bw3)).mono ?_
        rintro e w4 ⟨rfl, hb4⟩
        go_wp2
        go_ret
        exact ⟨rfl, bw3.trans (hb4.mono bw3.size)⟩
      · have t1 : ((m : Int) != (n : Int)) = true := by rw [bne_iff_ne]; omega
        clear hmn
        go_enter Tryd.func5, Tryd.ntmps5
        go_wp2_with fail
        refine (HM.out).mono ?_
        rintro e w1 ⟨b, D, sp, rfl, hD, _, hb1⟩
        have hba : Below w1.heap.size w1 (w1.alloc (.cells #[vi q, vi n, vi (fv s), vi (fv r)] 47)) := (Below.refl _ _).alloc (Nat.le_refl _) _
        have hrd := RD.new w1 47 q n (fv s) (fv r)
        have hltB : w1.heap.size < (w1.alloc (.cells #[vi q, vi n, vi (fv s), vi (fv r)] 47)).heap.size := by simp
        have hD2 := hD.below hba hD.fld.le
        have bw2 := hb1.trans (hba.mono hb1.size)
        have sa2 := HSA.out.below bw2
        obtain ⟨B0, hB⟩ : ∃ B0, B0 = w1.heap.size := ⟨_, rfl⟩
        go_upto_region 4 with (fail)
        rw [← hB] at hrd hltB hD2 ⊢
        clear hD hba hB hb1
        generalize w1.alloc (.cells #[vi q, vi n, vi (fv s), vi (fv r)] 47) = w2 at hrd hltB hD2 bw2 sa2 ⊢
        have hba2 : Below w2.heap.size w2 (w2.alloc (.cells #[] 3)) := (Below.refl _ _).alloc (Nat.le_refl _) _
        have ho2 := own_empty w2 w2.heap.size (Nat.le_refl _)
        have sa2a := sa2.below hba2
        go_wp2_with (at_builtin; refine wpList_appA (w2.alloc (.cells #[] 3)) rfl _ _ rfl w2.heap.size _ [] A m ca xs rfl rfl HLA.out ho2 sa2a (by simp; omega) (by simp) ?_; intro v' w3 hg; have hown := hg.own; have hb3 := hg.below hba2 ho2 (Nat.le_refl _) (by simp); rw [List.nil_append] at hown; clear hg; obtain ⟨AX, nX, cX, rfl, hlX, hcX, _, sx3⟩ := hown.shapeN; rw [HLA.out] at hlX; subst hlX; clear hown)
        have hD3 := hD2.below hb3 hD2.fld.le
        have sa3 := sa2.below hb3
        have bw3 := bw2.trans (hb3.mono bw2.size)
        have hrd3 := hrd.below hb3 hltB
        have hlt3 := Nat.lt_of_lt_of_le hltB hb3.size
        clear hb3 hba2 ho2 sa2a hD2 sa2 bw2 hrd hltB
        refine (HF.out D AX cX _ hD3.c1).mono ?_
        rintro e w' ⟨he, rfl⟩
        subst he
        go_wp2_with fail
        refine (HE.out _ (hT.below bw3)).mono ?_
        rintro e w4 ⟨rfl, hb4⟩
        go_wp2
        go_ret
        exact ⟨rfl, bw3.trans (hb4.mono bw3.size)⟩
    · have hmn : m = n := by omega
      obtain ⟨h, hh, hnh⟩ : ∃ h, 0 < h ∧ n = 2 * h := by
        obtain ⟨⟨k, _, e⟩, _⟩ := hsz
        rcases k with _ | k
        · exfalso; apply h1; left; rw [e]
        · exact ⟨2 ^ k, Nat.pow_pos (by omega), by rw [e, Nat.pow_succ, Nat.mul_comm]⟩
      subst hmn
      have t1 : ((m : Int) != (m : Int)) = false := by simp
      have t2 : ((m : Int) == 1) = false := by rw [beq_eq_false_iff_ne]; omega
      have hF := fun (S D b : Nat) (AX : Option Addr) (cX : Nat) W hD hsW => fold_any q S D b m h hnh hh s AX cX xs ha.len ha.i64 c hc W hD hsW
      rw [← hrE] at hF
      have hR := fun W hsW => rfold_any q hq2 hqm m h hnh hn s r A ca xs ha.len ha.i64 c hc W hsW
      generalize fvs (foldL s r h (els q xs) (el q c)) = L at hF hR
      have HF := Lib.hid hF
      have HR := Lib.hid hR
      clear hF hR h1 hpr hsz h0 hsE hrE hnh
      go_enter Tryd.func5, Tryd.ntmps5
      go_wp2_with fail
      refine (HM.out).mono ?_
      rintro e w1 ⟨b, D, sp, rfl, hD, _, hb1⟩
      have hba : Below w1.heap.size w1 (w1.alloc (.cells #[vi q, vi m, vi (fv s), vi (fv r)] 47)) := (Below.refl _ _).alloc (Nat.le_refl _) _
      have hrd := RD.new w1 47 q m (fv s) (fv r)
      have hltB : w1.heap.size < (w1.alloc (.cells #[vi q, vi m, vi (fv s), vi (fv r)] 47)).heap.size := by simp
      have hD2 := hD.below hba hD.fld.le
      have bw2 := hb1.trans (hba.mono hb1.size)
      have sa2 := HSA.out.below bw2
      obtain ⟨B0, hB⟩ : ∃ B0, B0 = w1.heap.size := ⟨_, rfl⟩
      go_upto_region 4 with (fail)
      rw [← hB] at hrd hltB hD2 ⊢
      clear hD hba hB hb1
      generalize w1.alloc (.cells #[vi q, vi m, vi (fv s), vi (fv r)] 47) = w2 at hrd hltB hD2 bw2 sa2 ⊢
      have hba2 : Below w2.heap.size w2 (w2.alloc (.cells #[] 3)) := (Below.refl _ _).alloc (Nat.le_refl _) _
      have ho2 := own_empty w2 w2.heap.size (Nat.le_refl _)
      have sa2a := sa2.below hba2
      go_wp2_with (at_builtin; refine wpList_appA (w2.alloc (.cells #[] 3)) rfl _ _ rfl w2.heap.size _ [] A m ca xs rfl rfl HLA.out ho2 sa2a (by simp; omega) (by simp) ?_; intro v' w3 hg; have hown := hg.own; have hb3 := hg.below hba2 ho2 (Nat.le_refl _) (by simp); rw [List.nil_append] at hown; clear hg; obtain ⟨AX, nX, cX, rfl, hlX, hcX, _, sx3⟩ := hown.shapeN; rw [HLA.out] at hlX; subst hlX; clear hown)
      have hD3 := hD2.below hb3 hD2.fld.le
      have sa3 := sa2.below hb3
      have bw3 := bw2.trans (hb3.mono bw2.size)
      have hrd3 := hrd.below hb3 hltB
      have hlt3 := Nat.lt_of_lt_of_le hltB hb3.size
      clear hb3 hba2 ho2 sa2a hD2 sa2 bw2 hrd hltB
      refine (HF.out _ D b AX cX _ hD3 sx3).mono ?_
      rintro e w4 ⟨v4, rfl, hown4, hb4⟩
      obtain ⟨AL, nL, cL, rfl, hlL, hcL, hmL, slL⟩ := hown4.shapeN
      have sx4 := sx3.below hb4
      have sa4 := sa3.below hb4
      have bw4 := bw3.trans (hb4.mono bw3.size)
      have hrd4 := hrd3.below hb4 hlt3
      have hlt4 := Nat.lt_of_lt_of_le hlt3 hb4.size
      have HLL := Lib.hid hlL
      obtain ⟨e0, e1, e2, e3⟩ := hrd4
      clear hown4 hlL hb4 hrd3
      go_wp2_with fail
      refine (HR.out _ sa4).mono ?_
      rintro e w5 ⟨v5, rfl, hown5, hb5⟩
      obtain ⟨AK, nK, cK, rfl, hlK, hcK, hmK, slK⟩ := hown5.shapeN
      have HLK := Lib.hid hlK
      have hnL : nL ≤ 9223372036854775807 := by simp only [maxLen] at hmL; omega
      have hIS := ints_sameH AL AK nL cL nK cK _ _ HLL.out HLK.out rfl hnL w5 (slL.below hb5) slK
      have HIS := Lib.hid hIS
      have sx5 := sx4.below hb5
      have sa5 := sa4.below hb5
      have HB5 := Lib.hid (bw4.trans (hb5.mono bw4.size))
      clear hown5 hlK hb5 hIS slL slK sx4 sa4
      go_wp2_with fail
      refine (HIS.out).mono ?_
      rintro e w6 ⟨rfl, k6, rfl⟩
      go_wp2_with fail
      refine (ints_sameH AX A m cX m ca xs xs HLA.out HLA.out rfl (by omega) _ (sx5.drewN k6) (sa5.drewN k6)).mono ?_
      rintro e w7 ⟨rfl, k7, rfl⟩
      go_wp2
      go_ret
      exact ⟨rfl, below_drewN HB5.out _⟩
  · have HN := Lib.hid (made5_no p size t hp hs ht hD w hT)
    clear hD
    go_enter Tryd.func5, Tryd.ntmps5
    go_wp2_with fail
    refine (HN.out).mono ?_
    rintro e w1 ⟨rfl, hb1⟩
    go_wp2
    go_ret
    exact ⟨rfl, hb1.alloc hb1.size _⟩
end Go.Proofs.YtgmkcmahbefcoaaDoor
