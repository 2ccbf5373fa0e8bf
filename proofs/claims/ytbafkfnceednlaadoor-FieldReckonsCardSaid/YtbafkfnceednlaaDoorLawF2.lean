/- Walk of the law FieldReckons. -/
import Derived.Test.YtbafkfnceednlaaDoorLawF1
set_option linter.unusedVariables false
namespace Go.Proofs.YtbafkfnceednlaaDoor
open Go.RowKit Zp

theorem SL_of_own' {w : World} {base n c : Nat} {A : Option Addr} {xs : List Int} (h : Own w base (.slice A n c) xs) : SL w A xs := by
  obtain ⟨A', c', e, hs⟩ := h.len
  injection e with e1 e2 e3
  subst e1
  exact hs
theorem ints_same' (A B : Option Addr) (n c m d : Nat) (xs ys : List Int) (hnx : xs.length = n) (hmy : ys.length = m) (he : xs = ys) (hn : n ≤ 9223372036854775807) (w : World) (hsx : SL w A xs) (hsy : SL w B ys) :
    Calls Tryd.prog 31 #[.slice A n c, .slice B m d] w fun e w' => e = .returned (.bool true) ∧ ∃ k, w' = w.drewN k := by
  subst hnx hmy
  have h := ints_any A B c d xs ys hn (by rw [← he]; exact hn) w hsx hsy
  rw [eqB_true he] at h
  exact h
theorem storedR {w w0 : World} {base g n cap B : Nat} {xs : List Int} (h : Own w base (.slice (some ⟨g, 0, none⟩) n cap) xs) (hn : xs.length = n) (j : Nat) (m : Int) (hb : Below B w0 w) (hB : B ≤ g) :
    ∃ W, w.setCell ⟨g, j, none⟩ (vi m) = W ∧ Own W base (.slice (some ⟨g, 0, none⟩) n cap) (xs.set j m) ∧ Below B w0 W ∧ W.heap.size = w.heap.size :=
  ⟨_, rfl, h.store hn.symm j m, hb.setCell (by simpa using hB) _, by simp⟩
theorem someAtR {w : World} {base g n cap : Nat} {xs : List Int} (h : Own w base (.slice (some ⟨g, 0, none⟩) n cap) xs) (hn : xs.length = n) (j : Nat) (hj : j < n) : ∃ x, w.cell? ⟨g, j, none⟩ = some (vi x) ∧ w.frozen? ⟨g, j, none⟩ = false :=
  ⟨_, h.at_ hn.symm j (by omega), h.frozen_ hn.symm j⟩
theorem make6 (w : World) : (Instr.makeSlice 29 (.int .i64 6) (.int .i64 6)).run Tryd.prog w = .ok (.slice (some ⟨w.heap.size, 0, none⟩) 6 6) (w.alloc (.cells (zeros 6) 3)) :=
  make_ints 6 6 (Nat.le_refl _) (by omega) w
set_option maxRecDepth 100000 in
set_option maxHeartbeats 2000000 in
theorem reckons_walk (w : World) (p : Int) (hp : I64 p) (m : Int) (hm' : I64 m) (n : Int) (hn : I64 n) (hT : Typed w) :
    Calls Tryd.prog 4 #[vi p, vi m, vi n] w fun e w' => SaysW (.bool true) w e w' := by
  by_cases hF : HasField p
  · obtain ⟨h3, hm, hpr⟩ := hF
    obtain ⟨q, rfl⟩ := Int.eq_ofNat_of_zero_le (a := p) (by omega)
    rw [Int.toNat_natCast] at hpr
    haveI := hpr.ne
    have hqm : q ≤ 2147483647 := by omega
    have hq2 : 2 ≤ q := by omega
    have HF := Lib.hid (sfield_yes q (by omega) hqm hpr w hT)
    have hmk := make6
    clear hpr
    go_enter Tryd.func4, Tryd.ntmps4
    go_wp2_with fail
    refine (HF.out).mono ?_
    rintro e w1 ⟨b, rfl, F, hb1⟩
    have hc0 := F.c0
    have hlt := F.lt
    go_wp2_with fail
    have own2 := own_made w1 w1.heap.size 6 (Nat.le_refl _) (by omega)
    have hb2 : Below w1.heap.size w1 (w1.alloc (.cells (zeros 6) 3)) := (Below.refl _ _).alloc (Nat.le_refl _) _
    generalize w1.alloc (.cells (zeros 6) 3) = w2 at own2 hb2 ⊢
    have hcb2 : w2.cell? ⟨b, 0, none⟩ = some (vi q) := (hb2.cell (p := ⟨b, 0, none⟩) hlt).trans hc0
    obtain ⟨z2, hat2, hfz2⟩ := someAtR own2 (by simp) 0 (by omega)
    refine (add_any q hqm b m n hm' hn _ hcb2).mono ?_
    rintro e w' ⟨rfl, k2, rfl⟩
    go_wp2_with fail
    obtain ⟨w3, e3, own3, hb3, sz3⟩ := storedR (own2.drewN k2) (by simp) 0 (fv (el q m + el q n)) (below_drewN hb2 k2) (Nat.le_refl _)
    rw [e3]
    clear sz3
    clear e3 own2 hb2 hat2 hfz2 hcb2
    have hcb3 : w3.cell? ⟨b, 0, none⟩ = some (vi q) := (hb3.cell (p := ⟨b, 0, none⟩) hlt).trans hc0
    obtain ⟨z3, hat3, hfz3⟩ := someAtR own3 (by simp) 1 (by omega)
    refine (sub_any q hqm b m n hm' hn _ hcb3).mono ?_
    rintro e w' ⟨rfl, rfl⟩
    go_wp2_with fail
    obtain ⟨w4, e4, own4, hb4, sz4⟩ := storedR own3 (by simp) 1 (fv (el q m - el q n)) hb3 (Nat.le_refl _)
    rw [e4]
    clear sz4
    clear e4 own3 hb3 hat3 hfz3 hcb3
    have hcb4 : w4.cell? ⟨b, 0, none⟩ = some (vi q) := (hb4.cell (p := ⟨b, 0, none⟩) hlt).trans hc0
    obtain ⟨z4, hat4, hfz4⟩ := someAtR own4 (by simp) 2 (by omega)
    refine (mul_any q hqm b m n hm' hn _ hcb4).mono ?_
    rintro e w' ⟨rfl, k4, rfl⟩
    go_wp2_with fail
    obtain ⟨w5, e5, own5, hb5, sz5⟩ := storedR (own4.drewN k4) (by simp) 2 (fv (el q m * el q n)) (below_drewN hb4 k4) (Nat.le_refl _)
    rw [e5]
    clear sz5
    clear e5 own4 hb4 hat4 hfz4 hcb4
    have hcb5 : w5.cell? ⟨b, 0, none⟩ = some (vi q) := (hb5.cell (p := ⟨b, 0, none⟩) hlt).trans hc0
    obtain ⟨z5, hat5, hfz5⟩ := someAtR own5 (by simp) 3 (by omega)
    refine (neg_any q hqm b m hm' _ hcb5).mono ?_
    rintro e w' ⟨rfl, rfl⟩
    go_wp2_with fail
    obtain ⟨w6, e6, own6, hb6, sz6⟩ := storedR own5 (by simp) 3 (fv (0 - el q m)) hb5 (Nat.le_refl _)
    rw [e6]
    clear sz6
    clear e6 own5 hb5 hat5 hfz5 hcb5
    have hcb6 : w6.cell? ⟨b, 0, none⟩ = some (vi q) := (hb6.cell (p := ⟨b, 0, none⟩) hlt).trans hc0
    obtain ⟨z6, hat6, hfz6⟩ := someAtR own6 (by simp) 4 (by omega)
    refine (inv_any q hq2 hqm b m hm' _ hcb6).mono ?_
    rintro e w' ⟨rfl, rfl⟩
    go_wp2_with fail
    obtain ⟨w7, e7, own7, hb7, sz7⟩ := storedR own6 (by simp) 4 (fv (Zp.inv (el q m))) hb6 (Nat.le_refl _)
    rw [e7]
    clear sz7
    clear e7 own6 hb6 hat6 hfz6 hcb6
    have hcb7 : w7.cell? ⟨b, 0, none⟩ = some (vi q) := (hb7.cell (p := ⟨b, 0, none⟩) hlt).trans hc0
    obtain ⟨z7, hat7, hfz7⟩ := someAtR own7 (by simp) 5 (by omega)
    refine (div_any q hq2 hqm b m n hm' hn _ hcb7).mono ?_
    rintro e w' ⟨rfl, k7, rfl⟩
    go_wp2_with fail
    obtain ⟨w8, e8, own8, hb8, sz8⟩ := storedR (own7.drewN k7) (by simp) 5 (fv (el q m * Zp.inv (el q n))) (below_drewN hb7 k7) (Nat.le_refl _)
    rw [e8]
    clear e8 own7 hb7 hat7 hfz7 hcb7
    have sz8' : w8.heap.size = w7.heap.size := sz8
    rw [← sz8']
    clear sz8 sz8'
    have own9 := own_made w8 w8.heap.size 6 (Nat.le_refl _) (by omega)
    have hb9 : Below w8.heap.size w8 (w8.alloc (.cells (zeros 6) 3)) := (Below.refl _ _).alloc (Nat.le_refl _) _
    generalize w8.alloc (.cells (zeros 6) 3) = w9 at own9 hb9 ⊢
    obtain ⟨z9, hat9, hfz9⟩ := someAtR own9 (by simp) 0 (by omega)
    refine (radd_any q hqm m n hm' hn _).mono ?_
    rintro e w' ⟨rfl, rfl⟩
    go_wp2_with fail
    obtain ⟨w10, e10, own10, hb10, sz10⟩ := storedR own9 (by simp) 0 (fv (el q m + el q n)) hb9 (Nat.le_refl _)
    rw [e10]
    clear e10 own9 hb9 hat9 hfz9 sz10
    obtain ⟨z10, hat10, hfz10⟩ := someAtR own10 (by simp) 1 (by omega)
    refine (rsub_any q hqm m n hm' hn _).mono ?_
    rintro e w' ⟨rfl, rfl⟩
    go_wp2_with fail
    obtain ⟨w11, e11, own11, hb11, sz11⟩ := storedR own10 (by simp) 1 (fv (el q m - el q n)) hb10 (Nat.le_refl _)
    rw [e11]
    clear e11 own10 hb10 hat10 hfz10 sz11
    obtain ⟨z11, hat11, hfz11⟩ := someAtR own11 (by simp) 2 (by omega)
    refine (rmul_any q hqm m n hm' hn _).mono ?_
    rintro e w' ⟨rfl, rfl⟩
    go_wp2_with fail
    obtain ⟨w12, e12, own12, hb12, sz12⟩ := storedR own11 (by simp) 2 (fv (el q m * el q n)) hb11 (Nat.le_refl _)
    rw [e12]
    clear e12 own11 hb11 hat11 hfz11 sz12
    obtain ⟨z12, hat12, hfz12⟩ := someAtR own12 (by simp) 3 (by omega)
    refine (rsub_any q hqm 0 m (by constructor <;> decide) hm' _).mono ?_
    rintro e w' ⟨rfl, rfl⟩
    go_wp2_with fail
    obtain ⟨w13, e13, own13, hb13, sz13⟩ := storedR own12 (by simp) 3 (fv (el q 0 - el q m)) hb12 (Nat.le_refl _)
    rw [e13]
    clear e13 own12 hb12 hat12 hfz12 sz13
    obtain ⟨z13, hat13, hfz13⟩ := someAtR own13 (by simp) 4 (by omega)
    refine (rinv_any q hq2 hqm m hm' _).mono ?_
    rintro e w' ⟨rfl, rfl⟩
    go_wp2_with fail
    obtain ⟨w14, e14, own14, hb14, sz14⟩ := storedR own13 (by simp) 4 (fv (Zp.inv (el q m))) hb13 (Nat.le_refl _)
    rw [e14]
    clear e14 own13 hb13 hat13 hfz13 sz14
    obtain ⟨z14, hat14, hfz14⟩ := someAtR own14 (by simp) 5 (by omega)
    refine (rdiv_any q hq2 hqm m n hm' hn _).mono ?_
    rintro e w' ⟨rfl, rfl⟩
    go_wp2_with fail
    obtain ⟨w15, e15, own15, hb15, sz15⟩ := storedR own14 (by simp) 5 (fv (el q m * Zp.inv (el q n))) hb14 (Nat.le_refl _)
    rw [e15]
    clear e15 own14 hb14 hat14 hfz14 sz15
    have own8' := own8.below hb15
    have hbel := hb8.trans (hb15.mono hb8.size)
    refine (ints_same' _ _ _ _ _ _ _ _ (by simp) (by simp) (by rw [el_zero]) (by omega) _ (SL_of_own' own8') (SL_of_own' own15)).mono ?_
    rintro e w' ⟨rfl, k15, rfl⟩
    go_wp2
    go_ret
    exact ⟨rfl, below_drewN (hb1.trans (hbel.mono hb1.size)) _⟩
  · have HN := Lib.hid (sfield_no p hp hF w hT)
    clear hF
    go_enter Tryd.func4, Tryd.ntmps4
    go_wp2_with fail
    refine (HN.out).mono ?_
    rintro e w1 ⟨rfl, hb1⟩
    go_wp2
    go_ret
    exact ⟨rfl, hb1⟩
end Go.Proofs.YtbafkfnceednlaaDoor
