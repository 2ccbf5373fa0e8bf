/- The walk of the law SumsOnly. -/
import Derived.Test.YtehgeiaglddabaaAl
import Derived.Test.YtehgeiaglddabaaAppA
import Derived.Test.YtehgeiaglddabaaArg
set_option linter.unusedVariables false
namespace Go.Proofs.Ytehgeiaglddabaa
open Go.RowKit Zp

/-- a table at a point, as an element -/
def exV (p : Nat) [NeZero p] (xs rs : List Int) : Fin p := co (extL (els p xs) (els p rs)) 0
theorem exV_line (p : Nat) [NeZero p] (xs ys : List Int) (hn : Cube xs.length ys.length) (j : Nat) (hj : j < ys.length) (r : Int) :
    exV p xs (ys.set j r) = exV p xs (ys.set j 0) + (exV p xs (ys.set j 1) - exV p xs (ys.set j 0)) * el p r := by
  have e : ∀ r : Int, exV p xs (ys.set j r) = extF (co (els p xs)) ((els p ys).set j (el p r)) := fun r => by
    rw [exV, co_extL (by simp [hn.2])]; unfold els; rw [List.map_set]
  rw [e, e, e, el_zero, el_one]
  exact extF_line _ _ _ (by simpa using hj) _

theorem Own.blockN {w : World} {base n : Nat} {v : Value} {xs : List Int} (h : Own w base v xs) (hn : xs.length = n) (h0 : 0 < n) : ∃ g cap, v = .slice (some ⟨g, 0, none⟩) n cap ∧ base ≤ g ∧ g < w.heap.size := by
  subst hn
  exact h.block h0
theorem Own.sl {w : World} {base n c : Nat} {A : Option Addr} {xs : List Int} (h : Own w base (.slice A n c) xs) : SL w A xs := by
  obtain ⟨A', c', e, hs⟩ := h.len
  injection e with e1 e2 e3
  subst e1
  exact hs
theorem Own.someAt {w : World} {base g n cap : Nat} {xs : List Int} (h : Own w base (.slice (some ⟨g, 0, none⟩) n cap) xs) (hn : xs.length = n) (j : Nat) (hj : j < n) : ∃ x, w.cell? ⟨g, j, none⟩ = some (vi x) :=
  ⟨_, h.at_ hn.symm j (by omega)⟩
theorem stored {w w0 : World} {base g n cap B : Nat} {xs : List Int} (h : Own w base (.slice (some ⟨g, 0, none⟩) n cap) xs) (hn : xs.length = n) (j : Nat) (m : Int) (hb : Below B w0 w) (hB : B ≤ g) :
    ∃ W, w.setCell ⟨g, j, none⟩ (vi m) = W ∧ Own W base (.slice (some ⟨g, 0, none⟩) n cap) (xs.set j m) ∧ Below B w0 W :=
  ⟨_, rfl, h.store hn.symm j m, hb.setCell (by simpa using hB) _⟩
theorem i64_set {xs : List Int} (h : ∀ x ∈ xs, I64 x) (j : Nat) {m : Int} (hm : I64 m) : ∀ x ∈ xs.set j m, I64 x := fun x hx => by
  rcases List.mem_or_eq_of_mem_set hx with h1 | rfl
  · exact h x h1
  · exact hm
theorem extend_ex (p S b : Nat) [NeZero p] (n v : Nat) (hv : Cube n v) (A : Option Addr) (cap : Nat) (xs : List Int) (hml : xs.length = n) (hxs : ∀ x ∈ xs, I64 x) (B : Option Addr) (cb : Nat) (rs : List Int) (hrl : rs.length = v) (hrs : ∀ x ∈ rs, I64 x) (w : World) (F : Fld w S b p) (hs : SL w A xs) (hsr : SL w B rs) :
    Calls Try.prog 36 #[.pointer (some ⟨b, 0, none⟩), .slice A n cap, .slice B v cb] w fun e w' => GivesI (fv (exV p xs rs)) w e w' :=
  extend_any p S b n v hv A cap xs hml hxs B cb rs hrl hrs w F hs hsr

set_option maxRecDepth 100000 in
set_option maxHeartbeats 2000000 in
theorem only_walk (w : World) (p : Int) (hp : I64 p) (A : Option Addr) (na ca : Nat) (xs : List Int) (ha : ArgS w A na ca xs) (B : Option Addr) (nb cb : Nat) (ys : List Int) (hb : ArgS w B nb cb ys) (j : Int) (hj : I64 j) (r : Int) (hr : I64 r) :
    Calls Try.prog 8 #[vi p, .slice A na ca, .slice B nb cb, vi j, vi r] w fun e w' => SaysW (.bool true) w e w' := by
  have hra := ha.r8
  have hrb := hb.r8
  have hla := ha.len
  have hlb := hb.len
  rw [hla] at hra
  rw [hlb] at hrb
  have HLA := Lib.hid hla
  have HLB := Lib.hid hlb
  clear hla hlb
  by_cases hF : HasField p
  · obtain ⟨h3, hm, hpr⟩ := hF
    obtain ⟨q, rfl⟩ := Int.eq_ofNat_of_zero_le (a := p) (by omega)
    rw [Int.toNat_natCast] at hpr
    haveI := hpr.ne
    have HPL := Lib.hid (fun w => plain4_yes q (by omega) (by omega) hpr w)
    clear hpr
    by_cases hcu : Cube na nb
    · have hex := Lib.hid (fun S b c W F hs B1 cb1 rs (hrl : rs.length = nb) hrs hsr => extend_ex q S b na nb hcu A c xs HLA.out ha.i64 B1 cb1 rs hrl hrs W F hs hsr)
      have hal := Lib.hid (fun S b W F hs => alone_any q S b na nb hcu A ca xs HLA.out ha.i64 W F hs)
      have HCU := Lib.hid hcu
      clear hcu
      go_enter Try.func8, Try.ntmps8
      go_wp2_with fail
      refine (lives4_any _).mono ?_
      rintro e w1 ⟨rfl, hb1⟩
      go_wp2_with fail
      refine (HPL.out _).mono ?_
      rintro e w2 ⟨b, rfl, F, hb2⟩
      have hbel2 := hb1.trans (hb2.mono hb1.size)
      go_wp2_with fail
      refine (hex.out _ b ca _ F (ha.sl.below hbel2) B cb ys HLB.out hb.i64 (hb.sl.below hbel2)).mono ?_
      rintro e w3 ⟨rfl, hb3⟩
      have hbel3 := hbel2.trans (hb3.mono hbel2.size)
      have F3 := F.below hb3 (Nat.le_refl _)
      by_cases hj0 : j < 0
      · go_wp2_with fail
        refine (hal.out _ b _ F3 (ha.sl.below hbel3)).mono ?_
        rintro e w4 ⟨rfl, hb4⟩
        go_wp2
        go_ret
        exact ⟨rfl, hbel3.trans (hb4.mono hbel3.size)⟩
      · by_cases hjn : (nb : Int) ≤ j
        · go_wp2_with fail
          refine (hal.out _ b _ F3 (ha.sl.below hbel3)).mono ?_
          rintro e w4 ⟨rfl, hb4⟩
          go_wp2
          go_ret
          exact ⟨rfl, hbel3.trans (hb4.mono hbel3.size)⟩
        · obtain ⟨J, rfl⟩ := Int.eq_ofNat_of_zero_le (a := j) (by omega)
          have hJ : J < nb := by omega
          have hba : Below w3.heap.size w3 (w3.alloc (.cells #[] 3)) := (Below.refl _ _).alloc (Nat.le_refl _) _
          have hsb3 := hb.sl.below hbel3
          go_wp2_with (at_builtin; refine wpList_appA _ rfl _ _ rfl w3.heap.size _ [] B nb cb ys rfl rfl HLB.out (own_empty w3 _ (Nat.le_refl _)) (hsb3.below hba) (by simp; omega) (by simp) ?_; intro v' w4 hg; obtain ⟨g, cp, rfl, hg1, hg2⟩ := hg.own.blockN (n := nb) (by simpa using HLB.out) (by omega); have hown4 := hg.own; have hbel4 := hg.below hba (own_empty w3 _ (Nat.le_refl _)) (Nat.le_refl _) (by simp); rw [List.nil_append] at hown4; clear hg; obtain ⟨z4, hat4⟩ := hown4.someAt HLB.out J hJ; have hfz4 := hown4.frozen_ HLB.out.symm J)
          obtain ⟨w5, e5, own5, hbel5⟩ := stored hown4 (by simpa using HLB.out) J 0 hbel4 hg1
          rw [e5]
          clear e5
          have F5 := F3.below hbel5 F3.le
          refine (hex.out _ b ca _ F5 ((ha.sl.below hbel3).below hbel5) (some ⟨g, 0, none⟩) cp (ys.set J 0) (by simpa using HLB.out) (i64_set hb.i64 J (by constructor <;> decide)) own5.sl).mono ?_
          rintro e w6 ⟨rfl, hb6⟩
          have own6 := own5.below hb6
          have hbel6 := hbel5.trans (hb6.mono hbel5.size)
          obtain ⟨z6, hat6⟩ := own6.someAt (by simpa using HLB.out) J hJ
          have hfz6 := own6.frozen_ (by simpa using HLB.out.symm) J
          clear hb6 own5
          go_wp2_with fail
          obtain ⟨w7, e7, own7, hbel7⟩ := stored own6 (by simpa using HLB.out) J 1 hbel6 hg1
          rw [e7]
          clear e7
          rw [List.set_set] at own7
          have F7 := F3.below hbel7 F3.le
          refine (hex.out _ b ca _ F7 ((ha.sl.below hbel3).below hbel7) (some ⟨g, 0, none⟩) cp (ys.set J 1) (by simpa using HLB.out) (i64_set hb.i64 J (by constructor <;> decide)) own7.sl).mono ?_
          rintro e w8 ⟨rfl, hb8⟩
          have own8 := own7.below hb8
          have hbel8 := hbel7.trans (hb8.mono hbel7.size)
          obtain ⟨z8, hat8⟩ := own8.someAt (by simpa using HLB.out) J hJ
          have hfz8 := own8.frozen_ (by simpa using HLB.out.symm) J
          clear hb8 own7
          go_wp2_with fail
          obtain ⟨w9, e9, own9, hbel9⟩ := stored own8 (by simpa using HLB.out) J r hbel8 hg1
          rw [e9]
          clear e9
          rw [List.set_set] at own9
          have F9 := F3.below hbel9 F3.le
          refine (hex.out _ b ca _ F9 ((ha.sl.below hbel3).below hbel9) (some ⟨g, 0, none⟩) cp (ys.set J r) (by simpa using HLB.out) (i64_set hb.i64 J hr) own9.sl).mono ?_
          rintro e w10 ⟨rfl, hb10⟩
          have own10 := own9.below hb10
          have hbel10 := hbel9.trans (hb10.mono hbel9.size)
          obtain ⟨z10, hat10⟩ := own10.someAt (by simpa using HLB.out) J hJ
          have hfz10 := own10.frozen_ (by simpa using HLB.out.symm) J
          clear hb10 own9
          go_wp2_with fail
          have hcu := HCU.out
          rw [← HLA.out, ← HLB.out] at hcu
          have hJ2 : J < ys.length := by rw [HLB.out]; exact hJ
          have hl1 := exV_line q xs ys hcu J hJ2 r
          have hl2 := exV_line q xs ys hcu J hJ2 ys[J]
          rw [List.set_getElem_self] at hl2
          have F10 := F3.below hbel10 F3.le
          obtain ⟨ad, hB, _, hcj⟩ := ((hb.sl.below hbel3).below hbel10).at_ hJ2
          have iy := hb.i64 _ (List.getElem_mem hJ2)
          have hcb := F10.c0
          generalize ys[J] = y0 at hl2 hcj iy
          generalize exV q xs (ys.set J 1) = Z at hl1 hl2 ⊢
          generalize exV q xs (ys.set J 0) = Y at hl1 hl2 ⊢
          generalize exV q xs (ys.set J r) = W at hl1 ⊢
          generalize exV q xs ys = X at hl2 ⊢
          have t1 : (fv (Y + (Z - Y) * el q r) == fv W) = true := by rw [hl1]; simp
          have t2 : (fv (Y + (Z - Y) * el q y0) == fv X) = true := by rw [← hl2]; simp
          have hqm : q ≤ 2147483647 := by omega
          clear hl1 hl2 hcu hex hal hat4 hat6 hat8 hat10 hfz4 hfz6 hfz8 hfz10
          subst hB
          refine (sub_any q hqm b _ _ (i64_fv _ hqm) (i64_fv _ hqm) _ hcb).mono ?_
          rintro e w' ⟨rfl, rfl⟩
          rw [el_fv, el_fv]
          go_wp2_with fail
          refine (mul_any q hqm b _ _ (i64_fv _ hqm) hr _ hcb).mono ?_
          rintro e w' ⟨rfl, k1, rfl⟩
          rw [el_fv]
          go_wp2_with fail
          refine (add_any q hqm b _ _ (i64_fv _ hqm) (i64_fv _ hqm) _ (by exact hcb)).mono ?_
          rintro e w' ⟨rfl, k2, rfl⟩
          rw [el_fv, el_fv]
          go_wp2_with fail
          refine (mul_any q hqm b _ _ (i64_fv _ hqm) iy _ (by exact hcb)).mono ?_
          rintro e w' ⟨rfl, k3, rfl⟩
          rw [el_fv]
          go_wp2_with fail
          refine (add_any q hqm b _ _ (i64_fv _ hqm) (i64_fv _ hqm) _ (by exact hcb)).mono ?_
          rintro e w' ⟨rfl, k4, rfl⟩
          rw [el_fv, el_fv]
          go_wp2
          go_ret
          exact ⟨rfl, below_drewN (hbel3.trans (hbel10.mono hbel3.size)) _⟩
    · have hno := Lib.hid (fun b W => extend_no b A B na ca nb cb (by omega) (by omega) hcu W)
      clear hcu
      go_enter Try.func8, Try.ntmps8
      go_wp2_with fail
      refine (lives4_any _).mono ?_
      rintro e w1 ⟨rfl, hb1⟩
      go_wp2_with fail
      refine (HPL.out _).mono ?_
      rintro e w2 ⟨b, rfl, F, hb2⟩
      go_wp2_with fail
      refine (hno.out _ _).mono ?_
      rintro e w' ⟨rfl, rfl⟩
      go_wp2
      go_ret
      exact ⟨rfl, hb1.trans (hb2.mono hb1.size)⟩
  · have HN := Lib.hid (fun w => plain4_no p hF w)
    clear hF
    go_enter Try.func8, Try.ntmps8
    go_wp2_with fail
    refine (lives4_any _).mono ?_
    rintro e w1 ⟨rfl, hb1⟩
    go_wp2_with fail
    refine (HN.out _).mono ?_
    rintro e w' ⟨rfl, rfl⟩
    go_wp2
    go_ret
    exact ⟨rfl, hb1⟩
end Go.Proofs.Ytehgeiaglddabaa
