/- ref1.Same: are two lists the same, as elements? -/
import Derived.Test.YtlcmacdeadmloaaDoorRa
import Derived.Test.YtlcmacdeadmloaaDoorInts
set_option linter.unusedVariables false
namespace Go.Proofs.YtlcmacdeadmloaaDoor
open Go.RowKit Zp

/-- two lists, as elements -/
def sameE (p : Nat) [NeZero p] (xs ys : List Int) : Bool := eqB (fvs (els p xs)) (fvs (els p ys))
theorem fvs_els_get {p : Nat} [NeZero p] {xs : List Int} {k : Nat} (hk : k < xs.length) : (fvs (els p xs)).take (k + 1) = (fvs (els p xs)).take k ++ [fv (el p xs[k])] := by
  rw [List.take_succ_eq_append_getElem (by simpa [fvs, els] using hk)]
  simp [fvs, els]
theorem fvs_els_len {p : Nat} [NeZero p] (xs : List Int) : (fvs (els p xs)).length = xs.length := by simp [fvs, els]
def SameRel (p : Nat) [NeZero p] (xs ys : List Int) (i : Value) : Prop := ∃ k : Nat, k ≤ xs.length ∧ i = vi k ∧ (fvs (els p xs)).take k = (fvs (els p ys)).take k
set_option maxHeartbeats 2000000 in
theorem rsame_any (p : Nat) [NeZero p] (hp2 : p ≤ 2147483647) (A B : Option Addr) (n m c d : Nat) (xs ys : List Int) (hn : xs.length = n) (hm : ys.length = m) (hx : n ≤ 9223372036854775807) (hy : m ≤ 9223372036854775807) (hxI : ∀ x ∈ xs, I64 x) (hyI : ∀ y ∈ ys, I64 y) (w : World) (hsx : SL w A xs) (hsy : SL w B ys) :
    Calls Tryd.prog 12 #[vi p, .slice A n c, .slice B m d] w fun e w' => e = .returned (.bool (sameE p xs ys)) ∧ w = w' := by
  have HN := Lib.hid hn
  have HM := Lib.hid hm
  clear hn hm
  by_cases hnm : n = m
  · have t1 : ((n : Int) != (m : Int)) = false := by rw [bne_eq_false_iff_eq]; omega
    have HNM := Lib.hid hnm
    clear hnm
    go_enter Tryd.func12, Tryd.ntmps12
    go_wp2
    go_loop [7] (fun i => SameRel p xs ys i) (fun i => n - (intOf i).toNat)
    case atStart => exact ⟨0, Nat.zero_le _, rfl, by simp⟩
    case round =>
      obtain ⟨k, hk, rfl, heq⟩ := hrel
      rw [HN.out] at hk
      have HEQ := Lib.hid heq
      clear heq
      by_cases hlt : k < n
      · have hkm : k < m := by rw [← HNM.out]; exact hlt
        have hkx : k < xs.length := by rw [HN.out]; exact hlt
        have hky : k < ys.length := by rw [HM.out]; exact hkm
        obtain ⟨ad, rfl, _, hc1⟩ := hsx.at_ hkx
        obtain ⟨bd, rfl, _, hc2⟩ := hsy.at_ hky
        have i1 : (0 : Int) ≤ k := by omega
        have i2 : (k : Int) < n := by omega
        have i3 : (k : Int) < m := by omega
        have htk := fvs_els_get (p := p) hkx
        have hty := fvs_els_get (p := p) hky
        have iX := hxI _ (List.getElem_mem hkx)
        have iY := hyI _ (List.getElem_mem hky)
        obtain ⟨x, hxk⟩ : ∃ x, x = xs[k] := ⟨_, rfl⟩
        obtain ⟨y, hyk⟩ : ∃ y, y = ys[k] := ⟨_, rfl⟩
        rw [← hxk] at hc1 htk iX
        rw [← hyk] at hc2 hty iY
        have HX := Lib.hid (rof_any p hp2 x iX w)
        have HY := Lib.hid (rof_any p hp2 y iY w)
        by_cases hxy : el p x = el p y
        · have t2 : (fv (el p x) != fv (el p y)) = false := by rw [hxy]; simp
          have H2 := Lib.hid (show (fvs (els p xs)).take (k + 1) = (fvs (els p ys)).take (k + 1) by rw [htk, hty, HEQ.out, hxy])
          clear hxy htk hty hxk hyk iX iY
          go_wp2_with (refine (HX.out).mono ?_; rintro _ _ ⟨rfl, rfl⟩; clear HX)
          go_wp2_with (refine (HY.out).mono ?_; rintro _ _ ⟨rfl, rfl⟩; clear HY)
          go_round
          case rel => exact ⟨k + 1, by rw [HN.out]; omega, by go_num, H2.out⟩
          case measure => simp [intOf]; omega
        · have t2 : (fv (el p x) != fv (el p y)) = true := by rw [bne_iff_ne]; exact fun e => hxy (fv_inj e)
          have H2 := Lib.hid (show sameE p xs ys = false from eqB_false fun e => by
            rw [e, hty] at htk
            have := List.append_inj_right' htk rfl
            injection this with this
            exact hxy (fv_inj this.symm))
          clear hxy htk hty hxk hyk iX iY
          go_wp2_with (refine (HX.out).mono ?_; rintro _ _ ⟨rfl, rfl⟩; clear HX)
          go_wp2_with (refine (HY.out).mono ?_; rintro _ _ ⟨rfl, rfl⟩; clear HY)
          go_ret
          exact ⟨ret_bool H2.out.symm, rfl⟩
      · obtain rfl : k = n := by omega
        have H2 := Lib.hid (show sameE p xs ys = true from eqB_true (by
          have := HEQ.out
          rwa [List.take_of_length_le (by rw [fvs_els_len, HN.out]; exact Nat.le_refl _), List.take_of_length_le (by rw [fvs_els_len, HM.out, ← HNM.out]; exact Nat.le_refl _)] at this))
        go_wp2
        go_ret
        exact ⟨ret_bool H2.out.symm, rfl⟩
  · have t1 : ((n : Int) != (m : Int)) = true := by rw [bne_iff_ne]; omega
    have h2 : sameE p xs ys = false := eqB_false fun e => hnm (by rw [← HN.out, ← HM.out, ← fvs_els_len (p := p) xs, e, fvs_els_len])
    have H2 := Lib.hid h2
    clear h2 hnm
    go_enter Tryd.func12, Tryd.ntmps12
    go_wp2
    go_ret
    exact ⟨ret_bool H2.out.symm, rfl⟩
end Go.Proofs.YtlcmacdeadmloaaDoor
