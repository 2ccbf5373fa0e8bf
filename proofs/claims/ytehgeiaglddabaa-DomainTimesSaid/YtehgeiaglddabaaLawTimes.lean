/- The walk of the law DomainTimes. -/
import Derived.Test.YtehgeiaglddabaaLv2
import Derived.Test.YtehgeiaglddabaaDs
import Derived.Test.YtehgeiaglddabaaArg
set_option linter.unusedVariables false
namespace Go.Proofs.Ytehgeiaglddabaa
open Go.RowKit Zp

/-- what the law's loop knows; w6: the world at its head -/
def TimesRel (p n : Nat) [NeZero p] (s : Fin p) (a : List (Fin p)) (w6 : World) (sum i : Value) (wr : World) : Prop :=
  ∃ k j : Nat, k ≤ n ∧ i = vi k ∧ sum = vi (fv (sumT k (fun j => ev a (s * pw (rootI p n) j)))) ∧ wr = w6.drewN j

set_option maxRecDepth 100000 in
set_option maxHeartbeats 600000 in
theorem times_walk (w : World) (p : Int) (hp : I64 p) (size : Int) (hsz : I64 size) (t : Int) (ht : I64 t) (A : Option Addr) (na ca : Nat) (xs : List Int) (ha : ArgS w A na ca xs) (B : Option Addr) (nb cb : Nat) (ys : List Int) (hb : ArgS w B nb cb ys) :
    Calls Try.prog 6 #[vi p, vi size, vi t, .slice A na ca, .slice B nb cb] w fun e w' => SaysW (.bool true) w e w' := by
  obtain rfl := ha.len
  obtain rfl := hb.len
  by_cases hF : HasDom p size t
  · obtain ⟨q, n, rfl, rfl, h3, hm, hpr, hsn, h0⟩ := hF.parts
    haveI := hpr.ne
    have hpl := fun w => plain2_yes q n t ht hpr h3 hm hsn h0 w
    have HPL := Lib.hid hpl
    have hn0 := hsn.pos
    have hn1 := hsn.le
    have hord := rootI_ord hpr hn0 hsn.2
    have HORD := Lib.hid hord
    clear hpl hF hord h0
    go_enter Try.func6, Try.ntmps6
    go_wp2_with fail
    refine (lives2_any _).mono ?_
    rintro e w1 ⟨rfl, hb1⟩
    go_wp2_with fail
    refine (HPL.out _).mono ?_
    rintro e w2 ⟨b, D, rfl, hD, hb2⟩
    have hbel2 := hb1.trans (hb2.mono hb1.size)
    clear hb1 hb2
    have hsx2 := ha.sl.below hbel2
    have hsy2 := hb.sl.below hbel2
    go_wp2_with fail
    refine (pmul_any q hm b A B ca cb xs ys ha.i64 hb.i64 ha.r8 hb.r8 ha.cap hb.cap _ hD.fld.c0 hsx2 hsy2).mono ?_
    rintro e w3 ⟨vc, rfl, hown, hb3⟩
    obtain ⟨C, lc, cc, rfl, hlc, _, _, hsc3⟩ := hown.shapeN
    have hD3 := hD.below hb3 (Nat.le_refl _)
    have hbel3 := hbel2.trans (hb3.mono hbel2.size)
    go_wp2_with fail
    refine (values_n q _ D b n _ A _ ca xs rfl ha.i64 (by have := ha.r8; omega) _ hD3 (ha.sl.below hbel3)).mono ?_
    rintro e w4 ⟨A4, c4, _, rfl, _, _, hs4, hb4⟩
    have hD4 := hD3.below hb4 hD3.le
    have hbel4 := hbel3.trans (hb4.mono hbel3.size)
    go_wp2_with fail
    refine (values_n q _ D b n _ B _ cb ys rfl hb.i64 (by have := hb.r8; omega) _ hD4 (hb.sl.below hbel4)).mono ?_
    rintro e w5 ⟨A5, c5, _, rfl, _, _, hs5, hb5⟩
    have hD5 := hD4.below hb5 hD4.le
    have hbel5 := hbel4.trans (hb5.mono hbel4.size)
    have hlc2 : lc * 8 ≤ 281474976710656 := by
      have h1 := mulL_trim_length (els q xs) (els q ys)
      have h2 := ha.r8
      have h3 := hb.r8
      rw [← hlc]
      simp at h1 ⊢
      omega
    have HLC := Lib.hid hlc
    clear hlc
    go_wp2_with fail
    refine (values_n q _ D b n _ C lc cc _ HLC.out (i64_fvs _ hm) hlc2 _ hD5 ((hsc3.below hb4).below hb5)).mono ?_
    rintro e w6 ⟨A6, c6, _, rfl, _, _, hs6, hb6⟩
    have hD6 := hD5.below hb6 hD5.le
    have hbel6 := hbel5.trans (hb6.mono hbel5.size)
    have hs4' := (hs4.below hb5).below hb6
    have hs5' := hs5.below hb6
    rw [els_fvs] at hs6
    clear hb3 hb4 hb5 hb6 hs4 hs5 hsx2 hsy2 hsc3 hbel2 hbel3 hbel4 hbel5 hD hD3 hD4 hD5 hlc2 hown
    have hcb := hD6.fld.c0
    go_wp2
    go_loopw [18, 19] (fun sum i wr => TimesRel q n (el q t) (els q xs) w6 sum i wr) (fun _ i _ => n - (intOf i).toNat)
    case atStart => exact ⟨0, 0, Nat.zero_le _, rfl, rfl, rfl⟩
    case round =>
      obtain ⟨k, j, hk, rfl, rfl, rfl⟩ := hrel
      by_cases hlt : k < n
      · obtain ⟨ad4, rfl, hc4⟩ := (hs4'.drewN j).co (k := k) (by rw [valL_length]; exact hlt)
        obtain ⟨ad5, rfl, hc5⟩ := (hs5'.drewN j).co (k := k) (by rw [valL_length]; exact hlt)
        obtain ⟨ad6, rfl, hc6⟩ := (hs6.drewN j).co (k := k) (by rw [valL_length]; exact hlt)
        have hz := valL_mul (el q t) (rootI q n) n (els q xs) (els q ys) k
        have hx : co (valL (el q t) (rootI q n) n (els q xs)) k = ev (els q xs) (el q t * pw (rootI q n) k) := by unfold valL; rw [co_tab, if_pos hlt]
        obtain ⟨X, hX⟩ : ∃ X, X = co (valL (el q t) (rootI q n) n (els q xs)) k := ⟨_, rfl⟩
        obtain ⟨Y, hY⟩ : ∃ Y, Y = co (valL (el q t) (rootI q n) n (els q ys)) k := ⟨_, rfl⟩
        obtain ⟨Z, hZ⟩ : ∃ Z, Z = co (valL (el q t) (rootI q n) n (trimL (mulL (els q xs) (els q ys)))) k := ⟨_, rfl⟩
        rw [← hX] at hc4 hz hx
        rw [← hY] at hc5 hz
        rw [← hZ] at hc6 hz
        rw [World.cell?_drewN] at hc4 hc5 hc6
        obtain ⟨U, hU⟩ : ∃ U, U = sumT k (fun j => ev (els q xs) (el q t * pw (rootI q n) j)) := ⟨_, rfl⟩
        rw [← hU]
        have hU1 : U + X = sumT (k + 1) (fun j => ev (els q xs) (el q t * pw (rootI q n) j)) := by rw [sumT_succ, ← hU, hx]
        obtain ⟨V, hV⟩ : ∃ V, V = U + X := ⟨_, rfl⟩
        have iX := i64_fv X hm
        have iY := i64_fv Y hm
        have iU := i64_fv U hm
        have hmul : ∀ W : World, W.cell? ⟨b, 0, none⟩ = some (vi q) → Calls Try.prog 26 #[.pointer (some ⟨b, 0, none⟩), vi (fv X), vi (fv Y)] W fun e w' => e = .returned (vi (fv Z)) ∧ ∃ k, w' = W.drewN k := fun W h => by
          have := mul_any q hm b (fv X) (fv Y) iX iY W h
          rw [el_fv, el_fv, ← hz] at this; exact this
        have hadd : ∀ W : World, W.cell? ⟨b, 0, none⟩ = some (vi q) → Calls Try.prog 27 #[.pointer (some ⟨b, 0, none⟩), vi (fv U), vi (fv X)] W fun e w' => e = .returned (vi (fv V)) ∧ ∃ k, w' = W.drewN k := fun W h => by
          have := add_any q hm b (fv U) (fv X) iU iX W h
          rw [el_fv, el_fv, ← hV] at this; exact this
        have HMUL := Lib.hid hmul
        have HADD := Lib.hid hadd
        have HV : Hid (V = sumT (k + 1) (fun j => ev (els q xs) (el q t * pw (rootI q n) j))) := Lib.hid (hV.trans hU1)
        have t2 : (fv Z != fv Z) = false := by simp
        have i1 : (0 : Int) ≤ k := by omega
        have i2 : (k : Int) < n := by omega
        clear hmul hadd hU1 hV hU hX hY hZ hz hx
        go_wp2
        go_quiet ((go_at_call 26; exact quiet_of2 (HMUL.out _ (by exact hcb))))
        go_wp2_with fail
        refine (HADD.out _ (by exact hcb)).mono ?_
        rintro e w' ⟨rfl, k7, rfl⟩
        go_wp2
        go_roundw
        case rel => exact ⟨k + 1, _, by omega, by go_num, by rw [HV.out], rfl⟩
        case measure => simp [intOf]; omega
      · obtain rfl : k = n := by omega
        have hsx := (ha.sl.below hbel6).drewN j
        have hbj := below_drewN hbel6 j
        go_wp2_with fail
        refine (degree_any q hm b A ca xs ha.i64 (by have := ha.r8; omega) _ (by exact hcb) hsx).mono ?_
        rintro e w' ⟨rfl, rfl⟩
        obtain ⟨dg, hdg⟩ : ∃ d, d = degL (els q xs) := ⟨_, rfl⟩
        rw [← hdg]
        have HDG := Lib.hid hdg
        clear hdg
        by_cases hge : (k : Int) ≤ dg
        · go_wp2
          go_ret
          exact ⟨rfl, hbj⟩
        · have hsum := vals_sum hpr HORD.out (el q t) (els q xs) hn0 (by have := HDG.out; unfold degL at this; omega)
          obtain ⟨U, hU⟩ : ∃ U, U = sumT k (fun j => ev (els q xs) (el q t * pw (rootI q k) j)) := ⟨_, rfl⟩
          rw [← hU] at hsum ⊢
          have hat : atI xs 0 = xs.getD 0 0 := rfl
          have hco : co (els q xs) 0 = el q (xs.getD 0 0) := co_els xs 0
          obtain ⟨a0, ha0⟩ : ∃ a, a = xs.getD 0 0 := ⟨_, rfl⟩
          have ia0 : I64 a0 := by
            rw [ha0, List.getD_eq_getElem?_getD]
            cases hx : xs[0]? with
            | none => constructor <;> decide
            | some x => exact ha.i64 x (List.mem_of_getElem? hx)
          rw [← ha0] at hat hco
          rw [hco] at hsum
          have hlen : xs.length ≤ 9223372036854775807 := by have := ha.r8; omega
          have hatc := fun w hs => at_any A ca xs hlen 0 (by constructor <;> omega) w hs
          rw [hat] at hatc
          have t5 : (fv U == fv (el q a0 * el q (k : Int))) = true := by rw [hsum]; simp
          have ik : I64 (k : Int) := ⟨by omega, by omega⟩
          have HAT := Lib.hid hatc
          clear hatc hsum hat hco ha0 hU
          go_wp2_with fail
          refine (HAT.out _ hsx).mono ?_
          rintro e w' ⟨rfl, rfl⟩
          go_wp2_with fail
          refine (mul_any q hm b a0 k ia0 ik _ (by exact hcb)).mono ?_
          rintro e w' ⟨rfl, k9, rfl⟩
          go_wp2
          go_ret
          exact ⟨rfl, below_drewN hbel6 _⟩
  · have hpl := fun w => plain2_no p size t hsz ht hF w
    have HPL := Lib.hid hpl
    clear hpl hF
    go_enter Try.func6, Try.ntmps6
    go_wp2_with fail
    refine (lives2_any _).mono ?_
    rintro e w1 ⟨rfl, hb1⟩
    go_wp2_with fail
    refine (HPL.out _).mono ?_
    rintro e w2 ⟨rfl, hb2⟩
    go_wp2
    go_ret
    exact ⟨rfl, hb1.trans (hb2.mono hb1.size)⟩
end Go.Proofs.Ytehgeiaglddabaa
