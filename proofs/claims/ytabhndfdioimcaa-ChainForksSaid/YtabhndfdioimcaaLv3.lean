/- law3.lives: there is a sponge of 97. -/
import Derived.Test.YtabhndfdioimcaaPd
import Derived.Test.YtabhndfdioimcaaPl3
set_option linter.unusedVariables false
namespace Go.Proofs.Ytabhndfdioimcaa
open Go.RowKit Zp

theorem prime97 : IsPrime 97 := by decide
theorem sl_lit (w : World) (xs : List Int) : SL (w.alloc (.cells (xs.map vi).toArray 3)) (some ⟨w.heap.size, 0, none⟩) xs := ⟨by simp, fun _ => ⟨_, rfl, by rw [World.size_alloc]; show w.heap.size < w.heap.size + 1; omega, fun j u hu => by
  rw [Addr.add_mid, Nat.zero_add, (Blk.new w _ _).cell, List.getElem?_toArray]
  exact hu⟩⟩
set_option maxRecDepth 100000 in
set_option maxHeartbeats 2000000 in
theorem lives3_any (w : World) : Calls Try.prog 7 #[] w fun e w' => e = .returned (.bool true) ∧ Below w.heap.size w w' := by
  go_enter Try.func7, Try.ntmps7
  go_wp2_with fail
  refine (plain3_any 97 w).mono ?_
  intro e w1 h
  cases h with
  | no h _ _ => exact absurd ⟨⟨by omega, by omega, prime97⟩, by omega⟩ h
  | yes n hn h23 hm hp hw hF =>
    have e97 : n = 97 := by omega
    subst e97
    obtain ⟨S, s, b, k, z, oo, rfl, F, G, hs1, hs2⟩ := hF inferInstance
    have hk : k = 5 := power_97 G.k2 G.least G.cop
    subst hk
    have HF := Lib.hid F
    have HG := Lib.hid G
    have HW := Lib.hid hw
    have hb2 : Below w1.heap.size w1 (w1.alloc (.cells #[vi 5] 3)) := (Below.refl _ _).alloc (Nat.le_refl _) _
    have hpad := pad_any 97 S b s 5 z oo (some ⟨w1.heap.size, 0, none⟩) 1 1 [5] rfl (by intro n hn; simp at hn; subst hn; constructor <;> omega) (by omega) (w1.alloc (.cells #[vi 5] 3)) (F.below hb2 F.le) (G.below hb2 hs2) (sl_lit w1 [5])
    have e5 : padL (fvs (els 97 [5])) = [5, 1, 0, 0] := by decide
    rw [e5] at hpad
    have HPAD := Lib.hid hpad
    have HB2 := Lib.hid hb2
    clear F G hw hpad hb2 e5
    go_wp2_with fail
    refine (HPAD.out).mono ?_
    rintro _ w3 ⟨A3, c3, rfl, _, _, hs3, hb3⟩
    have hb13 := HB2.out.trans (hb3.mono HB2.out.size)
    have HB13 := Lib.hid hb13
    have hG3 := HG.out.below hb13 hs2
    have hpw := power_s s b 5 z oo w3 hG3
    have HPW := Lib.hid hpw
    have hb4 : Below w3.heap.size w3 (w3.alloc (.cells #[vi 5, vi 1, vi 0, vi 0] 3)) := (Below.refl _ _).alloc (Nat.le_refl _) _
    have hin := ints_any A3 (some ⟨w3.heap.size, 0, none⟩) c3 4 [5, 1, 0, 0] [5, 1, 0, 0] (by simp) (by simp) (w3.alloc (.cells #[vi 5, vi 1, vi 0, vi 0] 3)) (hs3.below hb4) (sl_lit w3 [5, 1, 0, 0])
    rw [eqB_true rfl] at hin
    have HIN := Lib.hid hin
    have HB4 := Lib.hid hb4
    clear hb13 hG3 hpw hb4 hin hb3 hs3
    go_wp2_with (first | (go_at_call 28; refine (HPW.out).mono ?_; rintro _ _ ⟨rfl, rfl⟩) | (go_at_call 14; refine (HIN.out).mono ?_; rintro _ w5 ⟨rfl, k5, rfl⟩))
    go_ret
    exact ⟨rfl, below_drewN (HW.out.trans ((HB13.out.trans (HB4.out.mono HB13.out.size)).mono HW.out.size)) k5⟩
end Go.Proofs.Ytabhndfdioimcaa
