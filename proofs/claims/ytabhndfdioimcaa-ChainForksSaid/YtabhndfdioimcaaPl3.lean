/- law3.plain: a sponge, or none. -/
import Derived.Test.YtabhndfdioimcaaLi
import Derived.Test.YtabhndfdioimcaaLv1
set_option linter.unusedVariables false
namespace Go.Proofs.Ytabhndfdioimcaa
open Go.RowKit Zp

set_option maxHeartbeats 2000000 in
theorem spnew_none (p S b : Nat) [NeZero p] (h23 : p < 23) (w : World) (F : Fld w S b p) :
    Calls Try.prog 30 #[.pointer (some ⟨b, 0, none⟩)] w fun e w' => e = .returned (.tuple #[.pointer none, .iface 72 (.int .i64 3)]) ∧ w = w' := by
  have hcb := F.c0
  have tq : ((p : Int) < 23) = True := by simp; omega
  go_enter Try.func30, Try.ntmps30
  go_wp2_with (go_at_call 43; refine (p_any p b _ (by exact hcb)).mono ?_; rintro _ _ ⟨rfl, rfl⟩)
  go_ret2
  exact ⟨rfl, rfl⟩
/-- what there is of plain: no sponge, or one -/
inductive Plain3 (p : Int) (w : World) (e : Ending) (w' : World) : Prop
  | no (h : ¬ (HasField p ∧ 23 ≤ p)) (he : e = .returned (.pointer none)) (hw : Below w.heap.size w w')
  | yes (n : Nat) (h : p = n) (h23 : 23 ≤ n) (hm : n ≤ 2147483647) (hp : IsPrime n) (hw : Below w.heap.size w w')
      (hF : ∀ h0 : NeZero n, ∃ (S s b k z : Nat) (oo : Nat → Nat → Fin n), e = .returned (.pointer (some ⟨s, 0, none⟩)) ∧ Fld w' S b n ∧ Spg w' s b k z oo ∧ w.heap.size ≤ s ∧ s < w'.heap.size)
set_option maxHeartbeats 2000000 in
theorem plain3_any (p : Int) (w : World) : Calls Try.prog 8 #[vi p] w fun e w' => Plain3 p w e w' := by
  by_cases h : HasField p
  · obtain ⟨n, rfl⟩ := Int.eq_ofNat_of_zero_le (a := p) (by have := h.1; omega)
    have hp : IsPrime n := by simpa using h.2.2
    haveI := hp.ne
    have hN := new_prime n w (by have := h.1; omega) (by have := h.2.1; omega) hp
    have HN := Lib.hid hN
    have HH := Lib.hid h
    clear hN h
    by_cases h23 : 23 ≤ n
    · have H2 := Lib.hid h23
      clear h23
      go_enter Try.func8, Try.ntmps8
      go_wp2_with (first | (go_at_call 29; refine (HN.out).mono ?_; rintro _ w1 ⟨b, rfl, hF, hb1, hlb⟩; have hF1 := Lib.hid hF; have HB1 := Lib.hid hb1; clear hF hb1) | (go_at_call 30; refine (spnew_any n w1.heap.size b H2.out w1 hF1.out).mono ?_; rintro _ w2 ⟨rfl, hS, hb2⟩; have HS := Lib.hid hS; have HB2 := Lib.hid hb2; clear hS hb2))
      go_ret
      refine .yes n rfl H2.out (by have := HH.out.2.1; omega) hp (HB1.out.trans (HB2.out.mono HB1.out.size)) fun h0 => ?_
      obtain ⟨k, z, oo, hS⟩ := HS.out
      exact ⟨w1.heap.size, w1.heap.size, b, k, z, oo, rfl, hF1.out.below HB2.out (Nat.le_refl _), hS, HB1.out.size, block_lt_of_cell hS.c0⟩
    · have H2 := Lib.hid (show n < 23 by omega)
      clear h23
      go_enter Try.func8, Try.ntmps8
      go_wp2_with (first | (go_at_call 29; refine (HN.out).mono ?_; rintro _ w1 ⟨b, rfl, hF, hb1, hlb⟩; have hF1 := Lib.hid hF; have HB1 := Lib.hid hb1; clear hF hb1) | (go_at_call 30; refine (spnew_none n w1.heap.size b H2.out w1 hF1.out).mono ?_; rintro _ w2 ⟨rfl, rfl⟩))
      go_ret
      exact .no (fun h => by have := H2.out; have := h.2; omega) rfl HB1.out
  · have HN := Lib.hid (new_none p w h)
    have HH := Lib.hid h
    clear h
    go_enter Try.func8, Try.ntmps8
    go_wp2_with (go_at_call 29; refine (HN.out).mono ?_; rintro _ _ ⟨rfl, rfl⟩)
    go_ret
    exact .no (fun h => HH.out h.1) rfl (Below.refl _ _)
end Go.Proofs.Ytabhndfdioimcaa
