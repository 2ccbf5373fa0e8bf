/- ref3.Pad. -/
import Derived.Test.YtlcmacdeadmloaaDoorPd
import Derived.Test.YtlcmacdeadmloaaDoorRa
set_option linter.unusedVariables false
namespace Go.Proofs.YtlcmacdeadmloaaDoor
open Go.RowKit Zp

/-- unlike lists stay unlike -/
def unpad (l : List Int) : List Int := l.reverse.dropWhile (· == 0)
theorem dropWhile_zeros (k : Nat) (t : List Int) : (List.replicate k (0 : Int) ++ 1 :: t).dropWhile (· == 0) = 1 :: t := by
  induction k with
  | zero => rfl
  | succ k ih => rw [List.replicate_succ, List.cons_append, List.dropWhile_cons_of_pos (by rfl), ih]
theorem unpad_padL (l : List Int) : unpad (padL l) = 1 :: l.reverse := by
  unfold unpad padL
  rw [List.reverse_append, List.reverse_append, List.reverse_replicate]
  exact dropWhile_zeros _ _
theorem padL_inj {l m : List Int} (h : padL l = padL m) : l = m := by
  have := congrArg unpad h
  rw [unpad_padL, unpad_padL] at this
  injection this with _ this
  exact List.reverse_inj.1 this
set_option maxRecDepth 100000 in
set_option maxHeartbeats 2000000 in
theorem rpad_any (p : Nat) [NeZero p] (hp2 : p ≤ 2147483647) (A : Option Addr) (m c : Nat) (l : List Int) (hm : l.length = m) (hI : ∀ n ∈ l, I64 n) (hr : m * 8 ≤ 140737488351232) (w : World) (hs : SL w A l) :
    Calls Tryd.prog 10 #[vi p, .slice A m c] w fun e w' => Made (padL (fvs (els p l))) w e w' := by
  have hlen : (fvs (els p l)).length = m := by simp [fvs, els, hm]
  have hall := rall_any p hp2 A c l hI (by rw [hm]; exact hr) w hs
  rw [hm] at hall
  have HA := Lib.hid hall
  obtain ⟨L, hL⟩ : ∃ L, L = fvs (els p l) := ⟨_, rfl⟩
  rw [← hL] at hlen HA ⊢
  have HLN := Lib.hid hlen
  clear hall hlen hL hm hs
  go_enter Tryd.func10, Tryd.ntmps10
  go_wp2_with fail
  refine (HA.out).mono ?_
  rintro _ w1 ⟨v, rfl, hown, hb⟩
  have hlk : L.length < 17592186044416 := by rw [HLN.out]; omega
  have HLK := Lib.hid hlk
  clear hlk
  go_wp2_with (at_builtin; refine wpList_app1 w1 1 rfl _ _ rfl w.heap.size _ _ rfl rfl hown HLK.out hb.size ?_; intro v' w2 hg)
  have hown1 := hg.own
  have hb1 := hg.below hb hown (Nat.le_refl _) hb.size
  clear hg hown
  go_loopw [5] (fun v wr => ∃ q : Nat, q ≤ padN m ∧ Own wr w.heap.size v (L ++ [1] ++ List.replicate q 0) ∧ Below w.heap.size w wr) (fun v _ => m + 5 - (match v with | .slice _ n _ => n | _ => 0))
  case atStart => exact ⟨0, Nat.zero_le _, by simpa using hown1, hb1⟩
  case round =>
    obtain ⟨q, hq, hown, hb⟩ := hrel
    obtain ⟨A1, n1, c1, rfl, hl1, hc1, hc2, hs1⟩ := hown.shapeN
    have hn1 : n1 = m + 1 + q := by rw [← hl1]; simp [HLN.out]; omega
    have hp4 : padN m ≤ 3 := by unfold padN; omega
    have em : (n1 : Int) % 4 = ((n1 % 4 : Nat) : Int) := by omega
    have HN1 := Lib.hid hn1
    have HL1 := Lib.hid hl1
    by_cases h4 : n1 % 4 = 0
    · have tq : ((n1 : Int) % 4 != 0) = false := by rw [em, h4]; rfl
      have hqq : q = padN m := by unfold padN at *; omega
      have HQQ := Lib.hid hqq
      clear hl1 hn1 em h4 hqq
      go_wp2
      go_ret
      have hx : padL L = L ++ [1] ++ List.replicate q 0 := by unfold padL; rw [HLN.out, ← HQQ.out]
      exact ⟨_, rfl, by rw [hx]; exact hown, hb⟩
    · have tq : ((n1 : Int) % 4 != 0) = true := by rw [em, bne_iff_ne]; omega
      have hq4 : q + 1 ≤ padN m := by unfold padN at *; omega
      have hlk : (L ++ [1] ++ List.replicate q 0).length < 17592186044416 := by rw [HL1.out]; omega
      have HLK := Lib.hid hlk
      clear hl1 hn1 em h4 hlk
      go_wp2_with (at_builtin; refine wpList_app1 wr 0 rfl _ _ rfl w.heap.size _ _ rfl rfl hown HLK.out hb.size ?_; intro v' w3 hg)
      have ho := hg.own
      have hbb := hg.below hb hown (Nat.le_refl _) hb.size
      have ex : L ++ [1] ++ List.replicate q 0 ++ [0] = L ++ [1] ++ List.replicate (q + 1) 0 := by rw [List.replicate_succ', ← List.append_assoc]
      rw [ex] at ho
      clear hg hown
      obtain ⟨A2, n2, c2, rfl, h21, _, _, _⟩ := ho.shapeN
      have hn2 : n2 = m + 1 + (q + 1) := by rw [← h21]; simp [HLN.out]; omega
      have h1n := HN1.out
      exact ⟨⟨q + 1, hq4, ho, hbb⟩, by show m + 5 - n2 < m + 5 - n1; omega⟩
end Go.Proofs.YtlcmacdeadmloaaDoor
