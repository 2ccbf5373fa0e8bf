/- slices.Grow of nil; slices.Concat of slices of ints. -/
import Derived.Test.YtabhndfdioimcaaAppA
import Derived.Test.YtabhndfdioimcaaTb
import Derived.Lib.AppendZeros
set_option linter.unusedVariables false
namespace Go.Proofs.Ytabhndfdioimcaa
open Go.RowKit

set_option maxRecDepth 100000 in
set_option maxHeartbeats 2000000 in
theorem grow_nil (n : Nat) (hn : n * 8 ≤ 140737488355328) (w : World) :
    Calls Try.prog 77 #[.slice none 0 0, vi n] w fun e w' => Made [] w e w' := by
  rcases Nat.eq_zero_or_pos n with h0 | h0
  · subst h0
    go_enter Try.func77, Try.ntmps77
    go_wp2
    go_ret
    exact ⟨_, rfl, World.ownsRow_nil _ _ _ _, Below.refl _ _⟩
  · obtain ⟨i0, hi, hz0, hz1, hz2⟩ := info_parts info_int
    have hr := Lib.run_append_nil_zeros (P := Try.prog) w 22 3 22 3 i0 (.int .i64 0) .i64 .i64 Try.underlying22 Try.underlying3 hi hz0 n h0 (by omega) (by omega) (by rw [hz2]; omega)
    obtain ⟨c, hc⟩ : ∃ c, c = grownCap w n 0 3 := ⟨_, rfl⟩
    have hcm : c ≤ maxLen := by
      have := grownCap_le_maxLen w n 0 3 (by unfold maxLen; omega)
      omega
    have hge : n ≤ c := by
      have := grownCap_ge w n 0 3
      omega
    rw [← hc] at hr
    obtain ⟨cs, hcs⟩ : ∃ cs, cs = Builtin.zeroCells (Value.int .i64 0).cells n ++ Builtin.zeroCells (Value.int .i64 0).cells (c - n) := ⟨_, rfl⟩
    rw [← hcs] at hr
    have hsz : cs.size = c := by
      rw [hcs, Array.size_append, size_zeroCells, size_zeroCells]
      simp [Value.cells]
      omega
    have ho : Own (w.drew.alloc (.cells cs 3)) w.heap.size (.slice (some ⟨w.heap.size, 0, none⟩) 0 c) [] := World.ownsRow_made w.drew cs c (Nat.le_refl _) hcm (by rw [hsz, Nat.mul_one])
    have hb : Below w.heap.size w (w.drew.alloc (.cells cs 3)) := (below_drewN (Below.refl w.heap.size w) 1).alloc (Nat.le_refl _) _
    have HO := Lib.hid ho
    have HB := Lib.hid hb
    have n1 : (0 : Int) < (n : Int) := by omega
    have n2 : (n : Int) ≤ 17592186044416 := by omega
    have n3 : 0 < n := h0
    have c1 : (c : Int) ≤ 9223372036854775807 := by unfold maxLen at hcm; omega
    clear hc hcs hsz hi hz0 hz1 hz2 ho hb hcm
    go_enter Try.func77, Try.ntmps77
    go_wp2_with (at_builtin; refine Lib.wpList_append_run _ rfl _ _ _ _ rfl _ _ rfl rfl _ _ hr ?_)
    go_ret
    exact ⟨_, rfl, HO.out, HB.out⟩
theorem flat_take {ts : List (List Int)} {k : Nat} (hk : k < ts.length) : (ts.take (k + 1)).flatten = (ts.take k).flatten ++ ts[k] := by
  rw [List.take_succ_eq_append_getElem hk, List.flatten_append]; simp
theorem flat_le (ts : List (List Int)) (k : Nat) : (ts.take k).flatten.length ≤ ts.flatten.length := by
  have h := congrArg (fun l => (List.flatten l).length) (List.take_append_drop k ts)
  simp only [List.flatten_append, List.length_append] at h
  omega
set_option maxRecDepth 100000 in
set_option maxHeartbeats 2000000 in
theorem concat_any (A : Option Addr) (m c : Nat) (ts : List (List Int)) (hm : ts.length = m) (hmm : m ≤ 1000000) (htot : ts.flatten.length * 8 ≤ 140737488355328) (w : World) (hT : TB w A ts) :
    Calls Try.prog 68 #[.slice A m c] w fun e w' => Made ts.flatten w e w' := by
  have HT := Lib.hid hT
  have HM := Lib.hid hm
  obtain ⟨N, hN⟩ : ∃ N, N = ts.flatten.length := ⟨_, rfl⟩
  have HN := Lib.hid hN
  rw [← hN] at htot
  have HG := Lib.hid (fun w => grow_nil N htot w)
  clear hT hm hN
  go_enter Try.func68, Try.ntmps68
  go_wp2
  go_loop [3, 11, 5] (fun s t _ => ∃ k : Nat, k ≤ m ∧ t = vi k ∧ s = vi ((ts.take k).flatten.length : Nat)) (fun _ t _ => m - (intOf t).toNat)
  case atStart => exact ⟨0, by omega, rfl, by simp⟩
  case round =>
    obtain ⟨k, hk, rfl, rfl⟩ := hrel
    have hle := flat_le ts k
    rw [← HN.out] at hle
    by_cases hkm : k < m
    · obtain ⟨ad, A1, n1, c1, rfl, hb1, hc1, hl1, hn1, _, _⟩ := HT.out k (by rw [HM.out]; exact hkm)
      have hft := flat_take (ts := ts) (k := k) (by rw [HM.out]; exact hkm)
      have hft2 := congrArg List.length hft
      rw [List.length_append, hl1] at hft2
      have hle2 := flat_le ts (k + 1)
      rw [← HN.out] at hle2
      obtain ⟨S, hS⟩ : ∃ S, S = (ts.take k).flatten.length := ⟨_, rfl⟩
      rw [← hS] at hft2 hle ⊢
      have k1 : (0 : Int) ≤ (k : Int) := by omega
      have k2 : (k : Int) < (m : Int) := by omega
      have s1 : (0 : Int) ≤ (S : Int) := by omega
      have s2 : (0 : Int) ≤ (S : Int) + (n1 : Int) := by omega
      have s3 : (S : Int) + (n1 : Int) ≤ 17592186044416 := by omega
      have HF := Lib.hid hft2
      clear hft hft2 hS hl1 hle2 hb1
      go_wp2
      go_round
      case rel => exact ⟨k + 1, by omega, by go_num, by rw [HF.out]; go_num⟩
      case measure => simp [intOf]; omega
    · have ek : k = m := by omega
      have hall : (ts.take k).flatten.length = N := by rw [ek, ← HM.out, List.take_length]; exact HN.out.symm
      rw [hall]
      have t1 : ¬ (k : Int) < (m : Int) := by omega
      clear ek hall hle
      go_wp2_with fail
      refine (HG.out w).mono ?_
      rintro _ w1 ⟨v, rfl, ho, hb⟩
      go_wp2
      go_loopw [6, 27, 8] (fun v t _ wr => ∃ k : Nat, k ≤ m ∧ t = vi k ∧ Own wr w.heap.size v (ts.take k).flatten ∧ Below w.heap.size w wr) (fun _ t _ _ => m - (intOf t).toNat)
      case atStart => exact ⟨0, by omega, rfl, ho, hb⟩
      case round =>
        clear ho hb
        obtain ⟨k, hk, rfl, ho, hb⟩ := hrel
        by_cases hkm : k < m
        · obtain ⟨ad, A1, n1, c1, rfl, hb1, hc1, hl1, hn1, hs1, _⟩ := HT.out k (by rw [HM.out]; exact hkm)
          have hc1r := (hb.cell (p := ad.add k) hb1).trans hc1
          have hft := flat_take (ts := ts) (k := k) (by rw [HM.out]; exact hkm)
          have hle2 := flat_le ts (k + 1)
          have hft2 := congrArg List.length hft
          rw [List.length_append, hl1] at hft2
          rw [← HN.out] at hle2
          have hlim : (ts.take k).flatten.length + n1 ≤ 17592186044416 := by omega
          have HF := Lib.hid hft
          have HL1 := Lib.hid hl1
          have HLIM := Lib.hid hlim
          have hs1r := hs1.below hb
          have k1 : (0 : Int) ≤ (k : Int) := by omega
          have k2 : (k : Int) < (m : Int) := by omega
          clear hft hft2 hle2 hlim hl1 hb1 hc1 hs1
          go_wp2_with (at_builtin; refine wpList_appA wr rfl _ _ rfl w.heap.size _ _ A1 n1 c1 _ rfl rfl HL1.out ho hs1r HLIM.out hb.size ?_; intro v' w2 hg)
          have ho2 := hg.own
          have hb2 := hg.below hb ho (Nat.le_refl _) hb.size
          rw [← HF.out] at ho2
          exact ⟨⟨k + 1, by omega, by go_num, ho2, hb2⟩, by simp [intOf]; omega⟩
        · have ek : k = m := by omega
          have hall : (ts.take k).flatten = ts.flatten := by rw [ek, ← HM.out, List.take_length]
          rw [hall] at ho
          have t1 : ¬ (k : Int) < (m : Int) := by omega
          clear ek hall
          go_wp2
          go_ret
          exact ⟨_, rfl, ho, hb⟩
end Go.Proofs.Ytabhndfdioimcaa
