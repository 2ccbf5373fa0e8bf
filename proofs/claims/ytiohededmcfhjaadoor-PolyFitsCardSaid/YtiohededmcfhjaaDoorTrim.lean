/- The walk of poly.Trim. -/
import Derived.Test.YtiohededmcfhjaaDoorDeg
set_option linter.unusedVariables false
namespace Go.Proofs.YtiohededmcfhjaaDoor
open Go.RowKit Zp

def TrimRel (p : Nat) [NeZero p] (xs : List Int) (n : Nat) (w : World) (v i : Value) (wr : World) : Prop := ∃ k g : Nat, k ≤ n ∧ i = vi k ∧ v = .slice (some ⟨g, 0, none⟩) k n ∧ Own wr w.heap.size v ((fvs (trimL (els p xs))).take k) ∧ Below w.heap.size w wr

set_option maxRecDepth 100000 in
set_option maxHeartbeats 1000000 in
theorem trim_any (p : Nat) [NeZero p] (hp2 : p ≤ 2147483647) (b : Nat) (A : Option Addr) (cap : Nat) (xs : List Int) (hxs : ∀ n ∈ xs, I64 n) (hreach : xs.length * 8 ≤ 281474976710656) (hcap : xs.length ≤ cap) (w : World) (hc : w.cell? ⟨b, 0, none⟩ = some (vi p)) (hs : SL w A xs) :
    Calls Tryd.prog 23 #[.pointer (some ⟨b, 0, none⟩), .slice A xs.length cap] w fun e w' => Made (fvs (trimL (els p xs))) w e w' := by
  have hbl : b < w.heap.size := block_lt_of_cell hc
  have hdeg := degree_any p hp2 b A cap xs hxs hreach w hc hs
  obtain ⟨n, hn⟩ : ∃ n, n = (trimL (els p xs)).length := ⟨_, rfl⟩
  have hnl : n ≤ xs.length := by rw [hn]; have := trimL_length_le (els p xs); simpa using this
  have hd : degL (els p xs) = (n : Int) - 1 := by unfold degL; rw [hn]
  rw [hd] at hdeg
  have HDEG := Lib.hid hdeg
  have hmk := make_ints0 n (by omega)
  have HN := Lib.hid hn
  clear hn hd hdeg
  obtain ⟨len, hlen⟩ : ∃ len, len = xs.length := ⟨_, rfl⟩
  rw [← hlen] at hreach hnl HDEG hcap
  rw [← hlen]
  have HL := Lib.hid hlen
  clear hlen
  go_enter Tryd.func23, Tryd.ntmps23
  go_wp2_with fail
  refine (HDEG.out).mono ?_
  rintro e w' ⟨rfl, rfl⟩
  go_wp2
  go_loopw [6, 8, 19] (fun v _ i wr => TrimRel p xs n w v i wr) (fun _ _ i _ => n - (intOf i).toNat)
  case atStart => exact ⟨0, w.heap.size, Nat.zero_le _, rfl, rfl, own_made0 w _ n (Nat.le_refl _) (by omega), (Below.refl _ _).alloc (Nat.le_refl _) _⟩
  case round =>
    obtain ⟨k, g, hk, rfl, rfl, hown, hb⟩ := hrel
    by_cases hlt : k < n
    · have hkx : k < xs.length := by rw [← HL.out]; omega
      have hcr : wr.cell? ⟨b, 0, none⟩ = some (vi p) := (hb.cell (p := ⟨b, 0, none⟩) hbl).trans hc
      obtain ⟨ad, rfl, hab, hcell⟩ := (hs.below hb).at_ hkx
      have hI := hxs _ (List.getElem_mem hkx)
      obtain ⟨x, hx⟩ : ∃ x, x = xs[k] := ⟨_, rfl⟩
      rw [← hx] at hI hcell
      have htl : k < (trimL (els p xs)).length := by rw [← HN.out]; exact hlt
      have h2 := map_take_succ fv (trimL (els p xs)) k htl
      have h3 : (trimL (els p xs))[k] = el p x := by
        rw [← co_of_lt htl, co_trim, co_of_lt (by simpa using hkx), List.getElem_map, hx]
      rw [h3] at h2
      have H2 := Lib.hid h2
      have hll : ((fvs (trimL (els p xs))).take k).length = k := by rw [List.length_take, List.length_map]; omega
      have HLL := Lib.hid hll
      clear hx h2 h3 hll
      go_wp2_with (first | (go_at_call 32; refine (of_el p hp2 b x hI _ hcr).mono ?_; rintro e w' ⟨rfl, rfl⟩) | (at_builtin; refine wpList_app1_fits w' (fv (el p x)) rfl _ _ rfl w.heap.size g k n _ rfl rfl hown HLL.out.symm hlt ?_; intro w1 hown1 hg))
      go_roundw
      case rel => exact ⟨k + 1, g, by omega, by go_num, rfl, by rw [← H2.out]; exact hown1, hb.grown hg hb.size (fun j hj => by injection hj with hj; subst hj; exact (hown.lt g rfl).1)⟩
      case measure => simp [intOf]; omega
    · obtain rfl : k = n := by omega
      go_wp2
      go_ret
      rw [List.take_of_length_le (by simp; rw [HN.out]; exact Nat.le_refl _)] at hown
      exact ⟨_, rfl, hown, hb⟩
end Go.Proofs.YtiohededmcfhjaaDoor
