/- Walk: attestlaw4.alone. -/
import Derived.Test.YtehgeiaglddabaaLv4
import Derived.Test.YtehgeiaglddabaaEx
set_option linter.unusedVariables false
namespace Go.Proofs.Ytehgeiaglddabaa
open Go.RowKit Zp

/-- the lowest c bits, the highest first -/
def bitsZ (c i : Nat) : List Int := match c with
  | 0 => []
  | c + 1 => ((i / 2 ^ c % 2 : Nat) : Int) :: bitsZ c i
theorem bitsZ_length (c i : Nat) : (bitsZ c i).length = c := by
  induction c with
  | zero => rfl
  | succ c ih => rw [bitsZ, List.length_cons, ih]
theorem els_bitsZ (p : Nat) [NeZero p] (c i : Nat) : els p (bitsZ c i) = bitsL c i := by
  induction c with
  | zero => rfl
  | succ c ih => rw [bitsZ, bitsL, ← ih]; rfl
theorem bitsZ_i64 (c i : Nat) : ∀ x ∈ bitsZ c i, I64 x := by
  induction c with
  | zero => simp [bitsZ]
  | succ c ih =>
    intro x hx
    rw [bitsZ, List.mem_cons] at hx
    rcases hx with rfl | hx
    · constructor <;> omega
    · exact ih x hx
theorem bitsZ_set (v c i : Nat) (hc : c < v) : (List.replicate (v - c) (0 : Int) ++ bitsZ c i).set (v - 1 - c) ((i / 2 ^ c % 2 : Nat) : Int) = List.replicate (v - (c + 1)) 0 ++ bitsZ (c + 1) i := by
  have e : v - c = v - (c + 1) + 1 := by omega
  have e2 : v - 1 - c = v - (c + 1) := by omega
  rw [e, e2, List.replicate_succ', List.append_assoc, List.set_append, if_neg (by simp)]
  simp [bitsZ]
/-- the bits of one place, as they are laid -/
def BitRel (v i0 : Nat) (w : World) (g : Nat) (n j : Value) (wr : World) : Prop :=
  ∃ c : Nat, c ≤ v ∧ n = vi ((i0 / 2 ^ c : Nat) : Int) ∧ j = vi ((v : Int) - 1 - c) ∧ Own wr w.heap.size (.slice (some ⟨g, 0, none⟩) v v) (List.replicate (v - c) 0 ++ bitsZ c i0) ∧ Below w.heap.size w wr

set_option maxRecDepth 100000 in
set_option maxHeartbeats 1000000 in
theorem alone_any (p S b : Nat) [NeZero p] (n v : Nat) (hv : Cube n v) (A : Option Addr) (cap : Nat) (xs : List Int) (hml : xs.length = n) (hxs : ∀ x ∈ xs, I64 x) (w : World) (F : Fld w S b p) (hs : SL w A xs) :
    Calls Try.prog 37 #[.pointer (some ⟨b, 0, none⟩), .slice A n cap, vi v] w fun e w' => SaysW (.bool true) w e w' := by
  have hp2 := F.max
  have hbS := F.le
  have hcb := F.c0
  have hbl : b < w.heap.size := block_lt_of_cell hcb
  have hv12 := hv.1
  have hn0 := hv.le
  have hmk := make_ints v v (Nat.le_refl _) (by omega)
  have HML := Lib.hid hml
  have HV := Lib.hid hv
  clear hml hv
  go_enter Try.func37, Try.ntmps37
  go_wp2
  go_loopw [7] (fun i wr => ∃ k : Nat, k ≤ n ∧ i = vi k ∧ Below w.heap.size w wr) (fun i _ => n - (intOf i).toNat)
  case atStart => exact ⟨0, Nat.zero_le _, rfl, Below.refl _ _⟩
  case round =>
    obtain ⟨k, hk, rfl, hb⟩ := hrel
    by_cases hkn : k < n
    · go_wp2
      go_loopw [9, 10] (fun i j wr2 => BitRel v k wr wr.heap.size i j wr2) (fun _ j _ => (intOf j + 1).toNat)
      case atStart => exact ⟨0, Nat.zero_le _, by simp, by simp, by simpa [bitsZ] using own_made wr _ v (Nat.le_refl _) (by omega), (Below.refl _ _).alloc (Nat.le_refl _) _⟩
      case round =>
        obtain ⟨c, hc, rfl, rfl, hown, hb2⟩ := hrel
        by_cases hcv : c < v
        · have hlen : v = (List.replicate (v - c) (0 : Int) ++ bitsZ c k).length := by simp [bitsZ_length]; omega
          have hcl := hown.at_ hlen (v - 1 - c) (by omega)
          have hfz := hown.frozen_ hlen (v - 1 - c)
          obtain ⟨y0, hy0⟩ : ∃ y, y = (List.replicate (v - c) (0 : Int) ++ bitsZ c k)[v - 1 - c]'(by omega) := ⟨_, rfl⟩
          rw [← hy0] at hcl
          clear hy0 hlen
          have hst := hown.store (by simp [bitsZ_length]; omega) (v - 1 - c) ((k / 2 ^ c % 2 : Nat) : Int)
          rw [bitsZ_set v c k hcv] at hst
          have hgl := (hown.lt _ rfl).1
          obtain ⟨J, hJ⟩ : ∃ J : Nat, J = v - 1 - c := ⟨_, rfl⟩
          have eJ : (v : Int) - 1 - c = (J : Int) := by omega
          have hJv : J < v := by omega
          rw [← hJ] at hst hcl hfz
          rw [eJ]
          obtain ⟨q, hq⟩ : ∃ q, q = k / 2 ^ c := ⟨_, rfl⟩
          have hqq : q / 2 = k / 2 ^ (c + 1) := by rw [hq, Nat.pow_succ, Nat.div_div_eq_div_mul]
          have hqk : q ≤ k := by rw [hq]; exact Nat.div_le_self _ _
          rw [← hq] at hst ⊢
          obtain ⟨bt, hbt⟩ : ∃ bt, bt = q % 2 := ⟨_, rfl⟩
          obtain ⟨q2, hq2⟩ : ∃ q2, q2 = q / 2 := ⟨_, rfl⟩
          rw [← hbt] at hst
          rw [← hq2] at hqq
          have t1 : (q : Int).tmod 2 = (bt : Int) := by rw [Int.tmod_eq_emod_of_nonneg (by omega)]; omega
          have t2 : (q : Int).tdiv 2 = (q2 : Int) := by rw [Int.tdiv_eq_ediv_of_nonneg (by omega)]; omega
          have t3 : (q : Int) % 2 = (bt : Int) := by omega
          have t4 : (q : Int) / 2 = (q2 : Int) := by omega
          clear hbt hq2
          have HQ := Lib.hid hqq
          have HJ := Lib.hid eJ
          have HST := Lib.hid hst
          clear hqq eJ hst hq hJ hown
          go_wp2
          go_roundw
          case rel => exact ⟨c + 1, by omega, by rw [← HQ.out], by have := HJ.out; go_num, HST.out, hb2.setCell (by simp) _⟩
          case measure => simp [intOf]
        · obtain rfl : c = v := by omega
          rw [Nat.sub_self, List.replicate_zero, List.nil_append] at hown
          have hb3 := hb.trans (hb2.mono hb.size)
          obtain ⟨A1, n1, c1, e1, hl1, _, _, hs1⟩ := hown.shapeN
          injection e1 with e1 e2 e3
          subst e1
          have hex := Lib.hid (extend_any p S b n c HV.out A cap xs HML.out hxs (some ⟨_, 0, none⟩) c (bitsZ c k) (bitsZ_length c k) (bitsZ_i64 c k) wr (F.below hb3 hbS) (hs.below hb3) hs1)
          have hkx : k < xs.length := by rw [HML.out]; exact hkn
          have hval : co (extL (els p xs) (els p (bitsZ c k))) 0 = el p xs[k] := by
            rw [els_bitsZ, co_extL (by rw [bitsL_length, List.length_map, HML.out]; exact HV.out.2), extF_bits c _ k (by rw [← HV.out.2]; exact hkn), co_of_lt (by simpa using hkx)]; simp
          obtain ⟨ad, rfl, _, hc5⟩ := (hs.below hb3).at_ hkx
          have ix := hxs _ (List.getElem_mem hkx)
          obtain ⟨x, hx⟩ : ∃ x, x = xs[k] := ⟨_, rfl⟩
          rw [← hx] at hc5 ix hval
          rw [hval] at hex
          have hl5 : (ad.add k).block < wr.heap.size := block_lt_of_cell hc5
          have hcR : wr.cell? ⟨b, 0, none⟩ = some (vi p) := (hb3.cell (p := ⟨b, 0, none⟩) hbl).trans hcb
          clear hown e2 e3 hl1 hx hval
          go_wp2_with fail
          refine (hex.out).mono ?_
          rintro e w4 ⟨rfl, hb4⟩
          have hc6 := (hb4.cell hl5).trans hc5
          have hcR4 : w4.cell? ⟨b, 0, none⟩ = some (vi p) := (hb4.cell (p := ⟨b, 0, none⟩) (block_lt_of_cell hcR)).trans hcR
          go_wp2_with fail
          refine (of_el p hp2 b x ix _ hcR4).mono ?_
          rintro e w' ⟨rfl, rfl⟩
          go_wp2
          go_roundw
          case rel => exact ⟨k + 1, by omega, by go_num, hb3.trans (hb4.mono hb3.size)⟩
          case measure => simp [intOf]; omega
    · obtain rfl : k = n := by omega
      go_wp2
      go_ret
      exact ⟨rfl, hb⟩
end Go.Proofs.Ytehgeiaglddabaa
