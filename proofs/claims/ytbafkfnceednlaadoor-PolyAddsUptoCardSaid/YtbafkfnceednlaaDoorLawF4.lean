/- Walks: poly.Derive; the law PolyEvals. -/
import Derived.Test.YtbafkfnceednlaaDoorLawF3
import Derived.Test.YtbafkfnceednlaaDoorEval
import Derived.Test.YtbafkfnceednlaaDoorTrim
import Derived.Test.YtbafkfnceednlaaDoorRq
set_option linter.unusedVariables false
namespace Go.Proofs.YtbafkfnceednlaaDoor
open Go.RowKit Zp

/-- the derivative's places -/
def derL {p : Nat} [NeZero p] (l : List (Fin p)) : List (Fin p) := tab (l.length - 1) (fun i => el p ((i + 1 : Nat) : Int) * co l (i + 1))
theorem derL_length {p : Nat} [NeZero p] (l : List (Fin p)) : (derL l).length = l.length - 1 := tab_length _ _
theorem derL_take {p : Nat} [NeZero p] (xs : List Int) (k : Nat) (hk0 : 1 ≤ k) (hk : k < xs.length) : (fvs (derL (els p xs))).take (k - 1) ++ [fv (el p (k : Int) * el p xs[k])] = (fvs (derL (els p xs))).take k := by
  have hl : k - 1 < (derL (els p xs)).length := by rw [derL_length, List.length_map]; omega
  have h2 := map_take_succ fv (derL (els p xs)) (k - 1) hl
  rw [show k - 1 + 1 = k by omega] at h2
  have e : (derL (els p xs))[k - 1] = el p (k : Int) * el p xs[k] := by
    rw [← co_of_lt hl]; unfold derL; rw [co_tab, if_pos (by rw [List.length_map]; omega), show k - 1 + 1 = k by omega, co_of_lt (by simpa using hk)]; simp
  rw [e] at h2
  exact h2

theorem trim_n (p : Nat) [NeZero p] (hp2 : p ≤ 2147483647) (b : Nat) (A : Option Addr) (n cap : Nat) (xs : List Int) (hml : xs.length = n) (hxs : ∀ n ∈ xs, I64 n) (hreach : n * 8 ≤ 281474976710656) (hcap : n ≤ cap) (w : World) (hc : w.cell? ⟨b, 0, none⟩ = some (vi p)) (hs : SL w A xs) :
    Calls Tryd.prog 51 #[.pointer (some ⟨b, 0, none⟩), .slice A n cap] w fun e w' => Made (fvs (trimL (els p xs))) w e w' := by
  subst hml
  exact trim_any p hp2 b A cap xs hxs hreach hcap w hc hs
theorem eval_n (p : Nat) [NeZero p] (S b : Nat) (A : Option Addr) (n cap : Nat) (xs : List Int) (hml : xs.length = n) (hxs : ∀ n ∈ xs, I64 n) (hreach : n * 8 ≤ 140737488351232) (x : Int) (hx : I64 x) (w : World) (F : Fld w S b p) (hs : SL w A xs) :
    Calls Tryd.prog 44 #[.pointer (some ⟨b, 0, none⟩), .slice A n cap, vi x] w fun e w' => SaysW (vi (fv (ev (els p xs) (el p x)))) w e w' := by
  subst hml
  exact eval_any p S b A cap xs hxs hreach x hx w F hs

def DerRel (l : List Int) (n : Nat) (w : World) (v i : Value) (wr : World) : Prop := ∃ k : Nat, k ≤ n ∧ i = vi k ∧ Own wr w.heap.size v (l.take (k - 1)) ∧ Below w.heap.size w wr
set_option maxRecDepth 100000 in
set_option maxHeartbeats 1000000 in
theorem derive_any (p S b : Nat) [NeZero p] (A : Option Addr) (n cap : Nat) (xs : List Int) (hml : xs.length = n) (hxs : ∀ x ∈ xs, I64 x) (hr : n * 8 ≤ 140737488351232) (w : World) (F : Fld w S b p) (hs : SL w A xs) :
    Calls Tryd.prog 46 #[.pointer (some ⟨b, 0, none⟩), .slice A n cap] w fun e w' => Made (fvs (trimL (derL (els p xs)))) w e w' := by
  have hp1 := F.two
  have hp2 := F.max
  have hbS := F.le
  have hcb := F.c0
  have hbl : b < w.heap.size := block_lt_of_cell hcb
  have htk := fun k h1 h2 => derL_take (p := p) xs k h1 h2
  obtain ⟨l, hl⟩ : ∃ l, l = derL (els p xs) := ⟨_, rfl⟩
  rw [← hl] at htk ⊢
  have hll : l.length = n - 1 := by rw [hl, derL_length, List.length_map, hml]
  have HLL := Lib.hid hll
  have HTK := Lib.hid htk
  have HML := Lib.hid hml
  clear hl hll hml htk
  go_enter Tryd.func46, Tryd.ntmps46
  go_wp2
  go_loopw [5, 6, 7, 10] (fun v _ _ i wr => DerRel (fvs l) n w v i wr) (fun _ _ _ i _ => n - (intOf i).toNat)
  case atStart => exact ⟨0, Nat.zero_le _, rfl, World.ownsRow_nil _ _ _ _, Below.refl _ _⟩
  case round =>
    obtain ⟨k, hk, rfl, hown, hb⟩ := hrel
    have hcr : wr.cell? ⟨b, 0, none⟩ = some (vi p) := (hb.cell (p := ⟨b, 0, none⟩) hbl).trans hcb
    by_cases hkn : k < n
    · have hkx : k < xs.length := by rw [HML.out]; exact hkn
      obtain ⟨ad, rfl, hab, hcell⟩ := (hs.below hb).at_ hkx
      have hI := hxs _ (List.getElem_mem hkx)
      by_cases hk0 : 1 ≤ k
      · have h2 := HTK.out k hk0 hkx
        generalize xs[k] = x at hcell hI h2
        have hmul := fun W hc => mul_any p hp2 b k x (by constructor <;> omega) hI W hc
        generalize el p (k : Int) * el p x = Z at h2 hmul
        have hlk : ((fvs l).take (k - 1)).length < 17592186044416 := by
          have := List.length_take_le (k - 1) (fvs l); omega
        have HLK := Lib.hid hlk
        have H2 := Lib.hid h2
        have HMUL := Lib.hid hmul
        have i1 : (0 : Int) < (k : Int) := by omega
        clear h2 hlk hmul
        go_wp2_with fail
        refine (HMUL.out _ (by exact hcr)).mono ?_
        rintro e w' ⟨rfl, k5, rfl⟩
        go_wp2_with (at_builtin; refine wpList_app1 (wr.drewN k5) (fv Z) rfl _ _ rfl w.heap.size _ _ rfl rfl (hown.drewN k5) HLK.out hb.size ?_; intro v' w1 hg)
        go_roundw
        case rel => exact ⟨k + 1, by omega, by go_num, by rw [Nat.add_sub_cancel, ← H2.out]; exact hg.own, hg.below (below_drewN hb k5) (hown.drewN k5) (Nat.le_refl _) hb.size⟩
        case measure => simp [intOf]; omega
      · obtain rfl : k = 0 := by omega
        have e0 : ad.add 0 = ad := by cases ad; simp [Addr.add]
        rw [e0] at hcell
        generalize xs[0] = x at hcell hI
        clear e0
        go_wp2
        go_roundw
        case rel => exact ⟨1, by omega, by go_num, hown, hb⟩
        case measure => simp [intOf]; omega
    · obtain rfl : k = n := by omega
      have hLn : (fvs l).length = k - 1 := by rw [List.length_map, HLL.out]
      rw [List.take_of_length_le (by rw [hLn]; exact Nat.le_refl _)] at hown
      obtain ⟨A1, n1, c1, rfl, hl1, hc1, _, hs1⟩ := hown.shapeN
      have ht := trim_n p hp2 b A1 n1 c1 (fvs l) hl1 (i64_fvsR l hp2) (by omega) hc1 wr hcr hs1
      rw [els_fvs] at ht
      have HT := Lib.hid ht
      clear ht hLn hown hl1
      go_wp2_with fail
      refine (HT.out).mono ?_
      rintro e w4 ⟨v4, rfl, hown4, hb4⟩
      go_wp2
      go_ret
      exact ⟨v4, rfl, hown4.more hb.size, hb.trans (hb4.mono hb.size)⟩

set_option maxRecDepth 100000 in
set_option maxHeartbeats 2000000 in
theorem evals_walk (w : World) (p : Int) (hp : I64 p) (A : Option Addr) (na ca : Nat) (xs : List Int) (ha : ArgS w A na ca xs) (x : Int) (hx : I64 x) (hT : Typed w) :
    Calls Tryd.prog 10 #[vi p, .slice A na ca, vi x] w fun e w' => SaysW (.bool true) w e w' := by
  have hra := ha.r8
  have hla := ha.len
  rw [hla] at hra
  have HLA := Lib.hid hla
  clear hla
  by_cases hF : HasField p
  · obtain ⟨h3, hm, hpr⟩ := hF
    obtain ⟨q, rfl⟩ := Int.eq_ofNat_of_zero_le (a := p) (by omega)
    rw [Int.toNat_natCast] at hpr
    haveI := hpr.ne
    have hqm : q ≤ 2147483647 := by omega
    have hq2 : 2 ≤ q := by omega
    have HF := Lib.hid (sfield_yes q (by omega) hqm hpr w hT)
    have hev := fun S b w F hs => eval_n q S b A na ca xs HLA.out ha.i64 hra x hx w F hs
    have hrev := fun w hs => reval_n q hq2 hqm A na ca xs HLA.out ha.i64 (by omega) x hx w hs
    generalize fv (ev (els q xs) (el q x)) = Y at hev hrev
    have hder := fun S b w F hs => derive_any q S b A na ca xs HLA.out ha.i64 hra w F hs
    have htk := fun k h1 h2 => derL_take (p := q) xs k h1 h2
    have hll : (derL (els q xs)).length = na - 1 := by rw [derL_length, List.length_map, HLA.out]
    generalize derL (els q xs) = l at hder htk hll
    have HEV := Lib.hid hev
    have HREV := Lib.hid hrev
    have HDER := Lib.hid hder
    have HTK := Lib.hid htk
    have HLL := Lib.hid hll
    clear hpr hev hrev hder htk hll
    go_enter Tryd.func10, Tryd.ntmps10
    go_wp2_with fail
    refine (HF.out).mono ?_
    rintro e w1 ⟨b, rfl, F, hb1⟩
    have hs1 := ha.sl.below hb1
    go_wp2_with fail
    refine (HEV.out _ _ _ F hs1).mono ?_
    rintro e w2 ⟨rfl, hb2⟩
    have F2 := F.below hb2 (Nat.le_refl _)
    have hs2 := hs1.below hb2
    have hbel2 := hb1.trans (hb2.mono hb1.size)
    go_wp2_with fail
    refine (HREV.out _ hs2).mono ?_
    rintro e w' ⟨rfl, rfl⟩
    go_wp2_with fail
    refine (HDER.out _ _ _ F2 hs2).mono ?_
    rintro e w3 ⟨v3, rfl, hown3, hb3⟩
    have hs3 := hs2.below hb3
    have hbel3 := hbel2.trans (hb3.mono hbel2.size)
    obtain ⟨A3, n3, c3, rfl, hl3, hc3, _, hsd⟩ := hown3.shapeN
    have HL3 := Lib.hid hl3
    have hn3 : n3 ≤ na := by
      have h1 := trimL_length_le l
      have h2 := HLL.out
      rw [List.length_map] at hl3; omega
    clear hown3 hl3
    go_wp2
    go_loopw [12, 13, 14] (fun v i _ wr => ∃ k : Nat, 1 ≤ k ∧ (k ≤ na ∨ k = 1) ∧ i = vi k ∧ Own wr w3.heap.size v ((fvs l).take (k - 1)) ∧ Below w3.heap.size w3 wr) (fun _ i _ _ => na + 1 - (intOf i).toNat)
    case atStart => exact ⟨1, Nat.le_refl _, .inr rfl, rfl, World.ownsRow_nil _ _ _ _, Below.refl _ _⟩
    case round =>
      obtain ⟨k, hk0, hk, rfl, hown, hb⟩ := hrel
      by_cases hkn : k < na
      · have hkx : k < xs.length := by rw [HLA.out]; exact hkn
        obtain ⟨ad, rfl, hab, hcell⟩ := (hs3.below hb).at_ hkx
        have hI := ha.i64 _ (List.getElem_mem hkx)
        have h2 := HTK.out k hk0 hkx
        generalize xs[k] = x0 at hcell hI h2
        have hmul := fun W => rmul_any q hqm x0 k hI (by constructor <;> omega) W
        have e : el q x0 * el q (k : Int) = el q (k : Int) * el q x0 := by grind
        rw [e] at hmul
        generalize el q (k : Int) * el q x0 = Z at h2 hmul
        have hlk : ((fvs l).take (k - 1)).length < 17592186044416 := by
          have := List.length_take_le (k - 1) (fvs l); omega
        have HLK := Lib.hid hlk
        have H2 := Lib.hid h2
        have HMUL := Lib.hid hmul
        clear h2 hlk hmul e
        go_wp2_with (first | (go_at_call 28; refine (HMUL.out _).mono ?_; rintro e w' ⟨rfl, rfl⟩) | (at_builtin; refine wpList_app1 wr (fv Z) rfl _ _ rfl w3.heap.size _ _ rfl rfl hown HLK.out hb.size ?_; intro v' w4 hg))
        go_roundw
        case rel => exact ⟨k + 1, by omega, .inl (by omega), by go_num, by rw [Nat.add_sub_cancel, ← H2.out]; exact hg.own, hg.below hb hown (Nat.le_refl _) hb.size⟩
        case measure => simp [intOf]; omega
      · have hLn : (fvs l).length ≤ k - 1 := by rw [List.length_map, HLL.out]; omega
        rw [List.take_of_length_le hLn] at hown
        obtain ⟨A4, n4, c4, rfl, hl4, hc4, _, hs4⟩ := hown.shapeN
        have hn4 : n4 ≤ na := by have := HLL.out; rw [List.length_map] at hl4; omega
        have ht := rtrim_n q hqm A4 n4 c4 (fvs l) hl4 (i64_fvsR l hqm) (by omega) hc4 wr hs4
        rw [els_fvs] at ht
        have HT := Lib.hid ht
        clear ht hLn hown hl4
        go_wp2_with fail
        refine (HT.out).mono ?_
        rintro e w5 ⟨v5, rfl, hown5, hb5⟩
        have hb35 := hb.trans (hb5.mono hb.size)
        obtain ⟨A5, n5, c5, rfl, hl5, hc5, _, hs5⟩ := hown5.shapeN
        have HL5 := Lib.hid hl5
        clear hown5 hl5
        go_wp2_with fail
        refine (ints_same A3 A5 n3 c3 n5 c5 _ _ HL3.out HL5.out rfl (by omega) _ (hsd.below hb35) hs5).mono ?_
        rintro e w' ⟨rfl, k1, rfl⟩
        go_wp2
        go_ret
        exact ⟨rfl, below_drewN (hbel3.trans (hb35.mono hbel3.size)) _⟩
  · have HN := Lib.hid (sfield_no p hp hF w hT)
    clear hF
    go_enter Tryd.func10, Tryd.ntmps10
    go_wp2_with fail
    refine (HN.out).mono ?_
    rintro e w1 ⟨rfl, hb1⟩
    go_wp2
    go_ret
    exact ⟨rfl, hb1⟩
end Go.Proofs.YtbafkfnceednlaaDoor
