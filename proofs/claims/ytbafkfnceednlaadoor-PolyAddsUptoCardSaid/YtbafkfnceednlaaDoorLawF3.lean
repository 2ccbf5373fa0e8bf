/- Walks: Field.Invs; the laws FieldInvs. -/
import Derived.Test.YtbafkfnceednlaaDoorLawF1
import Derived.Test.YtbafkfnceednlaaDoorAppA
import Derived.Test.YtbafkfnceednlaaDoorArg
set_option linter.unusedVariables false
namespace Go.Proofs.YtbafkfnceednlaaDoor
open Go.RowKit Zp

theorem SL_of_own {w : World} {base n c : Nat} {A : Option Addr} {xs : List Int} (h : Own w base (.slice A n c) xs) : SL w A xs := by
  obtain ⟨A', c', e, hs⟩ := h.len
  injection e with e1 e2 e3
  subst e1
  exact hs
theorem ints_same (A B : Option Addr) (n c m d : Nat) (xs ys : List Int) (hnx : xs.length = n) (hmy : ys.length = m) (he : xs = ys) (hn : n ≤ 9223372036854775807) (w : World) (hsx : SL w A xs) (hsy : SL w B ys) :
    Calls Tryd.prog 31 #[.slice A n c, .slice B m d] w fun e w' => e = .returned (.bool true) ∧ ∃ k, w' = w.drewN k := by
  subst hnx hmy
  have h := ints_any A B c d xs ys hn (by rw [← he]; exact hn) w hsx hsy
  rw [eqB_true he] at h
  exact h

def InvsRel (l : List Int) (n : Nat) (w : World) (v i : Value) (wr : World) : Prop := ∃ k g : Nat, k ≤ n ∧ i = vi k ∧ v = .slice (some ⟨g, 0, none⟩) k n ∧ Own wr w.heap.size v (l.take k) ∧ Below w.heap.size w wr
/-- handed back: a slice of n ints that reads as xs -/
def GiveN (n : Nat) (xs : List Int) (w : World) (e : Ending) (w' : World) : Prop := ∃ A c, xs.length = n ∧ e = .returned (.slice A n c) ∧ n ≤ c ∧ SL w' A xs ∧ Below w.heap.size w w'
set_option maxRecDepth 100000 in
set_option maxHeartbeats 1000000 in
theorem invs_any (p S b : Nat) [NeZero p] (A : Option Addr) (n cap : Nat) (xs : List Int) (hml : xs.length = n) (hxs : ∀ x ∈ xs, I64 x) (hr : n * 8 ≤ 140737488351232) (w : World) (F : Fld w S b p) (hs : SL w A xs) :
    Calls Tryd.prog 38 #[.pointer (some ⟨b, 0, none⟩), .slice A n cap] w fun e w' => GiveN n (fvs ((els p xs).map Zp.inv)) w e w' := by
  have hp1 := F.two
  have hp2 := F.max
  have hbS := F.le
  have hcb := F.c0
  have hbl : b < w.heap.size := block_lt_of_cell hcb
  have hmk := make_ints0 n (by omega)
  obtain ⟨l, hl⟩ : ∃ l, l = (els p xs).map Zp.inv := ⟨_, rfl⟩
  rw [← hl]
  have hll : l.length = n := by rw [hl]; simp [hml]
  have hco : ∀ k (hk : k < xs.length) (hk' : k < l.length), l[k] = Zp.inv (el p xs[k]) := fun k hk hk' => by simp [hl]
  have HLL := Lib.hid hll
  have HCO := Lib.hid hco
  have HML := Lib.hid hml
  clear hl hll hml hco
  go_enter Tryd.func38, Tryd.ntmps38
  go_wp2
  go_loopw [5, 7, 13] (fun v _ i wr => InvsRel (fvs l) n w v i wr) (fun _ _ i _ => n - (intOf i).toNat)
  case atStart => exact ⟨0, w.heap.size, Nat.zero_le _, rfl, rfl, own_made0 w _ n (Nat.le_refl _) (by omega), (Below.refl _ _).alloc (Nat.le_refl _) _⟩
  case round =>
    obtain ⟨k, g, hk, rfl, rfl, hown, hb⟩ := hrel
    by_cases hkn : k < n
    · have hcr : wr.cell? ⟨b, 0, none⟩ = some (vi p) := (hb.cell (p := ⟨b, 0, none⟩) hbl).trans hcb
      have hkx : k < xs.length := by rw [HML.out]; exact hkn
      have hkl : k < l.length := by rw [HLL.out]; exact hkn
      obtain ⟨ad, rfl, hab, hcell⟩ := (hs.below hb).at_ hkx
      have hI := hxs _ (List.getElem_mem hkx)
      have h2 := map_take_succ fv l k hkl
      rw [HCO.out k hkx hkl] at h2
      generalize xs[k] = x at hcell hI h2
      have hlk : ((fvs l).take k).length = k := by rw [List.length_take, List.length_map, HLL.out]; omega
      have HLK := Lib.hid hlk
      have H2 := Lib.hid h2
      clear h2 hlk
      go_wp2_with (first | (go_at_call 24; refine (inv_any p hp1 hp2 b x hI _ hcr).mono ?_; rintro e w' ⟨rfl, rfl⟩) | (at_builtin; refine wpList_app1_fits wr (fv (Zp.inv (el p x))) rfl _ _ rfl w.heap.size g k n _ rfl rfl hown HLK.out.symm hkn ?_; intro w1 hown1 hg))
      go_roundw
      case rel => exact ⟨k + 1, g, by omega, by go_num, rfl, by rw [← H2.out]; exact hown1, hb.grown hg hb.size (fun j hj => by injection hj with hj; subst hj; exact (hown.lt g rfl).1)⟩
      case measure => simp [intOf]; omega
    · obtain rfl : k = n := by omega
      rw [List.take_of_length_le (by rw [List.length_map, HLL.out]; exact Nat.le_refl _)] at hown
      have hsl := SL_of_own hown
      go_wp2_with fail
      refine (clip_any (some ⟨g, 0, none⟩) k k (Nat.le_refl _) (by omega) _).mono ?_
      rintro e w' ⟨rfl, rfl⟩
      go_wp2
      go_ret
      exact ⟨_, k, by rw [List.length_map]; exact HLL.out, rfl, Nat.le_refl _, hsl, hb⟩

set_option maxRecDepth 100000 in
set_option maxHeartbeats 1000000 in
theorem invs_walk (w : World) (p : Int) (hp : I64 p) (A : Option Addr) (na ca : Nat) (xs : List Int) (ha : ArgS w A na ca xs) (hT : Typed w) :
    Calls Tryd.prog 7 #[vi p, .slice A na ca] w fun e w' => SaysW (.bool true) w e w' := by
  have hra := ha.r8
  have hla := ha.len
  rw [hla] at hra
  have HLA := Lib.hid hla
  clear hla
  by_cases hF : HasField p
  · obtain ⟨h3, hm, hpr⟩ := hF
    obtain ⟨q, rfl⟩ := Int.eq_ofNat_of_zero_le (a := p) (by omega)
    rw [Int.toNat_natCast] at hpr
    haveI := hpr.ne
    have hqm : q ≤ 2147483647 := by omega
    have hq2 : 2 ≤ q := by omega
    have HF := Lib.hid (sfield_yes q (by omega) hqm hpr w hT)
    clear hpr
    go_enter Tryd.func7, Tryd.ntmps7
    go_wp2_with fail
    refine (HF.out).mono ?_
    rintro e w1 ⟨b, rfl, F, hb1⟩
    have hs1 := ha.sl.below hb1
    have hba : Below w1.heap.size w1 (w1.alloc (.cells #[] 3)) := (Below.refl _ _).alloc (Nat.le_refl _) _
    go_wp2_with (at_builtin; refine wpList_appA _ rfl _ _ rfl w1.heap.size _ [] A na ca xs rfl rfl HLA.out (own_empty w1 _ (Nat.le_refl _)) (hs1.below hba) (by simp; omega) (by simp) ?_; intro v' w2 hg; have hown := hg.own; have hb2 := hg.below hba (own_empty w1 _ (Nat.le_refl _)) (Nat.le_refl _) (by simp); rw [List.nil_append] at hown; clear hg; obtain ⟨A2, n2, c2, rfl, hl2, hc2, _, hs2⟩ := hown.shapeN; rw [HLA.out] at hl2; subst hl2; clear hown)
    have F2 := F.below hb2 F.le
    refine (invs_any q _ b A2 na c2 xs HLA.out ha.i64 (by omega) _ F2 hs2).mono ?_
    rintro e w3 ⟨A3, c3, hl3, rfl, hc3, hs3, hb3⟩
    have hb13 := hb2.trans (hb3.mono hb2.size)
    have hsa3 := hs1.below hb13
    clear hl3
    go_wp2_with fail
    refine (ints_same A2 A na c2 na ca xs xs HLA.out HLA.out rfl (by omega) _ (hs2.below hb3) hsa3).mono ?_
    rintro e w' ⟨rfl, k1, rfl⟩
    go_wp2
    go_loop [10, 11] (fun i _ => ∃ k : Nat, k ≤ na ∧ i = vi k) (fun i _ => na - (intOf i).toNat)
    case atStart => exact ⟨0, Nat.zero_le _, rfl⟩
    case round =>
      obtain ⟨k, hk, rfl⟩ := hrel
      by_cases hkn : k < na
      · have hkx : k < xs.length := by rw [HLA.out]; exact hkn
        have hky : k < (fvs ((els q xs).map Zp.inv)).length := by rw [List.length_map, List.length_map, List.length_map]; exact hkx
        obtain ⟨ad, rfl, _, hcell⟩ := hsa3.at_ hkx
        obtain ⟨ad2, rfl, _, hcell2⟩ := hs3.at_ hky
        have hI := ha.i64 _ (List.getElem_mem hkx)
        have e2 : (fvs ((els q xs).map Zp.inv))[k] = fv (Zp.inv (el q xs[k])) := by simp
        rw [e2] at hcell2
        generalize xs[k] = x at hcell hcell2 hI e2
        clear e2
        go_wp2_with fail
        refine (rinv_any q hq2 hqm x hI _).mono ?_
        rintro e w' ⟨rfl, rfl⟩
        go_wp2
        go_round
        case rel => exact ⟨k + 1, by omega, by go_num⟩
        case measure => simp [intOf]; omega
      · obtain rfl : k = na := by omega
        go_wp2
        go_ret
        exact ⟨rfl, below_drewN (hb1.trans (hb13.mono hb1.size)) _⟩
  · have HN := Lib.hid (sfield_no p hp hF w hT)
    clear hF
    go_enter Tryd.func7, Tryd.ntmps7
    go_wp2_with fail
    refine (HN.out).mono ?_
    rintro e w1 ⟨rfl, hb1⟩
    go_wp2
    go_ret
    exact ⟨rfl, hb1⟩
end Go.Proofs.YtbafkfnceednlaaDoor
