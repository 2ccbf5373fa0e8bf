/- A bundle of texts: Vn, Pf, Eval, Pg, Cf, Ck, Tr, Lv1, Lv2, Lv4. -/
import Derived.Test.YtabhndfdioimcaaB02
import Derived.Test.YtabhndfdioimcaaB00
import Derived.Maps.OwnSet
import Derived.Test.YtabhndfdioimcaaB01
import Derived.RangeFuncNested
import Derived.RangeFuncBound
import Derived.RangeFuncCalls
import Derived.RangeFuncLeaves
import Derived.RangeFuncBox
import Derived.Shelf.Abstract
import Derived.Shelf.RegionOpen
import Derived.WalkKit
import Derived.OwnWalkIn
import Derived.TacticsInMore
import Derived.LoopNIn
import Derived.LoopIn
import Derived.Deep.RegionHeld3
import Derived.Deep.QuietTactic
/- The walk of poly.Vanish. -/
set_option linter.unusedVariables false
namespace Go.Proofs.Ytabhndfdioimcaa
open Go.RowKit Zp

set_option maxRecDepth 100000 in
set_option maxHeartbeats 4000000 in
theorem pvan_any (p : Nat) [NeZero p] (hp : IsPrime p) (hp1 : 2 ≤ p) (hp2 : p ≤ 2147483647) (b : Nat) (A : Option Addr) (na ca : Nat) (xs : List Int) (hna : xs.length = na) (hxs : ∀ n ∈ xs, I64 n) (hr : na * 8 ≤ 140737488351232) (w : World) (hc : w.cell? ⟨b, 0, none⟩ = some (vi p)) (hsx : SL w A xs) :
    Calls Try.prog 71 #[.pointer (some ⟨b, 0, none⟩), .slice A na ca] w fun e w' => Made (fvs (vanL (els p xs))) w e w' := by
  have hbl : b < w.heap.size := block_lt_of_cell hc
  obtain ⟨l, hl⟩ : ∃ l, l = els p xs := ⟨_, rfl⟩
  rw [← hl]
  have hll : l.length = na := by rw [hl]; simp [hna]
  have hco : ∀ k (hk : k < xs.length) (hk' : k < l.length), l[k] = el p xs[k] := fun k hk hk' => by simp [hl]
  have ho1 : OwnC (w.alloc (.cells #[vi 1] 3)) w.heap.size w.heap.size (0 + 1) (0 + 1) (vanL (l.take 0)) := by
    refine ⟨rfl, ?_⟩
    have h := own_lit w w.heap.size [1] (Nat.le_refl _) (by simp [maxLen])
    have e : fvs (vanL (l.take 0)) = [1] := by rw [List.take_zero, vanL]; simp [fv_one hp1]
    rw [e]; exact h
  have HO1 := Lib.hid ho1
  have HLL := Lib.hid hll
  have HCO := Lib.hid hco
  have HNA := Lib.hid hna
  have HP := Lib.hid hp
  clear hl hll hna hco ho1 hp
  go_enter Try.func71, Try.ntmps71
  go_wp2
  go_loopw [5, 14] (fun v i wr => ∃ k g : Nat, k ≤ na ∧ i = vi k ∧ v = .slice (some ⟨g, 0, none⟩) (k + 1) (k + 1) ∧ OwnC wr w.heap.size g (k + 1) (k + 1) (vanL (l.take k)) ∧ Below w.heap.size w wr) (fun _ i _ => na - (intOf i).toNat)
  case atStart => exact ⟨0, w.heap.size, Nat.zero_le _, rfl, rfl, HO1.out, (Below.refl _ _).alloc (Nat.le_refl _) _⟩
  case round =>
    obtain ⟨k, g, hk, rfl, rfl, hown, hb⟩ := hrel
    obtain ⟨W0, hW0⟩ : ∃ W0 : World, W0 = wr := ⟨_, rfl⟩
    subst hW0
    by_cases hkn : k < na
    · have hkl : k < l.length := by rw [HLL.out]; exact hkn
      have hkx : k < xs.length := by rw [HNA.out]; exact hkn
      obtain ⟨ad, rfl, hab, hcell⟩ := (hsx.below hb).at_ hkx
      have hI := hxs _ (List.getElem_mem hkx)
      have hcr : W0.cell? ⟨b, 0, none⟩ = some (vi p) := (hb.cell (p := ⟨b, 0, none⟩) hbl).trans hc
      have hblr : b < W0.heap.size := block_lt_of_cell hcr
      have hst : vanL (l.take (k + 1)) = vanS (vanL (l.take k)) (el p xs[k]) := by
        rw [List.take_succ_eq_append_getElem hkl, vanL_snoc, HCO.out k hkx hkl]
      have hmo : Monic (vanL (l.take k)) k := by
        have h := monic_van HP.out (l.take k)
        rwa [List.length_take, Nat.min_eq_left (by omega)] at h
      generalize xs[k] = x at hcell hI hst
      generalize vanL (l.take k) = O at hown hmo hst
      obtain ⟨nx, hnx⟩ : ∃ nx, nx = k + 2 := ⟨_, rfl⟩
      have hOE := OwnC.made (p := p) W0 w.heap.size nx hb.size (by omega)
      have hmk := make_ints nx nx (Nat.le_refl _) (by omega)
      have en : (nx : Int) = (k : Int) + 1 + 1 := by omega
      rw [en] at hmk
      have HNX := Lib.hid hnx
      have HST := Lib.hid hst
      have HMO := Lib.hid hmo
      have hvs := VanIn.start O (el p x) nx (by rw [hmo.len, hnx])
      have HVS := Lib.hid hvs
      have hg := hown.lt
      have hba : Below W0.heap.size W0 (W0.alloc (.cells (zeros nx) 3)) := (Below.refl _ _).alloc (Nat.le_refl _) _
      obtain ⟨G, hG⟩ : ∃ G, G = W0.heap.size := ⟨_, rfl⟩
      have ewk : IntKind.i64.wrap ((k : Int) + 1 + 1) = (k : Int) + 1 + 1 := IntWalk.i64_in _ (by omega)
      have ewk1 : IntKind.i64.wrap ((k : Int) + 1) = (k : Int) + 1 := IntWalk.i64_in _ (by omega)
      clear hst hmo hvs en hnx
      go_wp2
      go_loopw [24] (fun t wr => ∃ (j : Nat) (N : List (Fin p)), j ≤ k + 1 ∧ t = vi j ∧ OwnC wr w.heap.size W0.heap.size nx nx N ∧ VanIn O (el p x) j N ∧ Below W0.heap.size W0 wr) (fun t _ => k + 1 - (intOf t).toNat)
      case atStart => exact ⟨0, _, Nat.zero_le _, rfl, hOE, HVS.out, hba⟩
      case round =>
        obtain ⟨j, N, hj, rfl, hoN, hvi, hb'⟩ := hrel
        by_cases hjk : j ≤ k
        · have hcr' : W0.cell? ⟨b, 0, none⟩ = some (vi p) := hcr
          have hcq : wr.cell? ⟨b, 0, none⟩ = some (vi p) := (hb'.cell (p := ⟨b, 0, none⟩) hblr).trans hcr
          have hcO := (hown.below hb').at_ j (by omega)
          have hj1 : j + 1 < nx := by rw [HNX.out]; omega
          have hcA := hoN.at_ (j + 1) hj1
          have hfA := hoN.frozen (j + 1)
          have hcB := hoN.at_ j (by omega)
          have hfB := hoN.frozen j
          obtain ⟨y, hy⟩ : ∃ y, y = co O j := ⟨_, rfl⟩
          rw [← hy] at hcO
          obtain ⟨a0, ha0⟩ : ∃ a0, a0 = co N (j + 1) := ⟨_, rfl⟩
          rw [← ha0] at hcA
          obtain ⟨c0, hc0⟩ : ∃ c0, c0 = co N j := ⟨_, rfl⟩
          rw [← hc0] at hcB
          obtain ⟨a1, ha1⟩ : ∃ a1, a1 = a0 + y := ⟨_, rfl⟩
          obtain ⟨T, hT⟩ : ∃ T, T = el p x * y := ⟨_, rfl⟩
          obtain ⟨c1, hc1⟩ : ∃ c1, c1 = c0 - T := ⟨_, rfl⟩
          have hvst := hvi.step (by rw [HMO.out.len]; omega) (a := a1) (c := c1) (by rw [ha1, ha0, hy]) (by rw [hc1, hc0, hT, hy])
          have hadd := fun W hcW => add_any p hp2 b (fv a0) (fv y) (i64_fv _ hp2) (i64_fv _ hp2) W hcW
          rw [el_fv, el_fv, ← ha1] at hadd
          have hmul := fun W hcW => mul_any p hp2 b x (fv y) hI (i64_fv _ hp2) W hcW
          rw [el_fv, ← hT] at hmul
          have hsub := fun W hcW => sub_any p hp2 b (fv c0) (fv T) (i64_fv _ hp2) (i64_fv _ hp2) W hcW
          rw [el_fv, el_fv, ← hc1] at hsub
          have HADD := Lib.hid hadd
          have HMUL := Lib.hid hmul
          have HSUB := Lib.hid hsub
          have HVST := Lib.hid hvst
          clear hadd hmul hsub hvst hy ha0 hc0 ha1 hT hc1 hvi
          have i3 : (0 : Int) ≤ (j : Int) := by omega
          have i4 : (j : Int) < (k : Int) + 1 := by omega
          have i5 : (0 : Int) ≤ (j : Int) + 1 := by omega
          have i6 : (j : Int) + 1 < nx := by omega
          have i6b : (j : Int) < nx := by omega
          have i7 : ((j : Int) + 1).toNat = j + 1 := by omega
          have i8 : IntKind.i64.wrap ((j : Int) + 1) = (j : Int) + 1 := IntWalk.i64_in _ (by omega)
          have hmx : Try.prog.follows .mixedOrders = true := by kernel_rfl
          go_wp2_with fail
          refine (HADD.out _ (by exact hcq)).mono ?_
          rintro e w' ⟨rfl, k1, rfl⟩
          have hne : ¬ b = W0.heap.size := by omega
          have hcq2 : ((wr.drewN k1).setCell ⟨W0.heap.size, j + 1, none⟩ (vi (fv a1))).cell? ⟨b, 0, none⟩ = some (vi p) := setCell_keep (by exact hcq) hne
          have hoN1 := (hoN.drewN k1).store (j + 1) a1
          have hb1 := (below_drewN hb' k1).setCell (p := ⟨W0.heap.size, j + 1, none⟩) (Nat.le_refl _) (vi (fv a1))
          have hcB2 := hoN1.at_ j (by omega)
          have hfB2 := hoN1.frozen j
          have hcB3 : ((wr.drewN k1).setCell ⟨W0.heap.size, j + 1, none⟩ (vi (fv a1))).cell? ⟨W0.heap.size, j, none⟩ = some (vi (fv c0)) := by
            rw [World.cell?_setCell_other _ _ _ _ (fun e => by injection e with _ e _; omega)]
            exact hcB
          clear hcB2 i5 i6 i7 i8
          go_wp2
          refine wp_region_quiet_tail 13 hmx (by kernel_rfl) ?_
          simp only [List.take_succ_cons, List.take_zero, List.drop_succ_cons, List.drop_zero]
          repeat (quiet_step (first | (go_at_call 56; exact Calls.quiet_of (HMUL.out _ (by exact hcq2))) | (go_at_call 37; exact quiet_eq (HSUB.out _ (by exact hcq2)))))
          refine wpQuiet_nil ?_
          intro _ hw'
          obtain ⟨nq1, hw''⟩ := hw'
          subst hw''
          have hoN2 := (hoN1.drewN nq1).store j c1
          have hb2 := (below_drewN hb1 nq1).setCell (p := ⟨W0.heap.size, j, none⟩) (Nat.le_refl _) (vi (fv c1))
          go_wp2
          go_roundw
          case rel => exact ⟨j + 1, _, by omega, by go_num, hoN2, HVST.out, hb2⟩
          case measure => simp [intOf]; omega
        · obtain rfl : j = k + 1 := by omega
          have hdn := VanIn.done HP.out HMO.out (by rw [HMO.out.len]; exact hvi)
          rw [← HST.out] at hdn
          subst hdn
          have hoN2 : OwnC wr w.heap.size W0.heap.size (k + 1 + 1) (k + 1 + 1) (vanL (l.take (k + 1))) := by
            have := hoN
            rwa [HNX.out] at this
          have hbb := hb.trans (hb'.mono hb.size)
          have en : (nx : Int) = (k : Int) + 1 + 1 := by have := HNX.out; omega
          clear hvi hoN
          go_wp2
          go_roundw
          case rel => exact ⟨k + 1, W0.heap.size, by omega, by go_num, by rw [HNX.out], hoN2, hbb⟩
          case measure => simp [intOf]; omega
    · obtain rfl : k = na := by omega
      have he : l.take k = l := List.take_of_length_le (by rw [HLL.out]; exact Nat.le_refl _)
      rw [he] at hown
      clear he
      go_wp2
      go_ret
      exact ⟨_, rfl, by have := hown.2; rw [Own]; exact this, hb⟩
end Go.Proofs.Ytabhndfdioimcaa

/- The walk of poly.Fit. -/
set_option linter.unusedVariables false
namespace Go.Proofs.Ytabhndfdioimcaa
open Go.RowKit Zp

theorem keyed_int : Go.Maps.Keyed Try.prog 3 := Go.Maps.int_keyed Try.underlying3
theorem zero_bool (w : World) : (zeroValue 4).run Try.prog w = .ok (.bool false) w := by kernel_rfl
/-- block g is a map in which just the elements of l are true -/
def SeenAt {p : Nat} (w : World) (g n : Nat) (l : List (Fin p)) : Prop :=
  ∃ D : DataW Unit, w.ownsMap Try.prog 3 (plainElem Try.prog 4) g n D ∧ ∀ z : Fin p, D.atKey (.int .i64 (fv z)) (.lit (.bool false)) = .lit (.bool (decide (z ∈ l)))
theorem SeenAt.made {p : Nat} (w : World) : SeenAt (p := p) (w.alloc (.map #[] 0)) w.heap.size 0 [] := ⟨_, World.ownsMap_made w _ _ _, fun z => by simp [DataW.atKey]⟩
theorem plain_bool_inv {P : Program} {e : TypeId} (he : P.underlying e = some .bool) {v : Value} {z : DataW Unit × List MemPlace} (h : plainElem P e v = some z) : ∃ b, v = .bool b ∧ z.1 = .lit (.bool b) := by
  unfold plainElem at h
  rw [he] at h
  cases v <;> simp at h
  subst h
  exact ⟨_, rfl, rfl⟩
theorem look_bool {P : Program} {k e t : TypeId} {w : World} {g n : Nat} {D : DataW Unit} (h : w.ownsMap P k (plainElem P e) g n D) (K : Go.Maps.Keyed P k) (ht : P.underlying t = some (.map k e)) (he : P.underlying e = some .bool) (hz : (zeroValue e).run P w = .ok (.bool false) w)
    {key : Value} {kl : Lit} (hkey : keyOf P k key = some kl) {b : Bool} (hb : D.atKey kl (.lit (.bool false)) = .lit (.bool b)) : (Instr.lookup t (.map (some g)) key false).run P w = .ok (.bool b) w := by
  obtain ⟨v, ps, hrun, hv⟩ := h.lookup K ht hz (plainElem_bool he false) hkey
  obtain ⟨c, rfl, hc⟩ := plain_bool_inv he hv
  rw [hb] at hc
  injection hc with hc
  injection hc with hc
  rw [hrun, hc]
theorem wf_fv {p : Nat} (z : Fin p) (hp2 : p ≤ 2147483647) : (Lit.int .i64 (fv z)).wf = true := by
  have h := i64_fv z hp2
  simp [Lit.wf, IntKind.min, IntKind.max, IntKind.signed, IntKind.bits]
  exact ⟨h.1, h.2⟩
theorem SeenAt.look {p : Nat} (hp2 : p ≤ 2147483647) {w : World} {g n : Nat} {l : List (Fin p)} (h : SeenAt w g n l) (z : Fin p) :
    (Instr.lookup 90 (.map (some g)) (vi (fv z)) false).run Try.prog w = .ok (.bool (decide (z ∈ l))) w := by
  obtain ⟨D, h1, h2⟩ := h
  exact look_bool h1 keyed_int Try.underlying90 Try.underlying4 (zero_bool w) (Go.Maps.keyOf_int_mk Try.underlying3 (wf_fv z hp2)) (h2 z)
theorem SeenAt.put {p : Nat} {w : World} {g n : Nat} {l : List (Fin p)} {D : DataW Unit} (h1 : w.ownsMap Try.prog 3 (plainElem Try.prog 4) g n D) (h2 : ∀ z : Fin p, D.atKey (.int .i64 (fv z)) (.lit (.bool false)) = .lit (.bool (decide (z ∈ l)))) (z : Fin p) :
    ∀ y : Fin p, (D.put (.int .i64 (fv z)) (.lit (.bool true))).atKey (.int .i64 (fv y)) (.lit (.bool false)) = .lit (.bool (decide (y ∈ l ++ [z]))) := fun y => by
  by_cases he : y = z
  · subst he
    rw [Go.Maps.atKey_put_same h1.isMap (by trivial)]; simp
  · rw [Go.Maps.atKey_put_other (fun e => he (by injection e with _ e; exact (fv_inj e))), h2]
    simp [he]

theorem pfit_len (b : Nat) (A B : Option Addr) (na ca nb cb : Nat) (hne : ¬ na = nb) (hna : na < 9223372036854775808) (hnb : nb < 9223372036854775808) (w : World) :
    Calls Try.prog 54 #[.pointer (some ⟨b, 0, none⟩), .slice A na ca, .slice B nb cb] w fun e w' => e = .returned (.tuple #[.slice none 0 0, .iface 72 (.int .i64 2)]) ∧ w = w' := by
  have t1 : ((na : Int) != (nb : Int)) = true := by rw [bne_iff_ne]; omega
  clear hne
  go_enter Try.func54, Try.ntmps54
  go_wp2
  go_ret2
  exact ⟨rfl, rfl⟩

def SeenRel {p : Nat} (l : List (Fin p)) (na g : Nat) (w : World) (i : Value) (wr : World) : Prop := ∃ k : Nat, k ≤ na ∧ i = vi k ∧ SeenAt wr g k (l.take k) ∧ (l.take k).Nodup ∧ Below w.heap.size w wr
theorem nodup_snoc {p : Nat} {l : List (Fin p)} {z : Fin p} (h : l.Nodup) (hz : ¬ z ∈ l) : (l ++ [z]).Nodup := by
  rw [List.nodup_append]
  refine ⟨h, by simp, fun a ha b hb => ?_⟩
  rw [List.mem_singleton] at hb
  subst hb
  rintro rfl
  exact hz ha

set_option maxRecDepth 100000 in
set_option maxHeartbeats 4000000 in
theorem pfit_same (p : Nat) [NeZero p] (hp2 : p ≤ 2147483647) (b : Nat) (A B : Option Addr) (na ca cb : Nat) (xs : List Int) (hna : xs.length = na) (hxs : ∀ n ∈ xs, I64 n) (hr : na * 8 ≤ 140737488351232) (hnd : ¬ (els p xs).Nodup) (w : World) (hc : w.cell? ⟨b, 0, none⟩ = some (vi p)) (hsx : SL w A xs) :
    Calls Try.prog 54 #[.pointer (some ⟨b, 0, none⟩), .slice A na ca, .slice B na cb] w fun e w' => e = .returned (.tuple #[.slice none 0 0, .iface 72 (.int .i64 4)]) ∧ Below w.heap.size w w' := by
  have hbl : b < w.heap.size := block_lt_of_cell hc
  obtain ⟨l, hl⟩ : ∃ l, l = els p xs := ⟨_, rfl⟩
  rw [← hl] at hnd
  have hll : l.length = na := by rw [hl]; simp [hna]
  have hco : ∀ k (hk : k < xs.length) (hk' : k < l.length), l[k] = el p xs[k] := fun k hk hk' => by simp [hl]
  have HLL := Lib.hid hll
  have HCO := Lib.hid hco
  have HNA := Lib.hid hna
  have HND := Lib.hid hnd
  have hs0 := SeenAt.made (p := p) w
  have hmm := @run_makeMap Try.prog
  clear hl hll hna hco hnd
  go_enter Try.func54, Try.ntmps54
  go_wp2
  go_loopw [30] (fun i wr => SeenRel l na w.heap.size w i wr) (fun i _ => na - (intOf i).toNat)
  case atStart => exact ⟨0, Nat.zero_le _, rfl, hs0, by simp, (Below.refl _ _).alloc (Nat.le_refl _) _⟩
  case round =>
    obtain ⟨k, hk, rfl, hsn, hnd, hb⟩ := hrel
    by_cases hkn : k < na
    · have hkl : k < l.length := by rw [HLL.out]; exact hkn
      have hkx : k < xs.length := by rw [HNA.out]; exact hkn
      obtain ⟨ad, rfl, hab, hcell⟩ := (hsx.below hb).at_ hkx
      have hI := hxs _ (List.getElem_mem hkx)
      have hcr : wr.cell? ⟨b, 0, none⟩ = some (vi p) := (hb.cell (p := ⟨b, 0, none⟩) hbl).trans hc
      have hst : l.take (k + 1) = l.take k ++ [el p xs[k]] := by rw [List.take_succ_eq_append_getElem hkl, HCO.out k hkx hkl]
      have hof := fun W hcW => of_el p hp2 b xs[k] hI W hcW
      generalize xs[k] = x at hcell hI hst hof
      generalize el p x = z at hst hof
      have HOF := Lib.hid hof
      have HST := Lib.hid hst
      have HNDK := Lib.hid hnd
      clear hof hst hnd
      have i1 : (0 : Int) ≤ (k : Int) := by omega
      have i2 : (k : Int) < na := by omega
      by_cases hz : z ∈ l.take k
      · have hlk := hsn.look hp2 z
        rw [decide_eq_true hz] at hlk
        clear hz
        go_wp2_with fail
        refine (HOF.out _ hcr).mono ?_
        rintro e w' ⟨rfl, rfl⟩
        go_wp2
        go_ret2
        exact ⟨rfl, hb⟩
      · have hlk := hsn.look hp2 z
        rw [decide_eq_false hz] at hlk
        have HZ := Lib.hid hz
        obtain ⟨D, hD1, hD2⟩ := hsn
        have HPUT := Lib.hid (SeenAt.put hD1 hD2 z)
        clear hz hD2
        go_wp2_with fail
        refine (HOF.out _ hcr).mono ?_
        rintro e w' ⟨rfl, rfl⟩
        go_wp2_with fail
        refine (HOF.out _ hcr).mono ?_
        rintro e w' ⟨rfl, rfl⟩
        go_wp2_with (at_mapUpdate; refine wpList_mapUpdate_own _ rfl _ _ _ 90 rfl 3 4 keyed_int Try.underlying90 _ w.heap.size k _ rfl hD1 (by simp only [maxLen]; omega) _ _ _ rfl rfl (Go.Maps.keyOf_int_mk Try.underlying3 (wf_fv z hp2)) _ [] (plainElem_bool Try.underlying4 true) ?_; intro w1 hD3 hg1)
        have hs2 : SeenAt w1 w.heap.size (k + 1) (l.take (k + 1)) := by rw [HST.out]; exact ⟨_, hD3, HPUT.out⟩
        have hb2 : Below w.heap.size w w1 := hb.grown hg1 hb.size (fun j hj => by injection hj with hj; omega)
        go_roundw
        case rel => exact ⟨k + 1, by omega, by go_num, hs2, by rw [HST.out]; exact nodup_snoc HNDK.out HZ.out, hb2⟩
        case measure => simp [intOf]; omega
    · obtain rfl : k = na := by omega
      rw [List.take_of_length_le (by rw [HLL.out]; exact Nat.le_refl _)] at hnd
      exact absurd hnd HND.out
end Go.Proofs.Ytabhndfdioimcaa

/- slices.Backward at []int as an iterator; the walk of poly.Eval. After the guide's own text on slices.All. -/
set_option linter.unusedVariables false
namespace Go.Proofs.Ytabhndfdioimcaa
open Go.RowKit Go.Shelf Zp
attribute [local go_sem] Oper.semAt_some

abbrev Int64' := { n : Int // I64 n }
/-- what has come when k rounds are over -/
def upto {α : Type} (f : Nat → α) (k : Nat) : List α := (List.range k).map f
theorem upto_succ {α : Type} (f : Nat → α) (k : Nat) : upto f (k + 1) = upto f k ++ [f k] := by simp [upto, List.range_succ]
theorem upto_length {α : Type} (f : Nat → α) (k : Nat) : (upto f k).length = k := by simp [upto]

/-- the pairs that come, from the last place on -/
def backF (zs : List Int64') (j : Nat) : Nat × Int64' := (zs.length - 1 - j, zs[zs.length - 1 - j]?.getD ⟨0, by constructor <;> omega⟩)

/-- below block n₀ but for block g nothing turns -/
def KeepBut (n₀ g : Nat) (A B : World) : Prop := ∀ k, k < n₀ → k ≠ g → B.heap[k]? = A.heap[k]?
theorem KeepBut.refl (n₀ g : Nat) (A : World) : KeepBut n₀ g A A := fun _ _ _ => rfl
theorem KeepBut.trans {n₀ g : Nat} {A B C : World} (h : KeepBut n₀ g A B) (k : KeepBut n₀ g B C) : KeepBut n₀ g A C := fun j hj hn => (k j hj hn).trans (h j hj hn)
theorem KeepBut.cell {n₀ g : Nat} {A B : World} (h : KeepBut n₀ g A B) {p : Addr} (hp : p.block < n₀) (hg : p.block ≠ g) : B.cell? p = A.cell? p := World.cell?_of_block (h _ hp hg)
theorem KeepBut.reads {n₀ n₁ g size n : Nat} {A B : World} {a : Option Addr} {xs : List Value} (h : KeepBut n₀ g A B) (h0 : n₁ ≤ n₀) (hg : n₁ ≤ g) (hr : Reads A n₁ size a n xs) : Reads B n₁ size a n xs :=
  hr.keep fun p hp => h.cell (by omega) (by omega)
theorem KeepBut.setCell {n₀ g : Nat} {A B : World} (h : KeepBut n₀ g A B) {p : Addr} (hp : p.block = g) (u : Value) : KeepBut n₀ g A (B.setCell p u) :=
  fun k hk hn => (Below.heap_setCell B p u k (by omega)).trans (h k hk hn)
theorem KeepBut.drewN {n₀ g : Nat} {A B : World} (h : KeepBut n₀ g A B) (m : Nat) : KeepBut n₀ g A (B.drewN m) := h
theorem KeepBut.drew {n₀ g : Nat} {A B : World} (h : KeepBut n₀ g A B) : KeepBut n₀ g A B.drew := h
theorem KeepBut.put {n₀ g B : Nat} (hB : n₀ ≤ B) (W : World) (l : Nat) (o o' : Obj) (hl : B ≤ l) (_ : W.heap[l]? = some o) (_ : o.isCells = false) (_ : o.isWalk = false) : KeepBut n₀ g W (W.putObj l o') :=
  fun k hk hn => by
    have h : k ≠ l := by omega
    simp [World.putObj, Ne.symm h]

set_option maxRecDepth 100000 in
set_option maxHeartbeats 2000000 in
theorem backward1_in (F : Fence) (n : Nat) (hf : F.fn 79) (hro : F.round = none) (hn : 1 ≤ n) (l Bs n₀ n₁ g : Nat) (hn1 : n₁ ≤ n₀) (hg : n₁ ≤ g) (hBg : Bs ≠ g) (A : Option Addr) (cap : Nat) (zs : List Int64') (hreach : zs.length * 8 ≤ 140737488351232)
    (J Jx : List (Nat × Int64') → World → Prop)
    (hY : ∀ pre x W, J pre W → pre.length < zs.length → YieldAt F (n - 1) Try.prog l #[.int .i64 (x.1 : Int), .int .i64 x.2.1] W fun e W' =>
      (e = .returned (.bool true) ∧ J (pre ++ [x]) W' ∧ KeepBut n₀ g W W') ∨ (e = .returned (.bool false) ∧ Jx (pre ++ [x]) W'))
    (W : World) (hBs : W.cell? ⟨Bs, 0, none⟩ = some (.slice A zs.length cap)) (hBl : Bs < n₀) (hc : Reads W n₁ 1 A zs.length ((zs.map Subtype.val).map vi)) (h0 : J [] W) :
    CallsIn F n Try.prog 79 #[.func (.yield l) #[] #[], .pointer (some ⟨Bs, 0, none⟩)] W fun e W' => (∃ v, e = .returned v) ∧
      ((∃ ys, ys = upto (backF zs) zs.length ∧ J ys W') ∨ (∃ pre, (∃ k, k ≤ zs.length ∧ pre = upto (backF zs) k) ∧ Jx pre W')) := by
  refine callsIn_of_wp Try.func79 rfl hf ?_ hro
  simp only [Try.ntmps79, List.size_toArray, List.length_cons, List.length_nil, Nat.reduceAdd, Nat.reduceSub, Array.replicate_succ, Array.replicate_zero, List.push_toArray, List.append_toArray, List.nil_append, List.cons_append]
  obtain ⟨len, hlen⟩ : ∃ len, len = zs.length := ⟨_, rfl⟩
  rw [← hlen] at hreach hBs ⊢
  have HL := Lib.hid hlen
  clear hlen
  gi_wp2
  gi_loopw [3] (fun i wr => ∃ k : Nat, k ≤ len ∧ i = .int .i64 ((len : Int) - 1 - k) ∧ J (upto (backF zs) k) wr ∧ KeepBut n₀ g W wr)
    (fun i _ => (intOf i + 1).toNat)
  case atStart => exact ⟨0, Nat.zero_le _, by go_num, h0, KeepBut.refl _ _ _⟩
  case round =>
    obtain ⟨k, hk, rfl, hJs, hnx⟩ := hrel
    have hBs' : wr.cell? ⟨Bs, 0, none⟩ = some (.slice A len cap) := (hnx.cell (p := ⟨Bs, 0, none⟩) hBl hBg).trans hBs
    by_cases hlt : k < len
    · obtain ⟨fn, tmps, assign, body, hy, hR⟩ := hY _ (backF zs k) wr hJs (by rw [upto_length, ← HL.out]; exact hlt)
      have hkl : len - 1 - k < zs.length := by rw [← HL.out]; omega
      obtain ⟨ad, u, rfl, hab, hx, hcell⟩ := Reads.at_ (k := len - 1 - k) (hnx.reads hn1 hg hc) hkl
      rw [List.getElem?_map, List.getElem?_map, List.getElem?_eq_getElem hkl] at hx
      have hxe : backF zs k = (len - 1 - k, zs[len - 1 - k]) := by
        simp only [backF]
        rw [← HL.out, List.getElem?_eq_getElem hkl]; rfl
      rw [hxe] at hy hR
      have hu : u = vi (zs[len - 1 - k]).1 := by simpa using hx.symm
      rw [hu] at hcell
      have i1 : 0 ≤ (len : Int) - 1 - k := by omega
      have i2 : ((len : Int) - 1 - k).toNat = len - 1 - k := by omega
      have i3 : (((len - 1 - k : Nat)) : Int) = (len : Int) - 1 - k := by omega
      dsimp only at hy hR
      rw [i3] at hy
      have I2 := Lib.hid i2
      have HXE := Lib.hid hxe
      clear i2 i3 hxe hx hu
      gi_wp2
      refine hR.mono ?_
      rintro e W3 (⟨rfl, hJ3, hk3⟩ | ⟨rfl, hJx3⟩)
      · gi_wp2
        go_roundw
        case rel => exact ⟨k + 1, by omega, by go_num, by rw [upto_succ, HXE.out]; exact hJ3, hnx.trans hk3⟩
        case measure => simp [intOf]; omega
      · gi_wp2
        refine bodyPost_ret (results_none rfl _ _ _) rfl ?_
        exact ⟨⟨_, rfl⟩, .inr ⟨_, ⟨k + 1, by omega, by rw [upto_succ, HXE.out]⟩, hJx3⟩⟩
    · obtain rfl : k = len := by omega
      gi_wp2
      go_end0
      exact ⟨⟨_, rfl⟩, .inl ⟨_, rfl, hJs⟩⟩

set_option maxHeartbeats 1000000 in
theorem backward_any (a : Option Addr) (len cap : Nat) (w : World) :
    Calls Try.prog 74 #[.slice a len cap] w fun e w' => e = .returned (.func (.func 79) #[] #[.pointer (some ⟨w.heap.size, 0, none⟩)]) ∧ w' = w.alloc (.cells #[.slice a len cap] 22) := by
  go_enter Try.func74, Try.ntmps74
  go_wp2
  go_ret
  exact ⟨rfl, rfl⟩

/-- slices.Backward(s) hands back what stops -/
theorem backward_stops (F : Fence) (n : Nat) (hf : F.fn 79) (hro : F.round = none) (hn : 1 ≤ n) (Bs n₀ n₁ g : Nat) (hn1 : n₁ ≤ n₀) (hg : n₁ ≤ g) (hBg : Bs ≠ g) (A : Option Addr) (cap : Nat) (zs : List Int64') (hreach : zs.length * 8 ≤ 140737488351232) (w : World) (hBs : Bs < w.heap.size) (hBl : Bs < n₀) (hn₀ : n₀ ≤ w.heap.size)
    (hc : w.cell? ⟨Bs, 0, none⟩ = some (.slice A zs.length cap)) (hI : Reads w n₁ 1 A zs.length ((zs.map Subtype.val).map vi)) :
    SeqStopsK F n Try.prog 79 #[.pointer (some ⟨Bs, 0, none⟩)] (fun x : Nat × Int64' => #[Value.int .i64 (x.1 : Int), Value.int .i64 x.2.1]) (KeepBut n₀ g) (fun ys => ys = upto (backF zs) zs.length)
      (fun pre => ∃ k, k ≤ zs.length ∧ pre = upto (backF zs) k) zs.length w := fun l J Jx W hW _ _ hY h0 => by
  have hc' := (hW.cell (p := ⟨Bs, 0, none⟩) hBs).trans hc
  exact backward1_in F n hf hro hn l Bs n₀ n₁ g hn1 hg hBg A cap zs hreach J Jx hY W hc' hBl (hI.below (hW.mono (Nat.le_trans hn1 hn₀))) h0

/-- what Eval's sum is when some have come: 'pre' the pairs from the last place on -/
def evPre {p : Nat} [NeZero p] (pre : List (Nat × Int64')) (x : Fin p) : Fin p := pre.foldl (fun s y => s * x + el p y.2.1) 0
theorem evPre_snoc {p : Nat} [NeZero p] (pre : List (Nat × Int64')) (y : Nat × Int64') (x : Fin p) : evPre (pre ++ [y]) x = evPre pre x * x + el p y.2.1 := by simp [evPre]
theorem evPre_upto {p : Nat} [NeZero p] (zs : List Int64') (x : Fin p) (k : Nat) (hk : k ≤ zs.length) :
    evPre (upto (backF zs) k) x = ev ((zs.map (fun y => el p y.1)).drop (zs.length - k)) x := by
  induction k with
  | zero => rw [Nat.sub_zero, List.drop_eq_nil_of_le (by simp)]; rfl
  | succ k ih =>
    have hi : zs.length - (k + 1) < zs.length := by omega
    rw [upto_succ, evPre_snoc, ih (by omega), List.drop_eq_getElem_cons (i := zs.length - (k + 1)) (by simpa using hi)]
    rw [show zs.length - (k + 1) + 1 = zs.length - k from by omega]
    simp only [ev, List.getElem_map]
    have hb : (backF zs k).2 = zs[zs.length - (k + 1)] := by
      simp only [backF]
      rw [show zs.length - 1 - k = zs.length - (k + 1) from by omega, List.getElem?_eq_getElem hi]; rfl
    rw [hb]
    grind

/-- ints as the iterator hands them on -/
theorem exists_subtype (xs : List Int) (h : ∀ x ∈ xs, I64 x) : ∃ zs : List Int64', zs.map Subtype.val = xs := by
  induction xs with
  | nil => exact ⟨[], rfl⟩
  | cons x xs ih =>
    obtain ⟨zs, hz⟩ := ih (fun y hy => h y (by simp [hy]))
    exact ⟨⟨x, h x (by simp)⟩ :: zs, by simp [hz]⟩

set_option maxRecDepth 100000 in
set_option maxHeartbeats 4000000 in
theorem eval_sub (p : Nat) [NeZero p] (S b : Nat) (A : Option Addr) (cap : Nat) (zs : List Int64') (hreach : zs.length * 8 ≤ 140737488351232) (x : Int) (hx : I64 x) (w : World) (F : Fld w S b p) (hs : SL w A (zs.map Subtype.val)) :
    Calls Try.prog 55 #[.pointer (some ⟨b, 0, none⟩), .slice A zs.length cap, vi x] w fun e w' => e = .returned (vi (fv (ev (zs.map (fun y => el p y.1)) (el p x)))) ∧ Below w.heap.size w w' := by
  refine (callsIn_wide (n := 3)).1 ?_
  have hro : (Fence.wide).round = none := rfl
  have h1 : 1 ≤ 3 := by omega
  have hp2 := F.max
  refine callsIn_of_wp_marks Try.func55 rfl trivial ?_ hro
  simp only [Try.ntmps55, List.size_toArray, List.length_cons, List.length_nil, Nat.reduceAdd, Nat.reduceSub, Array.replicate_succ, Array.replicate_zero, List.push_toArray, List.append_toArray, List.nil_append, List.cons_append]
  gi_wp2_with (refine ⟨trivial, ?_⟩; gi_at_call 74; refine (callsIn_wide.2 (backward_any _ _ _ _)).mono ?_; rintro e w' ⟨rfl, rfl⟩)
  obtain ⟨W0, hW0⟩ : ∃ W0 : World, W0 = (((w.alloc (.cells #[.pointer (some ⟨b, 0, none⟩)] 41)).alloc (.cells #[vi x] 3)).alloc (.cells #[.int .i64 0] 3)).alloc (.cells #[.slice A zs.length cap] 22) := ⟨_, rfl⟩
  have hsz : W0.heap.size = w.heap.size + 4 := by rw [hW0]; simp
  have hbel : Below w.heap.size w W0 := by rw [hW0]; exact ((((Below.refl _ w).alloc (Nat.le_refl _) _).alloc (by simp) _).alloc (by simp; omega) _).alloc (by simp; omega) _
  have bF : Blk W0 w.heap.size 41 #[.pointer (some ⟨b, 0, none⟩)] := by rw [hW0]; exact (((Blk.new _ _ _).alloc _).alloc _).alloc _
  have bX : Blk W0 (w.heap.size + 1) 3 #[vi x] := by
    rw [hW0]; have := Blk.new (w.alloc (.cells #[.pointer (some ⟨b, 0, none⟩)] 41)) 3 #[vi x]
    rw [World.size_alloc] at this; exact (this.alloc _).alloc _
  have bS : Blk W0 (w.heap.size + 1 + 1) 3 #[.int .i64 0] := by
    rw [hW0]; have := Blk.new ((w.alloc (.cells #[.pointer (some ⟨b, 0, none⟩)] 41)).alloc (.cells #[vi x] 3)) 3 #[.int .i64 0]
    rw [World.size_alloc, World.size_alloc] at this; exact this.alloc _
  have bL : Blk W0 (w.heap.size + 1 + 1 + 1) 22 #[.slice A zs.length cap] := by
    rw [hW0]; have := Blk.new (((w.alloc (.cells #[.pointer (some ⟨b, 0, none⟩)] 41)).alloc (.cells #[vi x] 3)).alloc (.cells #[.int .i64 0] 3)) 22 #[.slice A zs.length cap]
    rw [World.size_alloc, World.size_alloc, World.size_alloc] at this; exact this
  rw [← hW0]
  clear hW0
  have hs' : Reads W0 w.heap.size 1 A zs.length ((zs.map Subtype.val).map vi) := by
    have := Reads.below hs hbel
    rwa [List.length_map] at this
  refine wpIn_rangeFunc_ownG hro h1 (gf := 79) (lb := #[.pointer (some ⟨w.heap.size + 1 + 1 + 1, 0, none⟩)]) rfl trivial (enters_of Try.func79 (by kernel_rfl) rfl)
    (backward_stops Fence.wide (3 - 1) trivial hro (by omega) (w.heap.size + 1 + 1 + 1) (w.heap.size + 4) w.heap.size (w.heap.size + 1 + 1) (by omega) (by omega) (by omega) A cap zs hreach W0 (by omega) (by omega) (by omega) (by rw [bL.cell]; rfl) hs')
    KeepBut.trans (KeepBut.put (by omega)) (Below.refl _ _) (fun _ => rfl)
    (fun pre W => (W.cell? ⟨w.heap.size + 1 + 1, 0, none⟩ = some (vi (fv (evPre pre (el p x)))) ∧ W.frozen? ⟨w.heap.size + 1 + 1, 0, none⟩ = false ∧ W.cell? ⟨w.heap.size, 0, none⟩ = some (.pointer (some ⟨b, 0, none⟩)) ∧ W.cell? ⟨w.heap.size + 1, 0, none⟩ = some (vi x)) ∧ Below w.heap.size w W)
    (fun _ _ _ => False)
    (OwnFrom.and (Own.from (fun s A B row hs hg hr => ⟨cell_kept hs.1 hg hr, (frozen_kept hs.1 hg hr).trans hs.2.1, cell_kept hs.2.2.1 hg hr, cell_kept hs.2.2.2 hg hr⟩) _) (ownFrom_below (Nat.le_refl _) (by omega)))
    (fun _ _ _ _ _ hs _ _ => hs)
    ⟨⟨by rw [bS.cell]; rfl, bS.frozen 0, by rw [bF.cell]; rfl, by rw [bX.cell]; rfl⟩, hbel⟩
    (fun y => { tmps := #[.pointer (some ⟨b, 0, none⟩), .slice A zs.length cap, vi x, .pointer (some ⟨w.heap.size, 0, none⟩), undef, .pointer (some ⟨w.heap.size + 1, 0, none⟩), .int .i64 0, .pointer (some ⟨w.heap.size + 1 + 1, 0, none⟩), undef, vi y.2.1, .slice A zs.length cap, .func (.func 79) #[] #[.pointer (some ⟨w.heap.size + 1 + 1 + 1, 0, none⟩)], vi y.1, vi y.2.1, undef, undef, undef, undef, undef, undef, undef, undef], defers := [] }) ?assign ?body ?done ?stop
  case assign =>
    intro l y W K hK
    gi_wp2
    exact hK
  case body =>
    rintro l pre y W ⟨⟨hc, hf, hcf, hcx⟩, hB⟩ _
    have hy := y.2.2
    have hc0 : W.cell? ⟨b, 0, none⟩ = some (vi p) := (hB.cell (p := ⟨b, 0, none⟩) (Nat.lt_of_lt_of_le F.lt F.le)).trans F.c0
    have i1 := i64_fv (evPre pre (el p x)) hp2
    have i2 := i64_fv (el p (fv (evPre pre (el p x))) * el p x) hp2
    have h1' : 1 ≤ 3 - 1 - 1 := by omega
    have hmx : Try.prog.follows .mixedOrders = true := by kernel_rfl
    gi_wp2
    refine wpIn_region_quiet_tail 7 hmx (by kernel_rfl) (by rintro ⟨_, _, h⟩; exact h) (by kernel_rfl) ?_
    simp only [List.take_succ_cons, List.take_zero, List.drop_succ_cons, List.drop_zero]
    repeat (quiet_step (first
      | (go_at_call 56; exact Calls.quiet_of (mul_any p hp2 b _ _ i1 hx _ (by exact hc0)))
      | (go_at_call 53; exact Calls.quiet_of (add_any p hp2 b _ _ i2 hy _ (by exact hc0)))))
    refine wpQuiet_nil ?_
    intro _ hw'
    obtain ⟨nq, hw''⟩ := hw'
    subst hw''
    go_wp2
    have hk1 : KeepsOthers W (W.drewN nq) := ⟨Nat.le_refl _, fun _ _ h _ => h⟩
    refine ⟨(hk1.trans (KeepsOthers.setCell _ _ _)).from _, ((KeepBut.refl _ (w.heap.size + 1 + 1) W).drewN nq).setCell (p := ⟨w.heap.size + 1 + 1, 0, none⟩) rfl _, ⟨?_, ?_, ?_, ?_⟩, (below_drewN hB nq).setCell (by simp; omega) _⟩
    · rw [evPre_snoc, el_fv, el_fv]
      exact World.cell?_setCell_same' _ _ _ (by rw [show (W.drewN nq).cell? ⟨w.heap.size + 1 + 1, 0, none⟩ = W.cell? ⟨w.heap.size + 1 + 1, 0, none⟩ from rfl, hc]; rfl)
    · rw [World.frozen?_setCell]; exact hf
    · rw [World.cell?_setCell_other _ _ _ _ (by simp)]; exact hcf
    · rw [World.cell?_setCell_other _ _ _ _ (by simp)]; exact hcx
  case done =>
    rintro D ys W hD rfl ⟨⟨hc, _⟩, hB⟩ hK
    gi_wp2
    refine ⟨by simp, .inl ⟨_, _, rfl, run_takeDeferred hK, ?_⟩⟩
    have he : evPre (upto (backF zs) zs.length) (el p x) = ev (zs.map (fun y => el p y.1)) (el p x) := by rw [evPre_upto zs _ _ (Nat.le_refl _), Nat.sub_self, List.drop_zero]
    rw [he]
    exact ⟨_, results_tmp rfl _ _ _, rfl, hB.trans (belowK_b (w := w) (Nat.le_refl _) W D _ _ (by omega) hK rfl rfl)⟩
  case stop =>
    rintro D c pre W _ _ h _
    exact h.elim

/-- poly.Eval: what a polynomial is at a point -/
theorem eval_any (p : Nat) [NeZero p] (S b : Nat) (A : Option Addr) (cap : Nat) (xs : List Int) (hxs : ∀ n ∈ xs, I64 n) (hreach : xs.length * 8 ≤ 140737488351232) (x : Int) (hx : I64 x) (w : World) (F : Fld w S b p) (hs : SL w A xs) :
    Calls Try.prog 55 #[.pointer (some ⟨b, 0, none⟩), .slice A xs.length cap, vi x] w fun e w' => e = .returned (vi (fv (ev (xs.map (el p)) (el p x)))) ∧ Below w.heap.size w w' := by
  obtain ⟨zs, rfl⟩ := exists_subtype xs hxs
  rw [List.length_map] at hreach ⊢
  have h := eval_sub p S b A cap zs hreach x hx w F hs
  rw [List.map_map]
  exact h
end Go.Proofs.Ytabhndfdioimcaa

/- The walk of poly.Fit: unlike points. -/
set_option linter.unusedVariables false
namespace Go.Proofs.Ytabhndfdioimcaa
open Go.RowKit Zp

/-- a list that meets the points is handed back, and no error -/
def MadeFitP {p : Nat} [NeZero p] (xs ys : List (Fin p)) (w : World) (e : Ending) (w' : World) : Prop :=
  ∃ (o : List (Fin p)) (v : Value), Fitted xs ys xs.length o ∧ e = .returned (.tuple #[v, .nilIface]) ∧ Own w' w.heap.size v (fvs o) ∧ Below w.heap.size w w'
theorem drop_end {p : Nat} [NeZero p] (V : List (Fin p)) (x : Fin p) (i : Nat) (h : V.length ≤ i) : ev (V.drop i) x = 0 := by rw [List.drop_eq_nil_of_le h]; rfl
theorem eval_nP (p : Nat) [NeZero p] (S b : Nat) (A : Option Addr) (n cap : Nat) (xs : List Int) (hml : xs.length = n) (hxs : ∀ n ∈ xs, I64 n) (hreach : n * 8 ≤ 140737488351232) (x : Int) (hx : I64 x) (w : World) (F : Fld w S b p) (hs : SL w A xs) :
    Calls Try.prog 55 #[.pointer (some ⟨b, 0, none⟩), .slice A n cap, vi x] w fun e w' => SaysW (vi (fv (ev (els p xs) (el p x)))) w e w' := by
  subst hml
  exact eval_any p S b A cap xs hxs hreach x hx w F hs

def PartRel {p : Nat} [NeZero p] (V : List (Fin p)) (X : Fin p) (na base gp : Nat) (W0 : World) (r t : Value) (wr : World) : Prop :=
  ∃ (j : Nat) (P : List (Fin p)), j ≤ na ∧ t = vi j ∧ r = vi (fv (ev (V.drop (j + 1)) X)) ∧ OwnC wr base gp na na P ∧ (∀ i, j ≤ i → co P i = ev (V.drop (i + 1)) X) ∧ Below W0.heap.size W0 wr
def SumRel {p : Nat} [NeZero p] (P S : List (Fin p)) (c : Fin p) (na base gs gp : Nat) (w2 : World) (t : Value) (wr : World) : Prop :=
  ∃ (j : Nat) (M : List (Fin p)), j ≤ na ∧ t = vi j ∧ OwnC wr base gs na na M ∧ OwnC wr base gp na na P ∧ FitIn P c j S M ∧ Below w2.heap.size w2 wr
set_option maxRecDepth 100000 in
set_option maxHeartbeats 8000000 in
theorem pfit_any (p S b : Nat) [NeZero p] (A B : Option Addr) (na ca cb : Nat) (xs ys : List Int) (hna : xs.length = na) (hnb : ys.length = na) (hxs : ∀ n ∈ xs, I64 n) (hys : ∀ n ∈ ys, I64 n) (hr : na * 8 ≤ 140737488351232) (hnd : (els p xs).Nodup) (w : World) (F : Fld w S b p) (hsx : SL w A xs) (hsy : SL w B ys) :
    Calls Try.prog 54 #[.pointer (some ⟨b, 0, none⟩), .slice A na ca, .slice B na cb] w fun e w' => MadeFitP (els p xs) (els p ys) w e w' := by
  have hp := F.prime
  have hp1 := F.two
  have hp2 := F.max
  have hc := F.c0
  have hbl : b < w.heap.size := block_lt_of_cell hc
  obtain ⟨l, hl⟩ : ∃ l, l = els p xs := ⟨_, rfl⟩
  obtain ⟨m, hm⟩ : ∃ m, m = els p ys := ⟨_, rfl⟩
  have hvan := fun W hcW hsW => pvan_any p hp hp1 hp2 b A na ca xs hna hxs hr W hcW hsW
  rw [← hl] at hnd hvan ⊢
  rw [← hm]
  have hll : l.length = na := by rw [hl]; simp [hna]
  have hlm : m.length = na := by rw [hm]; simp [hnb]
  have hco : ∀ k (hk : k < xs.length) (hk' : k < l.length), l[k] = el p xs[k] := fun k hk hk' => by simp [hl]
  have hcm : ∀ k (hk : k < ys.length), co m k = el p ys[k] := fun k hk => by rw [hm, co_of_lt (by simpa using hk)]; simp
  have HLL := Lib.hid hll
  have HLM := Lib.hid hlm
  have HCO := Lib.hid hco
  have HCM := Lib.hid hcm
  have HNA := Lib.hid hna
  have HNB := Lib.hid hnb
  have HND := Lib.hid hnd
  have HP := Lib.hid hp
  have HVAN := Lib.hid hvan
  have hs0 := SeenAt.made (p := p) w
  have hmm := @run_makeMap Try.prog
  have t0 : ((na : Int) != (na : Int)) = false := by simp
  clear hl hm hll hlm hna hnb hco hcm hnd hp hvan
  go_enter Try.func54, Try.ntmps54
  go_wp2
  go_loopw [30] (fun i wr => SeenRel l na w.heap.size w i wr) (fun i _ => na - (intOf i).toNat)
  case atStart => exact ⟨0, Nat.zero_le _, rfl, hs0, by simp, (Below.refl _ _).alloc (Nat.le_refl _) _⟩
  case round =>
    obtain ⟨k, hk, rfl, hsn, hnd, hb⟩ := hrel
    have hcr : wr.cell? ⟨b, 0, none⟩ = some (vi p) := (hb.cell (p := ⟨b, 0, none⟩) hbl).trans hc
    by_cases hkn : k < na
    · have hkl : k < l.length := by rw [HLL.out]; exact hkn
      have hkx : k < xs.length := by rw [HNA.out]; exact hkn
      obtain ⟨ad, rfl, hab, hcell⟩ := (hsx.below hb).at_ hkx
      have hI := hxs _ (List.getElem_mem hkx)
      have hst : l.take (k + 1) = l.take k ++ [el p xs[k]] := by rw [List.take_succ_eq_append_getElem hkl, HCO.out k hkx hkl]
      have hof := fun W hcW => of_el p hp2 b xs[k] hI W hcW
      generalize xs[k] = x at hcell hI hst hof
      generalize el p x = z at hst hof
      have hz : ¬ z ∈ l.take k := fun h => by
        have h1 : (l.take (k + 1)).Nodup := HND.out.sublist (List.take_sublist _ _)
        rw [hst, List.nodup_append] at h1
        exact h1.2.2 z h z (by simp) rfl
      have hlk := hsn.look hp2 z
      rw [decide_eq_false hz] at hlk
      obtain ⟨D, hD1, hD2⟩ := hsn
      have HPUT := Lib.hid (SeenAt.put hD1 hD2 z)
      have hnd2 := nodup_snoc hnd hz
      rw [← hst] at hnd2
      have HOF := Lib.hid hof
      have HST := Lib.hid hst
      have HND2 := Lib.hid hnd2
      have i1 : (0 : Int) ≤ (k : Int) := by omega
      have i2 : (k : Int) < na := by omega
      clear hof hst hnd hz hD2 hnd2
      go_wp2_with fail
      refine (HOF.out _ hcr).mono ?_
      rintro e w' ⟨rfl, rfl⟩
      go_wp2_with fail
      refine (HOF.out _ hcr).mono ?_
      rintro e w' ⟨rfl, rfl⟩
      go_wp2_with (at_mapUpdate; refine wpList_mapUpdate_own _ rfl _ _ _ 90 rfl 3 4 keyed_int Try.underlying90 _ w.heap.size k _ rfl hD1 (by simp only [maxLen]; omega) _ _ _ rfl rfl (Go.Maps.keyOf_int_mk Try.underlying3 (wf_fv z hp2)) _ [] (plainElem_bool Try.underlying4 true) ?_; intro w1 hD3 hg1)
      have hs2 : SeenAt w1 w.heap.size (k + 1) (l.take (k + 1)) := by rw [HST.out]; exact ⟨_, hD3, HPUT.out⟩
      have hb2 : Below w.heap.size w w1 := hb.grown hg1 hb.size (fun j hj => by injection hj with hj; omega)
      go_roundw
      case rel => exact ⟨k + 1, by omega, by go_num, hs2, HND2.out, hb2⟩
      case measure => simp [intOf]; omega
    · have ek : na = k := by omega
      subst ek
      clear hsn hnd hkn hk hs0
      have hsx1 := hsx.below hb
      have hsy1 := hsy.below hb
      have F1 := F.below hb F.le
      have hV := monic_van HP.out l
      have hpart := fun P i hi => PartOk.van (P := P) (i := i) HP.out (l := l) hi
      have hvl := HVAN.out _ hcr hsx1
      have hstep := fun (k : Nat) (S M P : List (Fin p)) (c : Fin p) (h : FitSum l m k S) (hk : k < l.length) (hP : PartOk (vanL l) (co l k) P) (hPl : P.length = l.length) (hc : c = co m k * Zp.inv (ev P (co l k))) (hm : FitIn P c P.length S M) => FitSum.step HP.out HND.out h hk hP hPl hc hm
      generalize vanL l = V at hV hvl hstep
      rw [HLL.out] at hV
      have HV := Lib.hid hV
      have HVL := Lib.hid hvl
      have HSTEP := Lib.hid hstep
      have hmk := make_ints na na (Nat.le_refl _) (by omega)
      clear hV hpart hvl hstep
      go_wp2_with fail
      refine (HVL.out).mono ?_
      rintro e w2 ⟨v2, rfl, hownV, hb2⟩
      have hlV : (fvs V).length = na + 1 := by rw [List.length_map]; exact HV.out.len
      obtain ⟨gV, cV, rfl, hgV, hgV'⟩ := hownV.block (by omega)
      obtain ⟨nv, hnv⟩ : ∃ nv, nv = na + 1 := ⟨_, rfl⟩
      rw [← hnv] at hlV
      rw [hlV] at hownV ⊢
      have hownVC : OwnC w2 wr.heap.size gV nv cV V := ⟨by rw [HV.out.len, hnv], hownV⟩
      have hbw2 := hb.trans (hb2.mono hb.size)
      have hsx2 := hsx1.below hb2
      have hsy2 := hsy1.below hb2
      have F2 := F1.below hb2 F1.le
      have hOE := OwnC.made (p := p) w2 w.heap.size na hbw2.size (by omega)
      have hba : Below w2.heap.size w2 (w2.alloc (.cells (zeros na) 3)) := (Below.refl _ _).alloc (Nat.le_refl _) _
      have HFS := Lib.hid (FitSum.start l m na HLL.out.symm)
      have HNV := Lib.hid hnv
      have HLV := Lib.hid hlV
      clear hownV hnv hlV F1 hsx1 hsy1 hcr hb2
      go_wp2
      go_loopw [53] (fun i wr => ∃ (k : Nat) (S' : List (Fin p)), k ≤ na ∧ i = vi k ∧ OwnC wr w.heap.size w2.heap.size na na S' ∧ FitSum l m k S' ∧ Below w2.heap.size w2 wr) (fun i _ => na - (intOf i).toNat)
      case atStart => exact ⟨0, _, Nat.zero_le _, rfl, hOE, HFS.out, hba⟩
      case round =>
        obtain ⟨k, S', hk, rfl, hoS, hfs, hbr⟩ := hrel
        obtain ⟨W0, hW0⟩ : ∃ W0 : World, W0 = wr := ⟨_, rfl⟩
        subst hW0
        have F0 := F2.below hbr F2.le
        have hc0 := F0.c0
        have hbl0 : b < W0.heap.size := block_lt_of_cell hc0
        have HFSK := Lib.hid hfs
        clear hfs
        by_cases hkn : k < na
        · have hkl : k < l.length := by rw [HLL.out]; exact hkn
          have hkx : k < xs.length := by rw [HNA.out]; exact hkn
          have hky : k < ys.length := by rw [HNB.out]; exact hkn
          obtain ⟨ad, rfl, hab, hcx⟩ := (hsx2.below hbr).at_ hkx
          obtain ⟨ad2, rfl, hab2, hcy⟩ := (hsy2.below hbr).at_ hky
          have hIx := hxs _ (List.getElem_mem hkx)
          have hIy := hys _ (List.getElem_mem hky)
          have hlx : co l k = el p xs[k] := by rw [co_of_lt hkl, HCO.out k hkx hkl]
          have hmy := HCM.out k hky
          generalize xs[k] = x at hcx hIx hlx
          generalize ys[k] = y at hcy hIy hmy
          obtain ⟨X, hX⟩ : ∃ X, X = el p x := ⟨_, rfl⟩
          have HXE := Lib.hid hX
          have HLX := Lib.hid (hlx.trans hX.symm)
          have HMY := Lib.hid hmy
          have hoV := hownVC.below hbr
          have hOP := OwnC.made (p := p) W0 w.heap.size na (Nat.le_trans hbw2.size hbr.size) (by omega)
          have hba0 : Below W0.heap.size W0 (W0.alloc (.cells (zeros na) 3)) := (Below.refl _ _).alloc (Nat.le_refl _) _
          have HP0 : Hid (∀ i, na ≤ i → co (List.replicate na (0 : Fin p)) i = ev (V.drop (i + 1)) X) := Lib.hid fun i hi => by rw [co_replicate, drop_end V X _ (by rw [HV.out.len]; omega)]
          have HR0 : Hid (vi 0 = vi (fv (ev (V.drop (na + 1)) X))) := Lib.hid (by rw [drop_end V X _ (by rw [HV.out.len]; omega), fv_zero])
          clear hlx hmy hX
          go_wp2
          go_loopw [16, 17] (fun r t wr => PartRel V X na w.heap.size W0.heap.size W0 r t wr) (fun _ t _ => (intOf t).toNat)
          case atStart => exact ⟨na, _, Nat.le_refl _, rfl, HR0.out, hOP, HP0.out, hba0⟩
          case round =>
            obtain ⟨j, P, hj, rfl, rfl, hoP, hPj, hb3⟩ := hrel
            have hcr : wr.cell? ⟨b, 0, none⟩ = some (vi p) := (hb3.cell (p := ⟨b, 0, none⟩) hbl0).trans hc0
            have HPJ := Lib.hid hPj
            clear hPj
            by_cases hj0 : j = 0
            · subst hj0
              obtain ⟨W3, hW3⟩ : ∃ W3 : World, W3 = wr := ⟨_, rfl⟩
              subst hW3
              have HPO := Lib.hid (show PartOk V X P from ⟨fun i => HPJ.out i (Nat.zero_le _)⟩)
              have hltY : (ad2.add k).block < W3.heap.size := by rw [block_of_add]; exact Nat.lt_of_lt_of_le hab2 hb3.size
              have hcy3 : W3.cell? (ad2.add k) = some (vi y) := (hb3.cell (p := ad2.add k) (by rw [block_of_add]; exact hab2)).trans hcy
              have F3 := F0.below hb3 F0.le
              have hbl3 : b < W3.heap.size := block_lt_of_cell hcr
              have hlP : (fvs P).length = na := by rw [List.length_map]; exact hoP.1
              have hsP := hoP.sl
              have hev := fun W FW hsW => eval_nP p S b (some ⟨W0.heap.size, 0, none⟩) na na (fvs P) hlP (i64_fvs _ hp2) hr x hIx W FW hsW
              simp only [els_fvs] at hev
              rw [← HXE.out] at hev
              obtain ⟨E, hE⟩ : ∃ E, E = ev P X := ⟨_, rfl⟩
              rw [← hE] at hev
              obtain ⟨C, hC⟩ : ∃ C, C = co m k * Zp.inv E := ⟨_, rfl⟩
              have hdiv := fun W hcW => div_any p hp1 hp2 b y (fv E) hIy (i64_fv _ hp2) W hcW
              rw [el_fv, ← HMY.out, ← hC] at hdiv
              have HEV := Lib.hid hev
              have HDIV := Lib.hid hdiv
              have HCE := Lib.hid (show C = co m k * Zp.inv (ev P (co l k)) by rw [hC, hE, HLX.out])
              clear hev hdiv hE hC hlP HPJ hj HP0 HR0
              go_wp2
              go_region_held3 (fun w' => w'.cell? (ad2.add k) = some (vi y)) (first | exact hcy3 | exact (hb5.cell hltY).trans hcy3) ((first | (go_at_call 55; refine (HEV.out _ (by first | exact F3 | exact F3.drewR | exact F3.drewN _) (by exact hsP)).mono ?_; rintro e w5 ⟨rfl, hb5⟩) | (go_at_call 72; refine (HDIV.out _ (by exact (hb5.cell (p := ⟨b, 0, none⟩) hbl3).trans hcr)).mono ?_; rintro e w' ⟨rfl, k5, rfl⟩)))
              have hb35 : Below W3.heap.size W3 (w5.drewN k5) := below_drewN ((show Below W3.heap.size W3 W3.drew from below_drewN (Below.refl _ _) 1).trans hb5) k5
              have hb05 := hb3.trans (hb35.mono hb3.size)
              have hoS5 := hoS.below hb05
              have hoP5 := hoP.below hb35
              have hbr5 := hbr.trans (hb05.mono hbr.size)
              have HSTEP2 := Lib.hid (fun M (hm : FitIn P C na S' M) => HSTEP.out k S' M P C HFSK.out hkl (by rw [HLX.out]; exact HPO.out) (by rw [hoP.1, HLL.out]) HCE.out (by rw [hoP.1]; exact hm))
              generalize w5.drewN k5 = W5 at hb35 hb05 hoS5 hoP5 hbr5 ⊢
              clear hb5 hb05 hcy3 hcr F3 hbl3 hsP HEV HDIV HCE HPO hltY
              go_wp2
              go_loopw [94] (fun t wr => SumRel P S' C na w.heap.size w2.heap.size W0.heap.size w2 t wr) (fun t _ => na - (intOf t).toNat)
              case atStart => exact ⟨0, S', Nat.zero_le _, rfl, hoS5, hoP5, FitIn.start _ _ _, hbr5⟩
              case round =>
                obtain ⟨j, M, hj, rfl, hoM, hoQ, hfi, hbq⟩ := hrel
                have HFI := Lib.hid hfi
                clear hfi
                by_cases hjn : j < na
                · have hcq : wr.cell? ⟨b, 0, none⟩ = some (vi p) := (F2.below hbq F2.le).c0
                  have hcP := hoQ.at_ j hjn
                  have hcM := hoM.at_ j hjn
                  have hfM := hoM.frozen j
                  obtain ⟨q, hq⟩ : ∃ q, q = co P j := ⟨_, rfl⟩
                  rw [← hq] at hcP
                  obtain ⟨o, ho⟩ : ∃ o, o = co M j := ⟨_, rfl⟩
                  rw [← ho] at hcM
                  obtain ⟨T, hT⟩ : ∃ T, T = C * q := ⟨_, rfl⟩
                  obtain ⟨U, hU⟩ : ∃ U, U = o + T := ⟨_, rfl⟩
                  have hst := HFI.out.step (by rw [hoS.1]; exact hjn)
                  rw [← ho, ← hq, ← hT, ← hU] at hst
                  have hmul := fun W hcW => mul_any p hp2 b (fv C) (fv q) (i64_fv _ hp2) (i64_fv _ hp2) W hcW
                  rw [el_fv, el_fv, ← hT] at hmul
                  have hadd := fun W hcW => add_any p hp2 b (fv o) (fv T) (i64_fv _ hp2) (i64_fv _ hp2) W hcW
                  rw [el_fv, el_fv, ← hU] at hadd
                  have HMUL := Lib.hid hmul
                  have HADD := Lib.hid hadd
                  have HST := Lib.hid hst
                  have j1 : (0 : Int) ≤ (j : Int) := by omega
                  have j2 : (j : Int) < na := by omega
                  have hmx : Try.prog.follows .mixedOrders = true := by kernel_rfl
                  clear hmul hadd hst hq ho hT hU
                  go_wp2
                  refine wp_region_quiet_tail 13 hmx (by kernel_rfl) ?_
                  simp only [List.take_succ_cons, List.take_zero, List.drop_succ_cons, List.drop_zero]
                  repeat (quiet_step (first | (go_at_call 56; exact Calls.quiet_of (HMUL.out _ (by exact hcq))) | (go_at_call 53; exact Calls.quiet_of (HADD.out _ (by exact hcq)))))
                  refine wpQuiet_nil ?_
                  intro _ hw'
                  obtain ⟨nq1, hw''⟩ := hw'
                  subst hw''
                  have hoM2 := (hoM.drewN nq1).store j U
                  have hoQ2 := (hoQ.drewN nq1).far (q := ⟨w2.heap.size, j, none⟩) (by show W0.heap.size ≠ w2.heap.size; have := hoS.lt.2; omega) (vi (fv U))
                  have hbq2 := (below_drewN hbq nq1).setCell (p := ⟨w2.heap.size, j, none⟩) (Nat.le_refl _) (vi (fv U))
                  go_wp2
                  go_roundw
                  case rel => exact ⟨j + 1, _, by omega, by go_num, hoM2, hoQ2, HST.out, hbq2⟩
                  case measure => simp [intOf]; omega
                · have ej : j = na := by omega
                  have hdn := HSTEP2.out M (by rw [← ej]; exact HFI.out)
                  have HDN := Lib.hid hdn
                  have HEJ := Lib.hid ej
                  clear hdn ej
                  have t1 : ¬ (j : Int) < na := by omega
                  go_wp2
                  go_roundw
                  case rel => exact ⟨k + 1, M, by omega, by go_num, hoM, HDN.out, hbq⟩
                  case measure => simp [intOf]; omega
            · have hjV := (hoV.below hb3).at_ j (by rw [HNV.out]; omega)
              have hcP := hoP.at_ (j - 1) (by omega)
              have hfP := hoP.frozen (j - 1)
              generalize co P (j - 1) = p0 at hcP
              obtain ⟨r, hr'⟩ : ∃ r, r = ev (V.drop (j + 1)) X := ⟨_, rfl⟩
              obtain ⟨vj, hvj⟩ : ∃ vj, vj = co V j := ⟨_, rfl⟩
              have hst : ev (V.drop j) X = vj + r * X := by rw [ev_drop, hvj, hr']; grind
              rw [← hr']
              rw [← hvj] at hjV
              obtain ⟨T, hT⟩ : ∃ T, T = r * X := ⟨_, rfl⟩
              obtain ⟨U, hU⟩ : ∃ U, U = vj + T := ⟨_, rfl⟩
              rw [← hT, ← hU] at hst
              have hmul := fun W hcW => mul_any p hp2 b (fv r) x (i64_fv _ hp2) hIx W hcW
              rw [el_fv, ← HXE.out, ← hT] at hmul
              have hadd := fun W hcW => add_any p hp2 b (fv vj) (fv T) (i64_fv _ hp2) (i64_fv _ hp2) W hcW
              rw [el_fv, el_fv, ← hU] at hadd
              have HMUL := Lib.hid hmul
              have HADD := Lib.hid hadd
              have HST := Lib.hid hst
              have j1 : (0 : Int) < (j : Int) := by omega
              have j2 : (0 : Int) ≤ (j : Int) := by omega
              have j3 : (j : Int) < nv := by have := HNV.out; omega
              have j4 : (0 : Int) ≤ (j : Int) - 1 := by omega
              have j5 : (j : Int) - 1 < na := by omega
              have j6 : ((j : Int) - 1).toNat = j - 1 := by omega
              have j7 : IntKind.i64.wrap ((j : Int) - 1) = (j : Int) - 1 := IntWalk.i64_in _ (by omega)
              clear hmul hadd hst hr' hvj hT hU
              go_wp2
              go_quiet ((first | (go_at_call 56; exact Calls.quiet_of (HMUL.out _ (by exact hcr))) | (go_at_call 53; exact Calls.quiet_of (HADD.out _ (by exact hcr)))))
              go_wp2
              go_roundw
              case rel => exact ⟨j - 1, P.set (j - 1) U, by omega, by congr 1; omega, by rw [show j - 1 + 1 = j by omega, HST.out], (hoP.drewN nq).store (j - 1) U, fun i hi => by
                rw [co_set' _ _ _ (by rw [hoP.1]; omega)]
                by_cases he : i = j - 1
                · rw [if_pos he, he, show j - 1 + 1 = j by omega, HST.out]
                · rw [if_neg he]; exact HPJ.out i (by omega), (below_drewN hb3 nq).setCell (p := ⟨W0.heap.size, j - 1, none⟩) (Nat.le_refl _) _⟩
              case measure => simp [intOf]; omega
        · have ek : na = k := by omega
          subst ek
          have hdn := (show FitSum l m l.length S' by rw [HLL.out]; exact HFSK.out).done
          have hlS : (fvs S').length = na := by rw [List.length_map]; exact hoS.1
          have ht := ptrim_n p hp2 b (some ⟨w2.heap.size, 0, none⟩) na na (fvs S') hlS (i64_fvs _ hp2) (by omega) (Nat.le_refl _) W0 hc0 hoS.sl
          rw [els_fvs] at ht
          generalize trimL S' = O at hdn ht
          have HDN := Lib.hid hdn
          have HT := Lib.hid ht
          have hb0 := hbw2.trans (hbr.mono hbw2.size)
          clear hdn ht hlS
          go_wp2_with fail
          refine (HT.out).mono ?_
          rintro e w4 ⟨v4, rfl, hown4, hb4⟩
          go_wp2
          go_ret2
          exact ⟨O, v4, HDN.out, rfl, hown4.more hb0.size, hb0.trans (hb4.mono hb0.size)⟩
end Go.Proofs.Ytabhndfdioimcaa

/- slices.IndexFunc and ContainsFunc over slices of ints, whatever the function asks of a slice's length. -/
set_option linter.unusedVariables false
namespace Go.Proofs.Ytabhndfdioimcaa
open Go.RowKit

/-- a function that only looks at a slice's length -/
def AsksLen (K : Nat) (cap : Array Value) (bad : Nat → Bool) (w : World) : Prop :=
  ∀ (A : Option Addr) (n c m : Nat), n < 9223372036854775808 → Calls Try.prog K (#[.slice A n c] ++ cap) (w.drewN m) fun e w' => e = .returned (.bool (bad n)) ∧ ∃ k, w' = (w.drewN m).drewN k
def FoundIs (ts : List (List Int)) (bad : Nat → Bool) (w : World) (e : Ending) (w' : World) : Prop :=
  (∃ r, e = .returned (vi r) ∧ ((0 ≤ r ∧ (ts.any fun t => bad t.length) = true) ∨ (r < 0 ∧ (ts.any fun t => bad t.length) = false))) ∧ ∃ k, w' = w.drewN k
set_option maxRecDepth 100000 in
set_option maxHeartbeats 1000000 in
theorem indexfG (K : Nat) (hK : ∀ (args : Array Value) (w : World), (callFunc K args).run Try.prog w = .ok (.enter K args) w) (cap : Array Value) (bad : Nat → Bool) (A : Option Addr) (d c : Nat) (ts : List (List Int)) (hd : ts.length = d) (hd2 : d ≤ 65536) (w : World) (hcl : AsksLen K cap bad w) (hs : TB w A ts) :
    Calls Try.prog 70 #[.slice A d c, .func (.func K) #[] cap] w fun e w' => FoundIs ts bad w e w' := by
  have HD := Lib.hid hd
  have HCL := Lib.hid hcl
  clear hd hcl
  go_enter Try.func70, Try.ntmps70
  go_wp2
  go_loopw [8] (fun i wr => ∃ k m : Nat, k ≤ d ∧ i = vi k ∧ (∀ j (hj : j < ts.length), j < k → bad ts[j].length = false) ∧ wr = w.drewN m) (fun i _ => d - (intOf i).toNat)
  case atStart => exact ⟨0, 0, Nat.zero_le _, rfl, fun j _ h => absurd h (by omega), rfl⟩
  case round =>
    obtain ⟨k, m, hk, rfl, hall, rfl⟩ := hrel
    have HALL := Lib.hid hall
    clear hall
    by_cases hkd : k < d
    · have hkt : k < ts.length := by rw [HD.out]; exact hkd
      obtain ⟨a0, A1, n1, c1, rfl, z1, hc1, hl1, hb1, z2, z3⟩ := hs k hkt
      have hc1' : (w.drewN m).cell? (a0.add k) = some (.slice A1 n1 c1) := hc1
      have hcall := HCL.out A1 n1 c1 m hb1
      have HL := Lib.hid hl1
      cases hq : bad n1
      · rw [hq] at hcall
        have HQ := Lib.hid hq
        have HC := Lib.hid hcall
        clear hl1 hq hcall z1 z2 z3
        go_wp2_with fail
        refine (HC.out).mono ?_
        rintro e w' ⟨rfl, m2, rfl⟩
        go_wp2
        go_roundw
        case rel =>
          refine ⟨k + 1, m + m2, by omega, by go_num, fun j hj hlt => ?_, rfl⟩
          by_cases e : j = k
          · subst e; rw [HL.out, HQ.out]
          · exact HALL.out j hj (by omega)
        case measure => simp [intOf]; omega
      · rw [hq] at hcall
        have HQ := Lib.hid hq
        have HC := Lib.hid hcall
        clear hl1 hq hcall z1 z2 z3
        go_wp2_with fail
        refine (HC.out).mono ?_
        rintro e w' ⟨rfl, m2, rfl⟩
        go_wp2
        go_ret
        exact ⟨⟨k, rfl, .inl ⟨by omega, List.any_eq_true.2 ⟨_, List.getElem_mem hkt, by rw [HL.out]; exact HQ.out⟩⟩⟩, m + m2, rfl⟩
    · obtain rfl : k = d := by omega
      go_wp2
      go_ret
      refine ⟨⟨-1, rfl, .inr ⟨by omega, ?_⟩⟩, _, rfl⟩
      rw [List.any_eq_false]
      intro t ht
      obtain ⟨j, hj, rfl⟩ := List.getElem_of_mem ht
      rw [HALL.out j hj (by rw [← HD.out]; exact hj)]
      simp
set_option maxRecDepth 100000 in
theorem containsfG (K : Nat) (hK : ∀ (args : Array Value) (w : World), (callFunc K args).run Try.prog w = .ok (.enter K args) w) (cap : Array Value) (bad : Nat → Bool) (A : Option Addr) (d c : Nat) (ts : List (List Int)) (hd : ts.length = d) (hd2 : d ≤ 65536) (w : World) (hcl : AsksLen K cap bad w) (hs : TB w A ts) (r : Bool) (hr : (ts.any fun t => bad t.length) = r) :
    Calls Try.prog 51 #[.slice A d c, .func (.func K) #[] cap] w fun e w' => e = .returned (.bool r) ∧ ∃ k, w' = w.drewN k := by
  have hix := Lib.hid (indexfG K hK cap bad A d c ts hd hd2 w hcl hs)
  have HR := Lib.hid hr
  clear hd hr hcl
  go_enter Try.func51, Try.ntmps51
  go_wp2_with fail
  refine (hix.out).mono ?_
  rintro e w' ⟨⟨q, rfl, hq⟩, m, rfl⟩
  rcases hq with ⟨h0, hq⟩ | ⟨h0, hq⟩
  · have hb : r = true := by rw [← HR.out]; exact hq
    clear hq
    go_wp2
    go_ret
    exact ⟨ret_bool (by first | (rw [hb]; done) | (rw [hb]; rfl) | (rw [hb]; simp; omega)), _, rfl⟩
  · have hb : r = false := by rw [← HR.out]; exact hq
    clear hq
    go_wp2
    go_ret
    exact ⟨ret_bool (by first | (rw [hb]; done) | (rw [hb]; rfl) | (rw [hb]; simp; omega)), _, rfl⟩
end Go.Proofs.Ytabhndfdioimcaa

/- The walk of sums.Check. -/
set_option linter.unusedVariables false
namespace Go.Proofs.Ytabhndfdioimcaa
open Go.RowKit Zp

section
open Classical
variable {q : Nat} [NeZero q]
/-- the one polynomial through points -/
noncomputable def fitP (xs ys : List (Fin q)) : List (Fin q) := if h : ∃ o, Fitted xs ys xs.length o then Classical.choose h else []
theorem fitP_eq (hq : IsPrime q) {xs ys o : List (Fin q)} (hx : xs.Nodup) (h : Fitted xs ys xs.length o) : fitP xs ys = o := by
  unfold fitP
  rw [dif_pos ⟨o, h⟩]
  exact Fitted.unique hq hx (Classical.choose_spec (⟨o, h⟩ : ∃ o, Fitted xs ys xs.length o)) h
/-- 0 .. d -/
def upI (k : Nat) : List Int := (List.range k).map fun (i : Nat) => (i : Int)
theorem upI_len (k : Nat) : (upI k).length = k := by simp [upI]
theorem upI_succ (k : Nat) : upI (k + 1) = upI k ++ [(k : Int)] := by simp [upI, List.range_succ]
theorem upI_nodup {k : Nat} (hk : k ≤ q) : (els q (upI k)).Nodup := by
  unfold els upI
  rw [List.map_map]
  unfold List.Nodup
  rw [List.pairwise_map]
  refine List.Pairwise.imp_of_mem (fun {a b} ha hb hne h => ?_) List.nodup_range
  have ha := List.mem_range.1 ha
  have hb := List.mem_range.1 hb
  have h' := congrArg fv h
  simp only [Function.comp] at h'
  rw [el_natCast_of_lt (by omega), el_natCast_of_lt (by omega)] at h'
  omega
/-- what is claimed behind k rounds -/
noncomputable def clK (d : Nat) (claim : Int) (ls : List (List Int)) (rs : List Int) : Nat → Fin q
  | 0 => el q claim
  | k + 1 => ev (fitP (els q (upI (d + 1))) (els q (ls.getD k []))) (el q (rs.getD k 0))
/-- round i says what is claimed -/
def SumAt (d : Nat) (claim : Int) (ls : List (List Int)) (rs : List Int) (i : Nat) : Prop :=
  el q ((ls.getD i []).getD 0 0) + el q ((ls.getD i []).getD 1 0) = (clK d claim ls rs i : Fin q)
def prodE (fs : List Int) : Fin q := fs.foldl (fun a x => a * el q x) 1
/-- is it taken? -/
noncomputable def chkB (q : Nat) [NeZero q] (d : Nat) (claim : Int) (ls : List (List Int)) (fs rs : List Int) : Bool :=
  decide ((∀ l ∈ ls, l.length = d + 1) ∧ (∀ i, i < ls.length → SumAt (q := q) d claim ls rs i) ∧ prodE fs = (clK d claim ls rs ls.length : Fin q))
theorem chkB_true {d : Nat} {claim : Int} {ls : List (List Int)} {fs rs : List Int} (h : (∀ l ∈ ls, l.length = d + 1) ∧ (∀ i, i < ls.length → SumAt (q := q) d claim ls rs i) ∧ prodE fs = (clK d claim ls rs ls.length : Fin q)) : chkB q d claim ls fs rs = true := decide_eq_true h
theorem chkB_false {d : Nat} {claim : Int} {ls : List (List Int)} {fs rs : List Int} (h : ¬ ((∀ l ∈ ls, l.length = d + 1) ∧ (∀ i, i < ls.length → SumAt (q := q) d claim ls rs i) ∧ prodE fs = (clK d claim ls rs ls.length : Fin q))) : chkB q d claim ls fs rs = false := decide_eq_false h
end
/-- may it be looked at? -/
def ChkIn (q : Nat) (d : Int) (nR nF m : Nat) : Prop := 1 ≤ d ∧ d ≤ 4 ∧ d < q ∧ m ≤ 12 ∧ nR = m ∧ (nF : Int) = d
set_option maxRecDepth 100000 in
set_option maxHeartbeats 4000000 in
theorem scheck_out (q b : Nat) (hq2 : q ≤ 2147483647) (claim d : Int) (hd : I64 d) (AR AF B : Option Addr) (nR cR nF cF m cb : Nat) (hR : nR < 9223372036854775808) (hF : nF < 9223372036854775808) (hm : m < 9223372036854775808) (h : ¬ ChkIn q d nR nF m) (w : World) (hcb : w.cell? ⟨b, 0, none⟩ = some (vi q)) :
    Calls Try.prog 25 #[.pointer (some ⟨b, 0, none⟩), vi claim, vi d, .agg #[.slice AR nR cR, .slice AF nF cF], .slice B m cb] w fun e w' => e = .returned (.bool false) ∧ Below w.heap.size w w' := by
  have hbl := block_lt_of_cell hcb
  have hb1 : Below w.heap.size w ((w.alloc (.cells #[vi d] 3)).alloc (.cells #[.slice AR nR cR, .slice AF nF cF] 44)) := ((Below.refl _ _).alloc (Nat.le_refl _) _).alloc (by simp) _
  have hcb' := (hb1.cell (p := ⟨b, 0, none⟩) hbl).trans hcb
  have hD := (Blk.new w 3 #[vi d]).alloc (.cells #[.slice AR nR cR, .slice AF nF cF] 44)
  have hS := Blk.new (w.alloc (.cells #[vi d] 3)) 44 #[.slice AR nR cR, .slice AF nF cF]
  rw [World.size_alloc] at hS
  have c0 := (Blk.cell hD 0).trans (show _ = some (vi d) from rfl)
  have s0 := (Blk.cell hS 0).trans (show _ = some (Value.slice AR nR cR) from rfl)
  have s1 := (Blk.cell hS 1).trans (show _ = some (Value.slice AF nF cF) from rfl)
  have HP := Lib.hid (fun W hc => p_any q b W hc)
  have HB := Lib.hid hb1
  obtain ⟨hd1, hd2⟩ := hd
  clear hb1 hcb hD hS
  rcases (show d < 1 ∨ (1 ≤ d ∧ 4 < d) ∨ (1 ≤ d ∧ d ≤ 4 ∧ (q : Int) ≤ d) ∨ (1 ≤ d ∧ d ≤ 4 ∧ d < q ∧ 12 < m) ∨ (1 ≤ d ∧ d ≤ 4 ∧ d < q ∧ m ≤ 12 ∧ nR ≠ m) ∨ (1 ≤ d ∧ d ≤ 4 ∧ d < q ∧ m ≤ 12 ∧ nR = m ∧ (nF : Int) ≠ d) by unfold ChkIn at h; omega) with h1 | ⟨h1, h2⟩ | ⟨h1, h2, h3⟩ | ⟨h1, h2, h3, h4⟩ | ⟨h1, h2, h3, h4, h5⟩ | ⟨h1, h2, h3, h4, h5, h6⟩
  · have t1 : decide (d < 1) = true := by simp; omega
    clear h
    go_enter Try.func25, Try.ntmps25
    go_wp2
    go_quiet ((go_at_call 43; exact quiet_eq (HP.out _ (by exact hcb'))))
    go_wp2
    go_ret
    exact ⟨rfl, below_drewN HB.out _⟩
  · have t1 : decide (d < 1) = false := by simp; omega
    have t2 : decide (4 < d) = true := by simp; omega
    clear h
    go_enter Try.func25, Try.ntmps25
    go_wp2
    go_quiet ((go_at_call 43; exact quiet_eq (HP.out _ (by exact hcb'))))
    go_wp2
    go_ret
    exact ⟨rfl, below_drewN HB.out _⟩
  · have t1 : decide (d < 1) = false := by simp; omega
    have t2 : decide (4 < d) = false := by simp; omega
    have t3 : decide ((q : Int) ≤ d) = true := by simp; omega
    clear h
    go_enter Try.func25, Try.ntmps25
    go_wp2
    go_quiet ((go_at_call 43; exact quiet_eq (HP.out _ (by exact hcb'))))
    go_wp2
    go_ret
    exact ⟨rfl, below_drewN HB.out _⟩
  · have t1 : decide (d < 1) = false := by simp; omega
    have t2 : decide (4 < d) = false := by simp; omega
    have t3 : decide ((q : Int) ≤ d) = false := by simp; omega
    have t4 : decide ((12 : Int) < (m : Int)) = true := by simp; omega
    have t4' : decide (12 < m) = true := by simp; omega
    clear h
    go_enter Try.func25, Try.ntmps25
    go_wp2
    go_quiet ((go_at_call 43; exact quiet_eq (HP.out _ (by exact hcb'))))
    go_wp2
    go_ret
    exact ⟨rfl, below_drewN HB.out _⟩
  · have t1 : decide (d < 1) = false := by simp; omega
    have t2 : decide (4 < d) = false := by simp; omega
    have t3 : decide ((q : Int) ≤ d) = false := by simp; omega
    have t4 : decide ((12 : Int) < (m : Int)) = false := by simp; omega
    have t4' : decide (12 < m) = false := by simp; omega
    have t5 : ((nR : Int) != (m : Int)) = true := by rw [bne_iff_ne]; omega
    clear h h5
    go_enter Try.func25, Try.ntmps25
    go_wp2
    go_quiet ((go_at_call 43; exact quiet_eq (HP.out _ (by exact hcb'))))
    go_wp2
    go_ret
    exact ⟨rfl, below_drewN HB.out _⟩
  · have t1 : decide (d < 1) = false := by simp; omega
    have t2 : decide (4 < d) = false := by simp; omega
    have t3 : decide ((q : Int) ≤ d) = false := by simp; omega
    have t4 : decide ((12 : Int) < (m : Int)) = false := by simp; omega
    have t4' : decide (12 < m) = false := by simp; omega
    have t5 : ((nR : Int) != (m : Int)) = false := by rw [bne_eq_false_iff_eq]; omega
    have t6 : ((nF : Int) != d) = true := by rw [bne_iff_ne]; omega
    clear h h5 h6
    go_enter Try.func25, Try.ntmps25
    go_wp2
    go_quiet ((go_at_call 43; exact quiet_eq (HP.out _ (by exact hcb'))))
    go_wp2
    go_ret
    exact ⟨rfl, below_drewN HB.out _⟩
set_option maxRecDepth 100000 in
theorem ckl_any (V : Nat) (d : Nat) (hd : d ≤ 4) (A : Option Addr) (n c : Nat) (hn : n < 9223372036854775808) (w : World) (hcV : w.cell? ⟨V, 0, none⟩ = some (vi d)) :
    Calls Try.prog 52 (#[.slice A n c] ++ #[.pointer (some ⟨V, 0, none⟩)]) w fun e w' => e = .returned (.bool ((n : Int) != (d : Int) + 1)) ∧ ∃ k, w' = w.drewN k := by
  show Calls Try.prog 52 #[.slice A n c, .pointer (some ⟨V, 0, none⟩)] w _
  go_enter Try.func52, Try.ntmps52
  go_wp2
  go_ret
  exact ⟨rfl, 0, rfl⟩
set_option maxRecDepth 100000 in
set_option maxHeartbeats 8000000 in
theorem scheck_in (q S b : Nat) [NeZero q] (claim : Int) (hcl : I64 claim) (d : Nat) (hd1 : 1 ≤ d) (hd2 : d ≤ 4) (hdq : d < q) (AR AF B : Option Addr) (m cR cF cb : Nat) (hm : m ≤ 12) (ls : List (List Int)) (fs rs : List Int) (hl : ls.length = m) (hf : fs.length = d) (hr : rs.length = m) (hfI : ∀ x ∈ fs, I64 x) (hrI : ∀ x ∈ rs, I64 x) (w : World) (F : Fld w S b q) (hT : TB w AR ls) (hF : SL w AF fs) (hB : SL w B rs) :
    Calls Try.prog 25 #[.pointer (some ⟨b, 0, none⟩), vi claim, vi d, .agg #[.slice AR m cR, .slice AF d cF], .slice B m cb] w fun e w' => e = .returned (.bool (chkB q d claim ls fs rs)) ∧ Below w.heap.size w w' := by
  have hq2 := F.two
  have hqm := F.max
  have hcb := F.c0
  have hbl := block_lt_of_cell hcb
  have hb1 : Below w.heap.size w ((w.alloc (.cells #[vi d] 3)).alloc (.cells #[.slice AR m cR, .slice AF d cF] 44)) := ((Below.refl _ _).alloc (Nat.le_refl _) _).alloc (by simp) _
  have hcb' := (hb1.cell (p := ⟨b, 0, none⟩) hbl).trans hcb
  have hD := (Blk.new w 3 #[vi d]).alloc (.cells #[.slice AR m cR, .slice AF d cF] 44)
  have hS := Blk.new (w.alloc (.cells #[vi d] 3)) 44 #[.slice AR m cR, .slice AF d cF]
  rw [World.size_alloc] at hS
  have c0 := (Blk.cell hD 0).trans (show _ = some (vi d) from rfl)
  have s0 := (Blk.cell hS 0).trans (show _ = some (Value.slice AR m cR) from rfl)
  have s1 := (Blk.cell hS 1).trans (show _ = some (Value.slice AF d cF) from rfl)
  have HP := Lib.hid (fun W hc => p_any q b W hc)
  have HB1 := Lib.hid hb1
  have hK := callFunc_enters Try.func52 (by kernel_rfl) (by kernel_rfl)
  have HD := Lib.hid hD
  have HS := Lib.hid hS
  have HL := Lib.hid hl
  have HFL := Lib.hid hf
  have HRL := Lib.hid hr
  obtain ⟨bad, hbad⟩ : ∃ bad : Bool, (ls.any fun t => ((t.length : Int) != (d : Int) + 1)) = bad := ⟨_, rfl⟩
  have HCF := Lib.hid (fun W (hc : W.cell? ⟨w.heap.size, 0, none⟩ = some (vi d)) (hW : TB W AR ls) => containsfG 52 hK #[.pointer (some ⟨w.heap.size, 0, none⟩)] (fun n => ((n : Int) != (d : Int) + 1)) AR m cR ls hl (by omega) W (fun A n c k hn => ckl_any w.heap.size d hd2 A n c hn (W.drewN k) hc) hW bad hbad)
  have HT := Lib.hid (hT.below hb1)
  have HBD := Lib.hid hbad
  have t1 : decide ((d : Int) < 1) = false := by simp; omega
  have t1' : decide (d < 1) = false := by simp; omega
  have t2 : decide ((4 : Int) < (d : Int)) = false := by simp; omega
  have t2' : decide (4 < d) = false := by simp; omega
  have t3 : decide ((q : Int) ≤ (d : Int)) = false := by simp; omega
  have t3' : decide (q ≤ d) = false := by simp; omega
  have t4 : decide ((12 : Int) < (m : Int)) = false := by simp; omega
  have t4' : decide (12 < m) = false := by simp; omega
  have t5 : ((m : Int) != (m : Int)) = false := by simp
  have t6 : ((d : Int) != (d : Int)) = false := by simp
  clear hb1 hcb hD hS hl hf hr hbad hK hT
  go_enter Try.func25, Try.ntmps25
  go_wp2
  go_quiet ((go_at_call 43; exact quiet_eq (HP.out _ (by exact hcb'))))
  obtain ⟨W1, hW1⟩ : ∃ W1, W1 = ((w.alloc (.cells #[vi d] 3)).alloc (.cells #[.slice AR m cR, .slice AF d cF] 44)).drewN nq := ⟨_, rfl⟩
  have hb1 : Below w.heap.size w W1 := by rw [hW1]; exact below_drewN HB1.out _
  have c0' : W1.cell? ⟨w.heap.size, 0, none⟩ = some (vi d) := by rw [hW1]; exact c0
  have s0' : W1.cell? ⟨w.heap.size + 1, 0, none⟩ = some (.slice AR m cR) := by rw [hW1]; exact s0
  have s1' : W1.cell? ⟨w.heap.size + 1, 1, none⟩ = some (.slice AF d cF) := by rw [hW1]; exact s1
  have hT1 : TB W1 AR ls := by rw [hW1]; exact HT.out
  have hsz1 : W1.heap.size = w.heap.size + 2 := by rw [hW1]; show (World.alloc _ _).heap.size = _; simp
  rw [← hW1]
  clear hW1 c0 s0 s1 hcb' HB1 HT
  have HC1 := Lib.hid (HCF.out W1 c0' hT1)
  have HT1 := Lib.hid hT1
  have HB1 := Lib.hid hb1
  clear hb1 hT1
  go_wp2_with fail
  refine (HC1.out).mono ?_
  rintro _ _ ⟨rfl, k1, rfl⟩
  cases bad with
  | true =>
    have hres : chkB q d claim ls fs rs = false := by
      unfold chkB
      rw [decide_eq_false_iff_not]
      rintro ⟨h, _⟩
      have := HBD.out
      rw [List.any_eq_true] at this
      obtain ⟨t, ht, h2⟩ := this
      rw [bne_iff_ne] at h2
      exact h2 (by rw [h t ht]; simp)
    have HR := Lib.hid hres
    clear hres
    go_wp2
    go_ret
    exact ⟨ret_bool HR.out.symm, below_drewN HB1.out _⟩
  | false =>
    have hlen : ∀ l ∈ ls, l.length = d + 1 := by
      intro l hl
      have := HBD.out
      rw [List.any_eq_false] at this
      have h2 := this l hl
      simp at h2
      omega
    have HLEN := Lib.hid hlen
    have hb2 := below_drewN HB1.out k1
    have HT2 := Lib.hid (show TB (W1.drewN k1) AR ls from HT1.out)
    have hsz2 : (W1.drewN k1).heap.size = w.heap.size + 2 := hsz1
    have c2' : (W1.drewN k1).cell? ⟨w.heap.size, 0, none⟩ = some (vi d) := c0'
    have s2' : (W1.drewN k1).cell? ⟨w.heap.size + 1, 0, none⟩ = some (.slice AR m cR) := s0'
    have s3' : (W1.drewN k1).cell? ⟨w.heap.size + 1, 1, none⟩ = some (.slice AF d cF) := s1'
    generalize W1.drewN k1 = W2 at hb2 HT2 hsz2 c2' s2' s3'
    clear hlen HBD HC1 HT1 HB1 hsz1 c0' s0' s1'
    have HB2 := Lib.hid hb2
    have h20 : w.heap.size < W2.heap.size := by omega
    have h21 : w.heap.size + 1 < W2.heap.size := by omega
    clear hb2 hsz2
    go_wp2
    go_loopw [11, 58, 12] (fun v t _ wr => ∃ k : Nat, k ≤ d + 1 ∧ t = vi k ∧ Own wr W2.heap.size v (upI k) ∧ Below W2.heap.size W2 wr) (fun _ t _ _ => d + 1 - (intOf t).toNat)
    case atStart => exact ⟨0, by omega, rfl, World.ownsRow_nil _ _ _ _, Below.refl _ _⟩
    case round =>
      obtain ⟨k, hk, rfl, ho, hb⟩ := hrel
      by_cases hkd : k < d + 1
      · have k1 : (0 : Int) ≤ (k : Int) := by omega
        have k2 : (k : Int) < (d : Int) + 1 := by omega
        have hlk : (upI k).length < 17592186044416 := by rw [upI_len]; omega
        have HLK := Lib.hid hlk
        have hsu := upI_succ k
        have HSU := Lib.hid hsu
        clear hlk hsu
        go_wp2_with (at_builtin; refine wpList_app1 wr (k : Int) rfl _ _ rfl W2.heap.size _ _ rfl rfl ho HLK.out hb.size ?_; intro v' w2 hg)
        have ho2 := hg.own
        rw [← HSU.out] at ho2
        exact ⟨⟨k + 1, by omega, by go_num, ho2, hg.below hb ho (Nat.le_refl _) hb.size⟩, by simp [intOf]; omega⟩
      · have ek : k = d + 1 := by omega
        rw [ek] at ho
        have t7 : ¬ (k : Int) < (d : Int) + 1 := by omega
        obtain ⟨AX, nX, cX, rfl, hlX, _, _, hsX⟩ := ho.shapeN
        have hnX : nX = d + 1 := by rw [← hlX, upI_len]
        subst hnX
        have hbw := HB2.out.trans (hb.mono HB2.out.size)
        have hcb3 := (hbw.cell (p := ⟨b, 0, none⟩) hbl).trans F.c0
        have HOF := Lib.hid (of_any q (by omega) hqm b claim hcl wr hcb3)
        have HSX := Lib.hid hsX
        have HBW := Lib.hid hbw
        have HB3 := Lib.hid hb
        have c3' := (hb.cell (p := ⟨w.heap.size, 0, none⟩) h20).trans c2'
        have s4' := (hb.cell (p := ⟨w.heap.size + 1, 0, none⟩) h21).trans s2'
        have s5' := (hb.cell (p := ⟨w.heap.size + 1, 1, none⟩) h21).trans s3'
        have HT3 := Lib.hid (HT2.out.below hb)
        have hx0 := Nat.lt_of_lt_of_le h20 hb.size
        have hx1 := Nat.lt_of_lt_of_le h21 hb.size
        clear ek ho hlX hsX hb hbw hcb3 c2' s2' s3'
        go_wp2_with fail
        refine (HOF.out).mono ?_
        rintro _ _ ⟨rfl, rfl⟩
        obtain ⟨w3, hw3⟩ : ∃ w3, w3 = wr := ⟨_, rfl⟩
        subst hw3
        have hcl0 : claim % (q : Int) = fv (clK d claim ls rs 0 : Fin q) := by show _ = fv (el q claim); rw [fv_el]
        rw [hcl0]
        clear hcl0
        go_wp2
        go_loopw [1, 72, 13, 14, 15, 16] (fun c t _ _ _ _ wr' => ∃ k : Nat, k ≤ m ∧ t = vi k ∧ c = vi (fv (clK d claim ls rs k : Fin q)) ∧ (∀ i, i < k → SumAt (q := q) d claim ls rs i) ∧ Below w3.heap.size w3 wr') (fun _ t _ _ _ _ _ => m - (intOf t).toNat)
        case atStart => exact ⟨0, by omega, rfl, rfl, fun i hi => absurd hi (by omega), Below.refl _ _⟩
        case round =>
          obtain ⟨i, hi, rfl, rfl, hall, hb⟩ := hrel
          have HALL := Lib.hid hall
          clear hall
          by_cases him : i < m
          · have hil : i < ls.length := by rw [HL.out]; exact him
            have hir : i < rs.length := by rw [HRL.out]; exact him
            obtain ⟨ad, A1, n1, c1, rfl, hbd, hcc, hl1, hn1, hs1, hi1⟩ := HT3.out i hil
            have en1 : n1 = d + 1 := by rw [← hl1]; exact HLEN.out _ (List.getElem_mem hil)
            subst en1
            have hccr := (hb.cell (p := ad.add i) hbd).trans hcc
            obtain ⟨ae, rfl, hae, hce0⟩ := hs1.at_ (k := 0) (by rw [hl1]; omega)
            obtain ⟨ae', e2, _, hce1⟩ := hs1.at_ (k := 1) (by rw [hl1]; omega)
            injection e2 with e2
            subst e2
            have hce0' := (hb.cell (p := ae.add 0) (by rw [block_of_add]; exact hae)).trans hce0
            have hce1' := (hb.cell (p := ae.add 1) (by rw [block_of_add]; exact hae)).trans hce1
            rw [show ae.add 0 = ae by simp [Addr.add]] at hce0'
            have hi0 := hi1 _ (List.getElem_mem (show 0 < ls[i].length by rw [hl1]; omega))
            have hi01 := hi1 _ (List.getElem_mem (show 1 < ls[i].length by rw [hl1]; omega))
            have hsumat : SumAt (q := q) d claim ls rs i ↔ el q (ls[i][0]'(by rw [hl1]; omega)) + el q (ls[i][1]'(by rw [hl1]; omega)) = (clK d claim ls rs i : Fin q) := by
              unfold SumAt
              rw [List.getD_eq_getElem?_getD (l := ls), List.getElem?_eq_getElem hil, Option.getD_some, List.getD_eq_getElem?_getD, List.getElem?_eq_getElem (show 0 < ls[i].length by rw [hl1]; omega), List.getD_eq_getElem?_getD, List.getElem?_eq_getElem (show 1 < ls[i].length by rw [hl1]; omega)]
              rfl
            obtain ⟨x0, hx0'⟩ : ∃ x, x = ls[i][0]'(by rw [hl1]; omega) := ⟨_, rfl⟩
            obtain ⟨x1, hx1'⟩ : ∃ x, x = ls[i][1]'(by rw [hl1]; omega) := ⟨_, rfl⟩
            rw [← hx0'] at hce0' hi0 hsumat
            rw [← hx1'] at hce1' hi01 hsumat
            have hcbr := (((HBW.out.trans (hb.mono HBW.out.size)).cell (p := ⟨b, 0, none⟩) hbl).trans F.c0)
            have HADD := Lib.hid (fun W hc => add_any q hqm b x0 x1 hi0 hi01 W hc)
            obtain ⟨C, hC⟩ : ∃ C : Fin q, C = clK d claim ls rs i := ⟨_, rfl⟩
            rw [← hC] at hsumat ⊢
            have i1 : (0 : Int) ≤ (i : Int) := by omega
            have i2 : (i : Int) < (m : Int) := by omega
            have hce1'' : wr.cell? ⟨ae.block, ae.off + 1, none⟩ = some (vi x1) := by
              have : ae.add 1 = ⟨ae.block, ae.off + 1, none⟩ := by simp [Addr.add]
              rw [← this]; exact hce1'
            have d1 : (1 : Int) < (d : Int) + 1 := by omega
            have d1' : 1 < d + 1 := by omega
            have HB := Lib.hid hb
            have HSA := Lib.hid hsumat
            have HC := Lib.hid hC
            have HLI := Lib.hid hl1
            have HSI := Lib.hid hs1
            have HII := Lib.hid hi1
            clear hb hsumat hC hl1 hs1 hi1 hx0' hx1' hce0 hce1 hcc hce1'
            by_cases hsum : el q x0 + el q x1 = C
            · have t8 : (fv (el q x0 + el q x1) != fv C) = false := by rw [hsum]; simp
              have HSUM := Lib.hid hsum
              clear hsum
              go_wp2
              go_quiet ((go_at_call 53; exact Calls.quiet_of (HADD.out _ (by exact hcbr))))
              go_wp2_with fail
              have hbN := below_drewN HB.out nq
              have hbw0 := HBW.out.trans (hbN.mono HBW.out.size)
              have hupI : ∀ x ∈ upI (d + 1), I64 x := by
                intro x hx
                obtain ⟨j, hj, rfl⟩ := List.mem_map.1 hx
                have := List.mem_range.1 hj
                constructor <;> omega
              have HFT := Lib.hid (pfit_any q S b AX (some ae) (d + 1) cX c1 (upI (d + 1)) ls[i] (upI_len _) HLI.out hupI HII.out (by omega) (upI_nodup (q := q) (by omega)) (wr.drewN nq) (F.below hbw0 F.le) (HSX.out.below hbN) (HSI.out.below hbN))
              obtain ⟨bd, rfl, hbdl, hcr⟩ := hB.at_ hir
              have hri := hrI _ (List.getElem_mem hir)
              have hgr : rs.getD i 0 = rs[i] := by rw [List.getD_eq_getElem?_getD, List.getElem?_eq_getElem hir]; rfl
              have hgl : ls.getD i [] = ls[i] := by rw [List.getD_eq_getElem?_getD, List.getElem?_eq_getElem hil]; rfl
              have HBN := Lib.hid hbN
              have HBW0 := Lib.hid hbw0
              obtain ⟨r, hrr⟩ : ∃ r, r = rs[i] := ⟨_, rfl⟩
              rw [← hrr] at hcr hri hgr
              have HGR := Lib.hid hgr
              have HGL := Lib.hid hgl
              clear hbN hbw0 hupI hgr hgl hrr hcbr hce0' hce1'' hccr hbd
              refine (HFT.out).mono ?_
              rintro _ w5 ⟨o, v5, hfit, rfl, ho5, hb5⟩
              obtain ⟨A5, n5, c5, rfl, hl5, hc5, _, hs5⟩ := ho5.shapeN
              have hol := hfit.len
              rw [show (els q (upI (d + 1))).length = d + 1 by simp [els, upI]] at hol
              have hn5 : n5 ≤ d + 1 := by rw [← hl5]; simpa [fvs] using hol
              have hbw5 := HBW0.out.trans (hb5.mono HBW0.out.size)
              have hcr5 := (hbw5.cell (p := bd.add i) (by rw [block_of_add]; exact hbdl)).trans hcr
              have hev := eval_nP q S b A5 n5 c5 (fvs o) hl5 (by intro x hx; obtain ⟨y, _, rfl⟩ := List.mem_map.1 hx; exact i64_fv _ hqm) (by omega) r hri w5 (F.below hbw5 F.le) hs5
              rw [els_fvs] at hev
              have hnx : ev o (el q r) = (clK d claim ls rs (i + 1) : Fin q) := by
                show _ = ev (fitP (els q (upI (d + 1))) (els q (ls.getD i []))) (el q (rs.getD i 0))
                rw [HGR.out, HGL.out, fitP_eq F.prime (upI_nodup (by omega)) (by rw [show (els q (upI (d + 1))).length = (els q (upI (d + 1))).length from rfl]; exact hfit)]
              rw [hnx] at hev
              have HEV := Lib.hid hev
              have HB5 := Lib.hid (HBN.out.trans (hb5.mono HBN.out.size))
              clear hfit hl5 hs5 hol hev hnx ho5 hb5 hbw5 hcr
              go_wp2_with fail
              refine (HEV.out).mono ?_
              rintro _ w6 ⟨rfl, hb6⟩
              have hb36 := HB5.out.trans (hb6.mono HB5.out.size)
              go_wp2
              go_roundw
              case rel => exact ⟨i + 1, by omega, by go_num, rfl, fun j hj => by
                by_cases e : j = i
                · subst e; rw [HSA.out]; exact HSUM.out
                · exact HALL.out j (by omega), hb36⟩
              case measure => simp [intOf]; omega
            · have t8 : (fv (el q x0 + el q x1) != fv C) = true := by rw [bne_iff_ne]; exact fun e => hsum (fv_inj e)
              have hres : chkB q d claim ls fs rs = false := by
                unfold chkB
                rw [decide_eq_false_iff_not]
                rintro ⟨_, h, _⟩
                exact hsum (HSA.out.1 (h i hil))
              have HR := Lib.hid hres
              clear hsum hres
              go_wp2
              go_quiet ((go_at_call 53; exact Calls.quiet_of (HADD.out _ (by exact hcbr))))
              go_wp2
              go_ret
              exact ⟨ret_bool HR.out.symm, below_drewN (HBW.out.trans (HB.out.mono HBW.out.size)) _⟩
          · have ei : i = m := by omega
            have t8 : ¬ (i : Int) < (m : Int) := by omega
            subst ei
            have s1r := (hb.cell (p := ⟨w.heap.size + 1, 1, none⟩) hx1).trans s5'
            have hSF := hF.below (HBW.out.trans (hb.mono HBW.out.size))
            have HBR := Lib.hid (HBW.out.trans (hb.mono HBW.out.size))
            have HSF := Lib.hid hSF
            obtain ⟨C, hC⟩ : ∃ C : Fin q, C = clK d claim ls rs i := ⟨_, rfl⟩
            rw [← hC]
            have HC := Lib.hid hC
            clear hb hSF hC s4' s5' c3'
            obtain ⟨w7, hw7⟩ : ∃ w7, w7 = wr := ⟨_, rfl⟩
            subst hw7
            go_wp2
            go_loopw [17, 107, 19] (fun c t _ wr' => ∃ k n : Nat, k ≤ d ∧ t = vi k ∧ c = vi (fv (prodE (fs.take k) : Fin q)) ∧ wr' = w7.drewN n) (fun _ t _ _ => d - (intOf t).toNat)
            case atStart => exact ⟨0, 0, by omega, rfl, by show _ = vi (fv (1 : Fin q)); rw [fv_one hq2], rfl⟩
            case round =>
              obtain ⟨k, n, hk, rfl, rfl, rfl⟩ := hrel
              by_cases hkd' : k < d
              · have hkf : k < fs.length := by rw [HFL.out]; exact hkd'
                obtain ⟨ag, rfl, hag, hcg⟩ := HSF.out.at_ hkf
                have hfk := hfI _ (List.getElem_mem hkf)
                have hcbr := (HBR.out.cell (p := ⟨b, 0, none⟩) hbl).trans F.c0
                have hpr : prodE (fs.take (k + 1)) = (prodE (fs.take k) : Fin q) * el q fs[k] := by
                  rw [List.take_succ_eq_append_getElem hkf]; unfold prodE; rw [List.foldl_append]; rfl
                obtain ⟨y, hy⟩ : ∃ y, y = fs[k] := ⟨_, rfl⟩
                rw [← hy] at hcg hfk hpr
                obtain ⟨X, hX⟩ : ∃ X : Fin q, X = prodE (fs.take k) := ⟨_, rfl⟩
                rw [← hX] at hpr ⊢
                have hml := mul_any q hqm b (fv X) y (i64_fv _ hqm) hfk (w7.drewN n) (by exact hcbr)
                rw [el_fv, ← hpr] at hml
                have HMUL := Lib.hid hml
                clear hml hX
                have hcg' : (w7.drewN n).cell? (ag.add k) = some (vi y) := hcg
                have k1 : (0 : Int) ≤ (k : Int) := by omega
                have k2 : (k : Int) < (d : Int) := by omega
                clear hy hpr hcbr
                go_wp2_with fail
                refine (HMUL.out).mono ?_
                rintro _ _ ⟨rfl, n2, rfl⟩
                go_wp2
                go_roundw
                case rel => exact ⟨k + 1, n + n2, by omega, by go_num, rfl, rfl⟩
                case measure => simp [intOf]; omega
              · have ek : k = d := by omega
                have t9 : ¬ (k : Int) < (d : Int) := by omega
                have hres : chkB q d claim ls fs rs = (fv (prodE (fs.take k) : Fin q) == fv C) := by
                  rw [ek, List.take_of_length_le (by rw [HFL.out]; exact Nat.le_refl _)]
                  by_cases he : (prodE fs : Fin q) = C
                  · rw [chkB_true ⟨HLEN.out, by rw [HL.out]; exact HALL.out, by rw [HL.out, ← HC.out]; exact he⟩, he]
                    simp
                  · rw [chkB_false fun h => he (by have := h.2.2; rw [HL.out, ← HC.out] at this; exact this)]
                    symm
                    rw [beq_eq_false_iff_ne]
                    exact fun e => he (fv_inj e)
                have HRES := Lib.hid hres
                clear hres ek
                generalize fv (prodE (fs.take k) : Fin q) = Y at HRES
                go_wp2
                go_ret
                exact ⟨ret_bool HRES.out.symm, below_drewN HBR.out _⟩
end Go.Proofs.Ytabhndfdioimcaa

/- Plain: what sums.Make tells of a true sum is taken by sums.Check. -/
set_option linter.unusedVariables false
namespace Go.Proofs.Ytabhndfdioimcaa
open Go.RowKit Zp

section
variable {q : Nat} [NeZero q]
/-- the polynomial through a round's values is what the tables come to -/
theorem fit_round (hp : IsPrime q) {d h : Nat} (hdq : d < q) (ts : List (List Int)) (l : List Int) (hl : l = fvs (roundL q h ts d)) (r : Fin q) :
    ev (fitP (els q (upI (d + 1))) (els q l)) r = totP d h (fixT h (tabOf q ts) r) := by
  obtain ⟨Q, hQl, hQ⟩ := sum_poly d h (fun i j => co (tabOf q ts j) i) (fun i j => co (tabOf q ts j) (i + h))
  have hQ' : ∀ r, ev Q r = totP d h (fixT h (tabOf q ts) r) := fun r => by rw [hQ r, tot_fix]
  have hn : (els q (upI (d + 1))).Nodup := upI_nodup (by omega)
  have hxl : (els q (upI (d + 1))).length = d + 1 := by simp [els, upI]
  have hf : Fitted (els q (upI (d + 1))) (els q l) (els q (upI (d + 1))).length (trimL Q) := by
    refine ⟨trimL_trim Q, ?_, fun j hj => ?_⟩
    · rw [hxl]; exact Nat.le_trans (trimL_length_le Q) hQl
    · rw [if_pos hj, ev_trim, hQ']
      rw [hxl] at hj
      have e1 : co (els q (upI (d + 1))) j = el q (j : Int) := by
        rw [co_of_lt (by rw [hxl]; exact hj)]
        simp [els, upI]
      have e2 : co (els q l) j = totP d h (fixT h (tabOf q ts) (el q (j : Int))) := by
        rw [hl, els_fvs, co_of_lt (by rw [roundL_length]; exact hj)]
        simp [roundL]
      rw [e1, e2]
  rw [fitP_eq hp hn hf, ev_trim, hQ']
/-- what is claimed is what the tables come to -/
theorem cl_true (hp : IsPrime q) {d v : Nat} (hdq : d < q) (ts : List (List Int)) (rs : List Int) (claim : Int) (hc : el q claim = totP d (2 ^ v) (tabOf q ts)) :
    ∀ k, k ≤ v → (clK d claim (rdL q d v ts rs v) rs k : Fin q) = totP d (2 ^ (v - k)) (tabOf q (ftK q d v ts rs k)) := by
  intro k
  induction k with
  | zero => intro _; exact hc
  | succ k ih =>
    intro hk
    have hg : (rdL q d v ts rs v).getD k [] = fvs (rdK q d v ts rs k) := by
      unfold rdL
      rw [List.getD_eq_getElem?_getD, List.getElem?_map, List.getElem?_range (by omega)]
      rfl
    show ev (fitP (els q (upI (d + 1))) (els q ((rdL q d v ts rs v).getD k []))) (el q (rs.getD k 0)) = _
    rw [hg, fit_round (h := 2 ^ (v - 1 - k)) hp hdq (ftK q d v ts rs k) (fvs (rdK q d v ts rs k)) rfl]
    show _ = totP d (2 ^ (v - (k + 1))) (tabOf q (fixI q (2 ^ (v - 1 - k)) (ftK q d v ts rs k) d (el q (rs.getD k 0))))
    rw [show v - (k + 1) = v - 1 - k by omega, fixI_tot]
theorem sum_true (hp : IsPrime q) {d v : Nat} (hd1 : 1 ≤ d) (hdq : d < q) (ts : List (List Int)) (rs : List Int) (claim : Int) (hc : el q claim = totP d (2 ^ v) (tabOf q ts)) :
    chkB q d claim (rdL q d v ts rs v) ((List.range d).map fun j => fv (finF q d v ts rs j)) rs = true := by
  have hcl := cl_true hp hdq ts rs claim hc
  have hlen : (rdL q d v ts rs v).length = v := by simp [rdL]
  refine chkB_true ⟨fun l hl => ?_, fun i hi => ?_, ?_⟩
  · obtain ⟨i, _, rfl⟩ := List.mem_map.1 hl
    rw [List.length_map, rdK, roundL_length]
  · rw [hlen] at hi
    unfold SumAt
    rw [hcl i (by omega)]
    have hg : (rdL q d v ts rs v).getD i [] = fvs (rdK q d v ts rs i) := by
      unfold rdL
      rw [List.getD_eq_getElem?_getD, List.getElem?_map, List.getElem?_range (by omega)]
      rfl
    rw [hg, show v - i = (v - 1 - i) + 1 by omega, Nat.pow_succ', tot_round]
    have hx : ∀ j, j < d + 1 → el q ((fvs (rdK q d v ts rs i)).getD j 0) = totP d (2 ^ (v - 1 - i)) (fixT (2 ^ (v - 1 - i)) (tabOf q (ftK q d v ts rs i)) (el q (j : Int))) := by
      intro j hj
      unfold rdK
      rw [List.getD_eq_getElem?_getD]
      unfold fvs
      rw [List.getElem?_map]
      unfold roundL
      rw [List.getElem?_map, List.getElem?_range hj]
      simp only [Option.map_some, Option.getD_some]
      rw [el_fv]
    rw [hx 0 (by omega), hx 1 (by omega)]
    rw [show el q ((0 : Nat) : Int) = (0 : Fin q) from el_zero, show el q ((1 : Nat) : Int) = (1 : Fin q) from el_one]
  · rw [hlen, hcl v (Nat.le_refl _), Nat.sub_self]
    have hp1 : ∀ k, (prodE ((List.range k).map fun j => fv (finF q d v ts rs j)) : Fin q) = prodT k fun j => finF q d v ts rs j := by
      intro k
      induction k with
      | zero => rfl
      | succ k ih =>
        rw [List.range_succ, List.map_append]
        unfold prodE at ih ⊢
        rw [List.foldl_append, ih]
        show _ * el q (fv (finF q d v ts rs k)) = _
        rw [el_fv]; rfl
    rw [hp1]
    unfold totP
    rw [show (2 : Nat) ^ 0 = 1 from rfl]
    show _ = sumT 0 _ + _
    rw [show (sumT 0 fun i => prodT d fun j => co (tabOf q (ftK q d v ts rs v) j) i) = (0 : Fin q) from rfl]
    show _ = 0 + prodT d fun j => co (tabOf q (ftK q d v ts rs v) j) 0
    unfold finF
    grind
theorem tab_ftK (d v : Nat) (ts : List (List Int)) (rs : List Int) (k : Nat) {j : Nat} (hj : j < d) : tabOf q (ftK q d v ts rs (k + 1)) j = fixL (2 ^ (v - 1 - k)) (tabOf q (ftK q d v ts rs k) j) (el q (rs.getD k 0)) := by
  show tabOf q (fixI q (2 ^ (v - 1 - k)) (ftK q d v ts rs k) d (el q (rs.getD k 0))) j = _
  unfold tabOf fixI
  rw [List.getD_eq_getElem?_getD, List.getElem?_map, List.getElem?_range hj]
  simp only [Option.map_some, Option.getD_some]
  rw [els_fvs]
  rfl
theorem ext_ftK (d v : Nat) (ts : List (List Int)) (hd : ts.length = d) (hv : ∀ t ∈ ts, t.length = 2 ^ v) (rs : List Int) (hr : rs.length = v) {j : Nat} (hj : j < d) :
    ∀ k, k ≤ v → extL (tabOf q ts j) (els q rs) = extL (tabOf q (ftK q d v ts rs k) j) (els q (rs.drop k)) := by
  intro k
  induction k with
  | zero => intro _; rfl
  | succ k ih =>
    intro hk
    have hkr : k < rs.length := by omega
    have hlen : (tabOf q (ftK q d v ts rs k) j).length = 2 ^ (v - k) := by
      have hjl : j < (ftK q d v ts rs k).length := by rw [ftK_length q d v ts rs hd]; exact hj
      unfold tabOf els
      rw [List.length_map, List.getD_eq_getElem?_getD, List.getElem?_eq_getElem hjl, Option.getD_some]
      exact ftK_len q d v ts rs hv k (by omega) _ (List.getElem_mem hjl)
    rw [ih (by omega), List.drop_eq_getElem_cons hkr]
    show extL (fixL ((tabOf q (ftK q d v ts rs k) j).length / 2) (tabOf q (ftK q d v ts rs k) j) (el q rs[k])) (els q (rs.drop (k + 1))) = _
    rw [hlen, tab_ftK d v ts rs k hj, show rs.getD k 0 = rs[k] by rw [List.getD_eq_getElem?_getD, List.getElem?_eq_getElem hkr]; rfl, show v - k = (v - 1 - k) + 1 by omega, Nat.pow_succ, Nat.mul_div_cancel _ (by omega)]
theorem finF_ext (d v : Nat) (ts : List (List Int)) (hd : ts.length = d) (hv : ∀ t ∈ ts, t.length = 2 ^ v) (rs : List Int) (hr : rs.length = v) {j : Nat} (hj : j < d) : co (extL (tabOf q ts j) (els q rs)) 0 = finF q d v ts rs j := by
  rw [ext_ftK d v ts hd hv rs hr hj v (Nat.le_refl _), List.drop_of_length_le (by omega)]
  rfl
end
end Go.Proofs.Ytabhndfdioimcaa

/- Walks: attestlaw1's lives: the field of 17; New of any number. -/
set_option linter.unusedVariables false
namespace Go.Proofs.Ytabhndfdioimcaa
open Go.RowKit Zp

theorem prime17 : IsPrime 17 := by decide
theorem ord17 : Ord (el 17 3) 16 := ord_of_least (by omega) (by decide) (by
  intro k h1 h2
  have : ∀ k : Fin 16, 0 < k.val → pw (el 17 3) k.val ≠ 1 := by decide
  exact this ⟨k, h2⟩ h1)
theorem gen17 : genN 17 = 3 := genN_eq ⟨by omega, by omega, ord17, fun k h1 h2 h3 => by
  have h4 : ¬ pw (el 17 (k : Int)) 8 = 1 := fun h => by
    have := (h3 8).1 h
    omega
  match k, h1, h2 with
  | 1, _, _ => exact h4 (by decide)
  | 2, _, _ => exact h4 (by decide)⟩
theorem inv17 : fv (Zp.inv (el 17 3)) = 6 := by decide

/-- a field's pointer -/
def FieldPtr (p : Nat) [NeZero p] (w : World) (e : Ending) (w' : World) : Prop :=
  ∃ b : Nat, e = .returned (.pointer (some ⟨b, 0, none⟩)) ∧ Fld w' w'.heap.size b p ∧ Below w.heap.size w w'


/-- what there is of New: no field, or one of a prime -/
inductive New_ (p : Int) (w : World) (e : Ending) (w' : World) : Prop
  | no (h : ¬ (3 ≤ p ∧ p ≤ 2147483647 ∧ IsPrime p.toNat)) (he : e = NoField) (hw : w = w')
  | yes (n : Nat) (h : p = n) (h3 : 3 ≤ n) (hm : n ≤ 2147483647) (hp : IsPrime n) (hF : ∀ h0 : NeZero n, MadeField n w e w')

theorem new_all (p : Int) (w : World) : Calls Try.prog 29 #[vi p] w fun e w' => New_ p w e w' := by
  by_cases h : p < 3 ∨ 2147483647 < p
  · exact (new_no p w h).mono fun e w' ⟨h1, h2⟩ => .no (by omega) h1 h2
  · obtain ⟨n, rfl⟩ := Int.eq_ofNat_of_zero_le (a := p) (by omega)
    by_cases hp : IsPrime n
    · haveI := hp.ne
      exact (new_prime n w (by omega) (by omega) hp).mono fun e w' hm => .yes n rfl (by omega) (by omega) hp (fun h0 => hm)
    · exact (new_composite n w (by omega) (by omega) hp).mono fun e w' ⟨h1, h2⟩ => .no (by rintro ⟨_, _, h⟩; exact hp (by simpa using h)) h1 h2

/-- is there a field of this number? -/
abbrev HasField (p : Int) : Prop := 3 ≤ p ∧ p ≤ 2147483647 ∧ IsPrime p.toNat
theorem new_none (p : Int) (w : World) (h : ¬ HasField p) : Calls Try.prog 29 #[vi p] w fun e w' => e = NoField ∧ w = w' :=
  (new_all p w).mono fun e w' h' => by
    cases h' with
    | no _ h1 h2 => exact ⟨h1, h2⟩
    | yes n h1 h3 hm hp _ => exact absurd ⟨by omega, by omega, by rw [h1]; simpa using hp⟩ h
end Go.Proofs.Ytabhndfdioimcaa

/- Walks: attestlaw2's plain and lives. -/
set_option linter.unusedVariables false
namespace Go.Proofs.Ytabhndfdioimcaa
open Go.RowKit Zp

/-- is there a domain? -/
def HasDom (p size t : Int) : Prop := HasField p ∧ ∃ n : Nat, size = n ∧ SizeOk p.toNat n ∧ ¬ t % p = 0



/-- the parts of HasDom -/
theorem HasDom.parts {p size t : Int} (h : HasDom p size t) : ∃ q n : Nat, p = q ∧ size = n ∧ 3 ≤ q ∧ q ≤ 2147483647 ∧ IsPrime q ∧ SizeOk q n ∧ ¬ t % (q : Int) = 0 := by
  obtain ⟨⟨h3, hm, hpr⟩, n, rfl, hs, h0⟩ := h
  obtain ⟨q, rfl⟩ := Int.eq_ofNat_of_zero_le (a := p) (by omega)
  rw [Int.toNat_natCast] at hpr hs
  exact ⟨q, n, rfl, rfl, by omega, by omega, hpr, hs, h0⟩

/-- a list written out reads as it is -/
theorem sl_lit (w : World) (xs : List Int) : SL (w.alloc (.cells (xs.map vi).toArray 3)) (some ⟨w.heap.size, 0, none⟩) xs := by
  refine ⟨by simp, fun hn => ⟨_, rfl, by simp, fun j u hu => ?_⟩⟩
  have e : (⟨w.heap.size, 0, none⟩ : Addr).add j = ⟨w.heap.size, j, none⟩ := by simp [Addr.add]; intro h; exact h.symm
  rw [e, (Blk.new w 3 (xs.map vi).toArray).cell]
  simpa using hu

theorem size4 : SizeOk 17 4 := ⟨⟨2, by omega, rfl⟩, ⟨4, rfl⟩⟩
theorem root17 : rootI 17 ((4 : Nat) : Int) = el 17 13 := by
  rw [rootI_nat (by omega) (by decide) (by omega), gen17]
  decide
theorem vals17 : fvs (valL (el 17 3) (rootI 17 ((4 : Nat) : Int)) 4 (els 17 [1, 1])) = [4, 6, 15, 13] := by
  rw [root17]
  decide

theorem ints_n (A B : Option Addr) (n c m d : Nat) (xs ys : List Int) (hnx : xs.length = n) (hmy : ys.length = m) (hn : n ≤ 9223372036854775807) (hm : m ≤ 9223372036854775807) (w : World) (hsx : SL w A xs) (hsy : SL w B ys) :
    Calls Try.prog 14 #[.slice A n c, .slice B m d] w fun e w' => e = .returned (.bool (eqB xs ys)) ∧ ∃ k, w' = w.drewN k := by
  subst hnx hmy
  exact ints_any A B c d xs ys hn hm w hsx hsy
end Go.Proofs.Ytabhndfdioimcaa

/- Walks: attestlaw4's plain and lives. -/
set_option linter.unusedVariables false
namespace Go.Proofs.Ytabhndfdioimcaa
open Go.RowKit Zp

theorem plain4_no (p : Int) (hF : ¬ HasField p) (w : World) :
    Calls Try.prog 22 #[vi p] w fun e w' => e = .returned (.pointer none) ∧ w = w' := by
  have HN := Lib.hid (new_none p w hF)
  clear hF
  go_enter Try.func22, Try.ntmps22
  go_wp2_with fail
  refine (HN.out).mono ?_
  rintro e w1 ⟨rfl, rfl⟩
  go_wp2
  go_ret
  exact ⟨rfl, rfl⟩

theorem plain4_yes (q : Nat) [NeZero q] (h3 : 3 ≤ q) (hm : q ≤ 2147483647) (hpr : IsPrime q) (w : World) :
    Calls Try.prog 22 #[vi q] w fun e w' => ∃ b : Nat, e = .returned (.pointer (some ⟨b, 0, none⟩)) ∧ Fld w' w'.heap.size b q ∧ Below w.heap.size w w' := by
  have HN := Lib.hid (new_prime q w (by omega) (by omega) hpr)
  clear hpr
  go_enter Try.func22, Try.ntmps22
  go_wp2_with fail
  refine (HN.out).mono ?_
  rintro e w1 ⟨b, rfl, F, hbel, _⟩
  go_wp2
  go_ret
  exact ⟨b, rfl, F, hbel⟩

/-- a literal of tables -/
theorem tb_lit (w : World) (t : TypeId) (us : List Value) (ts : List (List Int)) (h : ∀ k (hk : k < ts.length), ∃ A n c, us[k]? = some (.slice A n c) ∧ ts[k].length = n ∧ n < 9223372036854775808 ∧ SL w A ts[k] ∧ ∀ x ∈ ts[k], I64 x) :
    TB (w.alloc (.cells us.toArray t)) (some ⟨w.heap.size, 0, none⟩) ts := fun k hk => by
  obtain ⟨A, n, c, h1, h2, h3, h4, h5⟩ := h k hk
  have e : (⟨w.heap.size, 0, none⟩ : Addr).add k = ⟨w.heap.size, k, none⟩ := by simp [Addr.add]; intro h; exact h.symm
  refine ⟨_, A, n, c, rfl, by rw [e]; simp, ?_, h2, h3, h4.below ((Below.refl _ w).alloc (Nat.le_refl _) _), h5⟩
  rw [e, (Blk.new w t us.toArray).cell]
  simpa using h1

theorem tot17 : fv (totP (p := 17) 2 (2 ^ 2) (tabOf 17 [[1, 2, 3, 4], [1, 1, 0, 2]])) = 11 := by decide
set_option maxRecDepth 100000 in
set_option maxHeartbeats 1000000 in
theorem lives4_any (w : World) : Calls Try.prog 21 #[] w fun e w' => SaysW (.bool true) w e w' := by
  have hp17 : IsPrime 17 := prime17
  have HN := Lib.hid (plain4_yes 17 (by omega) (by omega) hp17 w)
  go_enter Try.func21, Try.ntmps21
  go_wp2_with fail
  refine (HN.out).mono ?_
  rintro e w1 ⟨b, rfl, F, hb⟩
  go_wp2_with fail
  have b1 : Below w1.heap.size w1 (w1.alloc (.cells #[vi 1, vi 2, vi 3, vi 4] 3)) := (Below.refl _ _).alloc (Nat.le_refl _) _
  have s1 : SL (w1.alloc (.cells #[vi 1, vi 2, vi 3, vi 4] 3)) (some ⟨w1.heap.size, 0, none⟩) [1, 2, 3, 4] := sl_lit w1 [1, 2, 3, 4]
  generalize hw2 : w1.alloc (.cells #[vi 1, vi 2, vi 3, vi 4] 3) = w2 at b1 s1 ⊢
  have z2 : w2.heap.size = w1.heap.size + 1 := by rw [← hw2]; simp
  have b2 : Below w2.heap.size w2 (w2.alloc (.cells #[vi 1, vi 1, vi 0, vi 2] 3)) := (Below.refl _ _).alloc (Nat.le_refl _) _
  have s2 : SL (w2.alloc (.cells #[vi 1, vi 1, vi 0, vi 2] 3)) (some ⟨w2.heap.size, 0, none⟩) [1, 1, 0, 2] := sl_lit w2 [1, 1, 0, 2]
  generalize hw3 : w2.alloc (.cells #[vi 1, vi 1, vi 0, vi 2] 3) = w3 at b2 s2 ⊢
  have z3 : w3.heap.size = w1.heap.size + 1 + 1 := by rw [← hw3]; simp [z2]
  have b3 : Below w3.heap.size w3 (w3.alloc (.cells #[.slice (some ⟨w1.heap.size, 0, none⟩) 4 4, .slice (some ⟨w2.heap.size, 0, none⟩) 4 4] 22)) := (Below.refl _ _).alloc (Nat.le_refl _) _
  have htb := tb_lit w3 22 [.slice (some ⟨w1.heap.size, 0, none⟩) 4 4, .slice (some ⟨w2.heap.size, 0, none⟩) 4 4] [[1, 2, 3, 4], [1, 1, 0, 2]] (by
    intro k hk
    match k, hk with
    | 0, _ => exact ⟨_, _, _, rfl, rfl, by omega, s1.below b2, by simp; decide⟩
    | 1, _ => exact ⟨_, _, _, rfl, rfl, by omega, s2, by simp; decide⟩)
  have hov : Over [[1, 2, 3, 4], [1, 1, 0, 2]] 2 := by
    intro t ht
    simp only [List.mem_cons, List.not_mem_nil, or_false] at ht
    rcases ht with rfl | rfl <;> exact ⟨by omega, rfl⟩
  have hbb := (b1.trans (b2.mono b1.size)).trans (b3.mono (b1.trans (b2.mono b1.size)).size)
  have htot := Total_any 17 b (by omega) (by omega) (some ⟨w3.heap.size, 0, none⟩) 2 2 _ rfl (by omega) (by omega) 2 hov _ ((hbb.cell (p := ⟨b, 0, none⟩) (block_lt_of_cell F.c0)).trans F.c0) htb
  rw [tot17, z3, z2] at htot
  rw [z2] at hbb
  refine htot.mono ?_
  rintro e w4 ⟨rfl, hb4⟩
  go_wp2
  go_ret
  exact ⟨rfl, hb.trans ((hbb.mono hb.size).trans (hb4.mono (Nat.le_trans hb.size hbb.size)))⟩
end Go.Proofs.Ytabhndfdioimcaa
