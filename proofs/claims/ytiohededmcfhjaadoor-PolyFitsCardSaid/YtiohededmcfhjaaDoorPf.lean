/- The walk of poly.Fit. -/
import Derived.Test.YtiohededmcfhjaaDoorVn
import Derived.Maps.OwnSet
set_option linter.unusedVariables false
namespace Go.Proofs.YtiohededmcfhjaaDoor
open Go.RowKit Zp

theorem keyed_int : Go.Maps.Keyed Tryd.prog 3 := Go.Maps.int_keyed Tryd.underlying3
theorem zero_bool (w : World) : (zeroValue 4).run Tryd.prog w = .ok (.bool false) w := by kernel_rfl
/-- block g is a map in which just the elements of l are true -/
def SeenAt {p : Nat} (w : World) (g n : Nat) (l : List (Fin p)) : Prop :=
  ∃ D : DataW Unit, w.ownsMap Tryd.prog 3 (plainElem Tryd.prog 4) g n D ∧ ∀ z : Fin p, D.atKey (.int .i64 (fv z)) (.lit (.bool false)) = .lit (.bool (decide (z ∈ l)))
theorem SeenAt.made {p : Nat} (w : World) : SeenAt (p := p) (w.alloc (.map #[] 0)) w.heap.size 0 [] := ⟨_, World.ownsMap_made w _ _ _, fun z => by simp [DataW.atKey]⟩
theorem plain_bool_inv {P : Program} {e : TypeId} (he : P.underlying e = some .bool) {v : Value} {z : DataW Unit × List MemPlace} (h : plainElem P e v = some z) : ∃ b, v = .bool b ∧ z.1 = .lit (.bool b) := by
  unfold plainElem at h
  rw [he] at h
  cases v <;> simp at h
  subst h
  exact ⟨_, rfl, rfl⟩
theorem look_bool {P : Program} {k e t : TypeId} {w : World} {g n : Nat} {D : DataW Unit} (h : w.ownsMap P k (plainElem P e) g n D) (K : Go.Maps.Keyed P k) (ht : P.underlying t = some (.map k e)) (he : P.underlying e = some .bool) (hz : (zeroValue e).run P w = .ok (.bool false) w)
    {key : Value} {kl : Lit} (hkey : keyOf P k key = some kl) {b : Bool} (hb : D.atKey kl (.lit (.bool false)) = .lit (.bool b)) : (Instr.lookup t (.map (some g)) key false).run P w = .ok (.bool b) w := by
  obtain ⟨v, ps, hrun, hv⟩ := h.lookup K ht hz (plainElem_bool he false) hkey
  obtain ⟨c, rfl, hc⟩ := plain_bool_inv he hv
  rw [hb] at hc
  injection hc with hc
  injection hc with hc
  rw [hrun, hc]
theorem wf_fv {p : Nat} (z : Fin p) (hp2 : p ≤ 2147483647) : (Lit.int .i64 (fv z)).wf = true := by
  have h := i64_fv z hp2
  simp [Lit.wf, IntKind.min, IntKind.max, IntKind.signed, IntKind.bits]
  exact ⟨h.1, h.2⟩
theorem SeenAt.look {p : Nat} (hp2 : p ≤ 2147483647) {w : World} {g n : Nat} {l : List (Fin p)} (h : SeenAt w g n l) (z : Fin p) :
    (Instr.lookup 54 (.map (some g)) (vi (fv z)) false).run Tryd.prog w = .ok (.bool (decide (z ∈ l))) w := by
  obtain ⟨D, h1, h2⟩ := h
  exact look_bool h1 keyed_int Tryd.underlying54 Tryd.underlying4 (zero_bool w) (Go.Maps.keyOf_int_mk Tryd.underlying3 (wf_fv z hp2)) (h2 z)
theorem SeenAt.put {p : Nat} {w : World} {g n : Nat} {l : List (Fin p)} {D : DataW Unit} (h1 : w.ownsMap Tryd.prog 3 (plainElem Tryd.prog 4) g n D) (h2 : ∀ z : Fin p, D.atKey (.int .i64 (fv z)) (.lit (.bool false)) = .lit (.bool (decide (z ∈ l)))) (z : Fin p) :
    ∀ y : Fin p, (D.put (.int .i64 (fv z)) (.lit (.bool true))).atKey (.int .i64 (fv y)) (.lit (.bool false)) = .lit (.bool (decide (y ∈ l ++ [z]))) := fun y => by
  by_cases he : y = z
  · subst he
    rw [Go.Maps.atKey_put_same h1.isMap (by trivial)]; simp
  · rw [Go.Maps.atKey_put_other (fun e => he (by injection e with _ e; exact (fv_inj e))), h2]
    simp [he]

theorem pfit_len (b : Nat) (A B : Option Addr) (na ca nb cb : Nat) (hne : ¬ na = nb) (hna : na < 9223372036854775808) (hnb : nb < 9223372036854775808) (w : World) :
    Calls Tryd.prog 12 #[.pointer (some ⟨b, 0, none⟩), .slice A na ca, .slice B nb cb] w fun e w' => e = .returned (.tuple #[.slice none 0 0, .iface 48 (.int .i64 2)]) ∧ w = w' := by
  have t1 : ((na : Int) != (nb : Int)) = true := by rw [bne_iff_ne]; omega
  clear hne
  go_enter Tryd.func12, Tryd.ntmps12
  go_wp2
  go_ret2
  exact ⟨rfl, rfl⟩

def SeenRel {p : Nat} (l : List (Fin p)) (na g : Nat) (w : World) (i : Value) (wr : World) : Prop := ∃ k : Nat, k ≤ na ∧ i = vi k ∧ SeenAt wr g k (l.take k) ∧ (l.take k).Nodup ∧ Below w.heap.size w wr
theorem nodup_snoc {p : Nat} {l : List (Fin p)} {z : Fin p} (h : l.Nodup) (hz : ¬ z ∈ l) : (l ++ [z]).Nodup := by
  rw [List.nodup_append]
  refine ⟨h, by simp, fun a ha b hb => ?_⟩
  rw [List.mem_singleton] at hb
  subst hb
  rintro rfl
  exact hz ha

set_option maxRecDepth 100000 in
set_option maxHeartbeats 4000000 in
theorem pfit_same (p : Nat) [NeZero p] (hp2 : p ≤ 2147483647) (b : Nat) (A B : Option Addr) (na ca cb : Nat) (xs : List Int) (hna : xs.length = na) (hxs : ∀ n ∈ xs, I64 n) (hr : na * 8 ≤ 140737488351232) (hnd : ¬ (els p xs).Nodup) (w : World) (hc : w.cell? ⟨b, 0, none⟩ = some (vi p)) (hsx : SL w A xs) :
    Calls Tryd.prog 12 #[.pointer (some ⟨b, 0, none⟩), .slice A na ca, .slice B na cb] w fun e w' => e = .returned (.tuple #[.slice none 0 0, .iface 48 (.int .i64 4)]) ∧ Below w.heap.size w w' := by
  have hbl : b < w.heap.size := block_lt_of_cell hc
  obtain ⟨l, hl⟩ : ∃ l, l = els p xs := ⟨_, rfl⟩
  rw [← hl] at hnd
  have hll : l.length = na := by rw [hl]; simp [hna]
  have hco : ∀ k (hk : k < xs.length) (hk' : k < l.length), l[k] = el p xs[k] := fun k hk hk' => by simp [hl]
  have HLL := Lib.hid hll
  have HCO := Lib.hid hco
  have HNA := Lib.hid hna
  have HND := Lib.hid hnd
  have hs0 := SeenAt.made (p := p) w
  have hmm := @run_makeMap Tryd.prog
  clear hl hll hna hco hnd
  go_enter Tryd.func12, Tryd.ntmps12
  go_wp2
  go_loopw [30] (fun i wr => SeenRel l na w.heap.size w i wr) (fun i _ => na - (intOf i).toNat)
  case atStart => exact ⟨0, Nat.zero_le _, rfl, hs0, by simp, (Below.refl _ _).alloc (Nat.le_refl _) _⟩
  case round =>
    obtain ⟨k, hk, rfl, hsn, hnd, hb⟩ := hrel
    by_cases hkn : k < na
    · have hkl : k < l.length := by rw [HLL.out]; exact hkn
      have hkx : k < xs.length := by rw [HNA.out]; exact hkn
      obtain ⟨ad, rfl, hab, hcell⟩ := (hsx.below hb).at_ hkx
      have hI := hxs _ (List.getElem_mem hkx)
      have hcr : wr.cell? ⟨b, 0, none⟩ = some (vi p) := (hb.cell (p := ⟨b, 0, none⟩) hbl).trans hc
      have hst : l.take (k + 1) = l.take k ++ [el p xs[k]] := by rw [List.take_succ_eq_append_getElem hkl, HCO.out k hkx hkl]
      have hof := fun W hcW => of_el p hp2 b xs[k] hI W hcW
      generalize xs[k] = x at hcell hI hst hof
      generalize el p x = z at hst hof
      have HOF := Lib.hid hof
      have HST := Lib.hid hst
      have HNDK := Lib.hid hnd
      clear hof hst hnd
      have i1 : (0 : Int) ≤ (k : Int) := by omega
      have i2 : (k : Int) < na := by omega
      by_cases hz : z ∈ l.take k
      · have hlk := hsn.look hp2 z
        rw [decide_eq_true hz] at hlk
        clear hz
        go_wp2_with fail
        refine (HOF.out _ hcr).mono ?_
        rintro e w' ⟨rfl, rfl⟩
        go_wp2
        go_ret2
        exact ⟨rfl, hb⟩
      · have hlk := hsn.look hp2 z
        rw [decide_eq_false hz] at hlk
        have HZ := Lib.hid hz
        obtain ⟨D, hD1, hD2⟩ := hsn
        have HPUT := Lib.hid (SeenAt.put hD1 hD2 z)
        clear hz hD2
        go_wp2_with fail
        refine (HOF.out _ hcr).mono ?_
        rintro e w' ⟨rfl, rfl⟩
        go_wp2_with fail
        refine (HOF.out _ hcr).mono ?_
        rintro e w' ⟨rfl, rfl⟩
        go_wp2_with (at_mapUpdate; refine wpList_mapUpdate_own _ rfl _ _ _ 54 rfl 3 4 keyed_int Tryd.underlying54 _ w.heap.size k _ rfl hD1 (by simp only [maxLen]; omega) _ _ _ rfl rfl (Go.Maps.keyOf_int_mk Tryd.underlying3 (wf_fv z hp2)) _ [] (plainElem_bool Tryd.underlying4 true) ?_; intro w1 hD3 hg1)
        have hs2 : SeenAt w1 w.heap.size (k + 1) (l.take (k + 1)) := by rw [HST.out]; exact ⟨_, hD3, HPUT.out⟩
        have hb2 : Below w.heap.size w w1 := hb.grown hg1 hb.size (fun j hj => by injection hj with hj; omega)
        go_roundw
        case rel => exact ⟨k + 1, by omega, by go_num, hs2, by rw [HST.out]; exact nodup_snoc HNDK.out HZ.out, hb2⟩
        case measure => simp [intOf]; omega
    · obtain rfl : k = na := by omega
      rw [List.take_of_length_le (by rw [HLL.out]; exact Nat.le_refl _)] at hnd
      exact absurd hnd HND.out
end Go.Proofs.YtiohededmcfhjaaDoor
