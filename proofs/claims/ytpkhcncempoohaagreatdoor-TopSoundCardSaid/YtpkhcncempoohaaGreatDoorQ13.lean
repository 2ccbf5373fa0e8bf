/- A bundle of texts: Zl, Zm, Lwa, Shc, Zn, Xa, Xb, Xc, Ha2. -/
import Derived.Test.YtpkhcncempoohaaGreatDoorQ12
import Derived.Deep.RegionLaw
import Derived.Test.YtpkhcncempoohaaGreatDoorQ06
import Derived.Maps.RangeWalk
import Derived.Test.YtpkhcncempoohaaGreatDoorQ11
import Derived.Test.YtpkhcncempoohaaGreatDoorChecked
import Derived.Shelf.SlSortCmp.NoneTotal
import Derived.Shelf.SlSortCmp.WholeK
import Derived.Shelf.SlicesG.Cmp
import Derived.Shelf.Abstract
import Derived.Test.YtpkhcncempoohaaGreatDoorQ08
import Derived.BigQuiet
set_option linter.unusedVariables false
set_option linter.unusedSimpArgs false
set_option linter.unusedSectionVars false
namespace Go.Proofs.YtpkhcncempoohaaGreatDoor
open Go.RowKit Zp
def onlyZ (A : Act) (W : World) : Exit → Act → World → Prop
  | .normal, a, w => w = W ∧ a = A
  | _, _, _ => False
theorem wp_fixedZ {P : Program} {c : Code} {Q : Exit → Act → World → Prop} {a : Act} {w : World} (A : Act) (W : World) (h : c.wp P (onlyZ A W) a w) (k : Q .normal A W) : c.wp P Q a w :=
  Code.wp_mono (fun e a' w' h => by
    cases e with
    | normal => obtain ⟨rfl, rfl⟩ := h; exact k
    | _ => exact h.elim) h
theorem IT.tn' {w w' : World} {A : Option Addr} {code : List InsI} (h : IT w A code) (hb : Below w.heap.size w w') : IT w' A code := h.below hb
def BegunIs {p : Nat} (R : RunR p) (b : Nat) (size : Int) (AI : Option Addr) (L cI : Nat) (w : World) (e : Ending) (w' : World) : Prop :=
  Below w.heap.size w w' ∧ ((R = .blank ∧ e = .returned (.tuple #[.pointer none, vi 0, .iface 64 (vi 10)])) ∨ ∃ v, R = .out v ∧ ∃ mB : Nat, e = .returned (.tuple #[.pointer (some ⟨mB, 0, none⟩), vi (fv v), .nilIface]) ∧
    ∃ (gm : Nat) (s : StM p) (n u : Nat) (SV : Value) (d : Nat), n ≤ 999999 ∧ Mac w' mB b gm n size AI L cI s u SV d ∧ w.heap.size ≤ mB ∧ w.heap.size ≤ gm)
def mem0 {p : Nat} [NeZero p] : Fin p → Option (Fin p) := fun x => if x = 0 then some 0 else none
section
variable {p : Nat} [NeZero p]
theorem mem0_map {w : World} {g n : Nat} {D : DataW Unit} (h : w.ownsMap Tryz.prog 3 (plainElem Tryz.prog 3) g n (D.put (.int .i64 (fv (0 : Fin p))) (.lit (.int .i64 (fv (0 : Fin p)))))) (hD : D = .map []) : MapM (p := p) w g n mem0 := by
  subst hD
  have hM : Go.Maps.IsMap (DataW.map [] : DataW Unit) := ⟨_, rfl⟩
  have hne : ∀ y : Fin p, y ≠ 0 → (Lit.int .i64 (fv y)) ≠ .int .i64 (fv (0 : Fin p)) := fun y hy e => hy (by injection e with _ e; exact fv_inj e)
  refine ⟨_, h, fun z => ?_, fun z v hv => ?_⟩
  · by_cases e : z = 0
    · subst e; rw [Go.Maps.has_put_same hM (by trivial)]; simp [mem0]
    · rw [Go.Maps.has_put_other (hne z e)]; simp [mem0, e]; rfl
  · by_cases e : z = 0
    · subst e
      simp [mem0] at hv
      rw [Go.Maps.atKey_put_same hM (by trivial), ← hv]
    · simp [mem0, e] at hv
set_option maxRecDepth 100000 in
set_option maxHeartbeats 4000000 in
theorem begun_any (hp1 : 2 ≤ p) (hp2 : p ≤ 2147483647) (b : Nat) (size : Int) (hs0 : 0 ≤ size) (hs1 : size ≤ 65536) (AI : Option Addr) (L cI : Nat) (code : List InsI) (hL : code.length = L) (hL1 : 1 ≤ L) (hL2 : L ≤ 4096) (hLp : L ≤ p) (limit : Nat) (hl : limit ≤ 16384) (R : RunR p) (hrun : runM code limit ⟨0, 1, 1 + el p size, 0, mem0⟩ = R) (hR : R = .blank ∨ ∃ v, R = .out v) (w : World) (hc : w.cell? ⟨b, 0, none⟩ = some (vi p)) (hIT : IT w AI code) :
    Calls Tryz.prog 37 #[.pointer (some ⟨b, 0, none⟩), .agg #[vi size, .slice AI L cI], vi limit] w (BegunIs R b size AI L cI w) := by
  have t1 : decide (size < 0) = false := decide_eq_false (by omega)
  have t2 : decide ((65536 : Int) < size) = false := decide_eq_false (by omega)
  have t3 : ((L : Int) == 0) = false := by simp only [beq_eq_false_iff_ne, ne_eq]; omega
  have t4 : decide ((4096 : Int) < (L : Int)) = false := decide_eq_false (by omega)
  have t5 : decide ((p : Int) < (L : Int)) = false := decide_eq_false (by omega)
  have t5' : decide (p < L) = false := decide_eq_false (by omega)
  have t6 : decide ((limit : Int) < 0) = false := decide_eq_false (by omega)
  have t7 : decide ((16384 : Int) < (limit : Int)) = false := decide_eq_false (by omega)
  have HR := Lib.hid (And.intro hrun (And.intro hR hL))
  have HIT := Lib.hid hIT
  have hcb := block_lt_of_cell hc
  have HC := Lib.hid hc
  have HP := Lib.hid (fun W (hW : Below w.heap.size w W) => p_any p b W ((hW.cell (block_lt_of_cell hc)).trans hc))
  obtain ⟨W4, hW4⟩ : ∃ W4, W4 = (((w.alloc (.cells #[vi size, .slice AI L cI] 24)).alloc (.cells #[.pointer none] 80)).alloc (.cells #[vi 0] 3)).alloc (.cells #[.nilIface] 36) := ⟨_, rfl⟩
  have hb4 : Below w.heap.size w W4 := by rw [hW4]; exact ((((Below.refl _ _).alloc (Nat.le_refl _) _).alloc (by simp) _).alloc (by simp; omega) _).alloc (by simp; omega) _
  have z1 : (w.alloc (.cells #[vi size, .slice AI L cI] 24)).heap.size = w.heap.size + 1 := by simp
  have z2 : ((w.alloc (.cells #[vi size, .slice AI L cI] 24)).alloc (.cells #[.pointer none] 80)).heap.size = w.heap.size + 1 + 1 := by simp
  have z3 : (((w.alloc (.cells #[vi size, .slice AI L cI] 24)).alloc (.cells #[.pointer none] 80)).alloc (.cells #[vi 0] 3)).heap.size = w.heap.size + 1 + 1 + 1 := by simp
  have k0 : Blk W4 w.heap.size 24 #[vi size, .slice AI L cI] := by rw [hW4]; exact (((Blk.new w _ _).alloc _).alloc _).alloc _
  have k6 : Blk W4 (w.heap.size + 1) 80 #[.pointer none] := by rw [hW4, ← z1]; exact ((Blk.new _ _ _).alloc _).alloc _
  have k7 : Blk W4 (w.heap.size + 1 + 1) 3 #[vi 0] := by rw [hW4, ← z2]; exact (Blk.new _ _ _).alloc _
  have k8 : Blk W4 (w.heap.size + 1 + 1 + 1) 36 #[.nilIface] := by rw [hW4, ← z3]; exact Blk.new _ _ _
  obtain ⟨g8, hg8⟩ : ∃ g8, g8 = w.heap.size + 1 + 1 + 1 := ⟨_, rfl⟩
  obtain ⟨g7, hg7⟩ : ∃ g7, g7 = w.heap.size + 1 + 1 := ⟨_, rfl⟩
  obtain ⟨g6, hg6⟩ : ∃ g6, g6 = w.heap.size + 1 := ⟨_, rfl⟩
  obtain ⟨g0, hg0⟩ : ∃ g0, g0 = w.heap.size := ⟨_, rfl⟩
  rw [← hg8] at k8
  rw [← hg7] at k7
  rw [← hg6] at k6
  rw [← hg0] at k0
  have HB4 := Lib.hid hb4
  have HW4 := Lib.hid hW4
  have K0 := Lib.hid k0
  have K6 := Lib.hid k6
  have K7 := Lib.hid k7
  have K8 := Lib.hid k8
  have HG := Lib.hid (And.intro hg0 (And.intro hg6 (And.intro hg7 hg8)))
  have x0 := (k0.cell 0).trans (show _ = some (vi size) from rfl)
  have x1 := (k0.cell 1).trans (show _ = some (.slice AI L cI) from rfl)
  have y6 := (k6.cell 0).trans (show _ = some (.pointer none) from rfl)
  have u6 := k6.frozen 0
  clear hrun hR hL hIT hc hcb hb4 hW4 k0 k6 k7 k8 z1 z2 z3 hg0 hg6 hg7 hg8
  go_enter_defers Tryz.func37, Tryz.ntmps37
  go_upto_region 1 with (fail)
  rw [← HW4.out, ← HG.out.2.2.2, ← HG.out.2.2.1, ← HG.out.2.1, ← HG.out.1]
  go_wp2_with fail
  refine (HP.out _ HB4.out).mono ?_
  rintro _ _ ⟨rfl, rfl⟩
  go_wp2
  have KQ : Hid (∀ X W, ¬ g0 ∈ X → Tn X W4 W → W.cell? ⟨g0, 0, none⟩ = some (vi size) ∧ W.cell? ⟨g0, 1, none⟩ = some (.slice AI L cI)) := Lib.hid fun X W hx hW => ⟨hW.cell x0 hx, hW.cell x1 hx⟩
  have hmm := @run_makeMap Tryz.prog
  obtain ⟨W5, hins, hW5, hg5⟩ := ((World.ownsMap_made (H := Unit) W4 Tryz.prog 3 (plainElem Tryz.prog 3)).drew).update (t := 83) (e := 3) keyed_i Tryz.underlying83 (by simp [maxLen]) (Go.Maps.keyOf_int_mk Tryz.underlying3 (wf_fvi (0 : Fin p) hp2)) (plainElem_int Tryz.underlying3 (wf_fvi (0 : Fin p) hp2))
  rw [fv_zero] at hins
  have c1s : IntKind.i64.wrap (1 + size) = 1 + size := IntWalk.i64_in _ (by constructor <;> omega)
  have i1s : I64 (1 + size) := by constructor <;> omega
  have i1 : I64 1 := by constructor <;> omega
  have HO := Lib.hid (fun W (hW : Below w.heap.size w W) x (hx : I64 x) => (of_el p hp2 b x hx W ((hW.cell (block_lt_of_cell HC.out)).trans HC.out)).mono fun e w' h => (⟨h.1, h.2.symm⟩ : e = .returned (vi (fv (el p x))) ∧ W = w'))
  have HM5 := Lib.hid (And.intro (mem0_map (p := p) (by rw [fv_zero] at hW5 ⊢; exact hW5) rfl) hg5)
  have hT5 : Tn [] W4 W5 := (((Tn.refl [] W4).alloc _).drew).grown hg5 (fun k hk => by injection hk with hk; exact .inr (by omega))
  have HT5 := Lib.hid hT5
  have HBX := Lib.hid (fun W (hW : Tn [] W4 W) => HB4.out.trans ((hW.below (B := w.heap.size) (by simp) HB4.out.size)))
  clear hW5 hg5 hT5
  have v6 : W5.cell? ⟨g6, 0, none⟩ = some (.pointer none) := HT5.out.cell y6 (by simp)
  have m6 : ¬ g6 = W5.heap.size := fun e => by have := block_lt_of_cell v6; simp only at this; omega
  have w6 : W5.frozen? ⟨g6, 0, none⟩ = false := (K6.out.tn HT5.out (by simp)).frozen 0
  have b0 : ∀ o, (W4.alloc o).cell? ⟨g0, 0, none⟩ = some (vi size) := fun o => ((Tn.refl [] W4).alloc o).cell x0 (by simp)
  have b1 : ∀ o, (W4.alloc o).cell? ⟨g0, 1, none⟩ = some (.slice AI L cI) := fun o => ((Tn.refl [] W4).alloc o).cell x1 (by simp)
  have a6 : ∀ o, (W5.alloc o).cell? ⟨g6, 0, none⟩ = some (.pointer none) := fun o => (((Tn.refl [] W5).alloc o).cell v6 (by simp))
  have a6' : ∀ o, (W5.alloc o).frozen? ⟨g6, 0, none⟩ = false := fun o => (((K6.out.tn HT5.out (by simp)).alloc o).frozen 0)
  have z0 : W5.cell? ⟨g0, 0, none⟩ = some (vi size) := HT5.out.cell x0 (by simp)
  have z1 : W5.cell? ⟨g0, 1, none⟩ = some (.slice AI L cI) := HT5.out.cell x1 (by simp)
  have n0 : ¬ g0 = W4.heap.size := fun e => by have := block_lt_of_cell x0; simp only at this; omega
  have n06 : ¬ g0 = g6 := by have := HG.out; omega
  clear x0 x1 y6 u6 z0 z1 b0 b1 w6
  refine' wp_fixedZ _ ((W5.alloc (.cells (macCs (p := p) b size AI L cI W4.heap.size ⟨0, el p 1, el p (1 + size), 0, mem0⟩ 0 0 0 0 0 0 0 (.slice none 0 0) 0) 87)).setCell ⟨g6, 0, none⟩ (.pointer (some ⟨W5.heap.size, 0, none⟩))) ?reg ?next
  case reg =>
    refine wp_region_held_drew (S := fun W => W.cell? ⟨g0, 0, none⟩ = some (vi size) ∧ W.cell? ⟨g0, 1, none⟩ = some (.slice AI L cI)) (by kernel_rfl) (KQ.out [] _ (by simp) ((Tn.refl [] W4).drew)) (fun hHeld => ?_)
    refine tkH 0 ?_
    refine tkH 1 ?_
    refine tkH 5 ?_
    refine tkH 7 ?_
    refine tkH 8 ?_
    refine tkH 9 ?_
    refine tkH 10 ?_
    refine wpAnyH_ready (rs := [2,6]) (by kernel_rfl) (by simp) (AllReadyH.cons rfl (fun K hK => ?_) (AllReadyH.cons rfl (fun K hK => ?_) AllReadyH.nil))
    · have _tk := hHeld
      go_simp
      refine hK.out _ _ (KQ.out [] _ (by simp) (by repeat (first | exact Tn.refl _ _ | exact HT5.out | with_reducible apply Tn.alloc | with_reducible apply Tn.drew | with_reducible apply Tn.drewN))) (fun hHeld => ?_)
      clear hK K
      (try simp only [Act.put, List.setIfInBounds_toArray, List.set_cons_zero, List.set_cons_succ])
      refine wpAnyH_ready (rs := [3,6]) (by kernel_rfl) (by simp) (AllReadyH.cons rfl (fun K hK => ?_) (AllReadyH.cons rfl (fun K hK => ?_) AllReadyH.nil))
      · have _tk := hHeld
        go_simp
        refine hK.out _ _ (KQ.out [] _ (by simp) HT5.out) (fun hHeld => ?_)
        clear hK K
        (try simp only [Act.put, List.setIfInBounds_toArray, List.set_cons_zero, List.set_cons_succ])
        refine tkH 4 ?_
        refine wpAnyH_ready (rs := [6]) (by kernel_rfl) (by simp) (AllReadyH.cons rfl (fun K hK => ?_) AllReadyH.nil)
        go_simp
        refine (HO.out _ (by refine HBX.out _ ?_; repeat (first | exact Tn.refl _ _ | exact HT5.out | with_reducible apply Tn.alloc | with_reducible apply Tn.drew | with_reducible apply Tn.drewN)) _ (by assumption)).mono ?_
        rintro _ _ ⟨rfl, rfl⟩
        refine hK.out _ _ (KQ.out [] _ (by simp) (by repeat (first | exact Tn.refl _ _ | exact HT5.out | with_reducible apply Tn.alloc | with_reducible apply Tn.drew | with_reducible apply Tn.drewN))) (fun hHeld => ?_)
        clear hK K
        (try simp only [Act.put, List.setIfInBounds_toArray, List.set_cons_zero, List.set_cons_succ])
        refine wpAnyH_ready (rs := [11]) (by kernel_rfl) (by simp) (AllReadyH.cons rfl (fun K hK => ?_) AllReadyH.nil)
        go_simp
        refine (HO.out _ (by refine HBX.out _ ?_; repeat (first | exact Tn.refl _ _ | exact HT5.out | with_reducible apply Tn.alloc | with_reducible apply Tn.drew | with_reducible apply Tn.drewN)) _ (by assumption)).mono ?_
        rintro _ _ ⟨rfl, rfl⟩
        refine hK.out _ _ (KQ.out [] _ (by simp) (by repeat (first | exact Tn.refl _ _ | exact HT5.out | with_reducible apply Tn.alloc | with_reducible apply Tn.drew | with_reducible apply Tn.drewN))) (fun hHeld => ?_)
        clear hK K
        (try simp only [Act.put, List.setIfInBounds_toArray, List.set_cons_zero, List.set_cons_succ])
        refine tkH 12 ?_
        refine stH 13 (fun K hK => ?_)
        go_simp
        refine hK.out _ _ (KQ.out [] _ (by simp) (by repeat (first | exact Tn.refl _ _ | exact HT5.out | with_reducible apply Tn.alloc | with_reducible apply Tn.drew | with_reducible apply Tn.drewN))) (fun hHeld => ?_)
        clear hK K
        (try simp only [Act.put, List.setIfInBounds_toArray, List.set_cons_zero, List.set_cons_succ])
        refine stH 14 (fun K hK => ?_)
        go_simp
        refine hK.out _ _ (KQ.out [g6] _ (by simp; exact n06) (((HT5.out.more (by simp)).alloc _).setCell (.inl (by simp)) _)) (fun hHeld => ?_)
        clear hK K
        (try simp only [Act.put, List.setIfInBounds_toArray, List.set_cons_zero, List.set_cons_succ])
        refine wpAnyH_done (by kernel_rfl) ?_ _
        refine And.intro ?_ ?_
        rotate_left
        exact Eq.refl _
        exact rfl
      · have _tk := hHeld
        go_simp
        refine (HO.out _ (by refine HBX.out _ ?_; repeat (first | exact Tn.refl _ _ | exact HT5.out | with_reducible apply Tn.alloc | with_reducible apply Tn.drew | with_reducible apply Tn.drewN)) _ (by assumption)).mono ?_
        rintro _ _ ⟨rfl, rfl⟩
        refine hK.out _ _ (KQ.out [] _ (by simp) (by repeat (first | exact Tn.refl _ _ | exact HT5.out | with_reducible apply Tn.alloc | with_reducible apply Tn.drew | with_reducible apply Tn.drewN))) (fun hHeld => ?_)
        clear hK K
        (try simp only [Act.put, List.setIfInBounds_toArray, List.set_cons_zero, List.set_cons_succ])
        refine wpAnyH_ready (rs := [3,11]) (by kernel_rfl) (by simp) (AllReadyH.cons rfl (fun K hK => ?_) (AllReadyH.cons rfl (fun K hK => ?_) AllReadyH.nil))
        · have _tk := hHeld
          go_simp
          refine hK.out _ _ (KQ.out [] _ (by simp) HT5.out) (fun hHeld => ?_)
          clear hK K
          (try simp only [Act.put, List.setIfInBounds_toArray, List.set_cons_zero, List.set_cons_succ])
          refine tkH 4 ?_
          refine wpAnyH_ready (rs := [11]) (by kernel_rfl) (by simp) (AllReadyH.cons rfl (fun K hK => ?_) AllReadyH.nil)
          go_simp
          refine (HO.out _ (by refine HBX.out _ ?_; repeat (first | exact Tn.refl _ _ | exact HT5.out | with_reducible apply Tn.alloc | with_reducible apply Tn.drew | with_reducible apply Tn.drewN)) _ (by assumption)).mono ?_
          rintro _ _ ⟨rfl, rfl⟩
          refine hK.out _ _ (KQ.out [] _ (by simp) (by repeat (first | exact Tn.refl _ _ | exact HT5.out | with_reducible apply Tn.alloc | with_reducible apply Tn.drew | with_reducible apply Tn.drewN))) (fun hHeld => ?_)
          clear hK K
          (try simp only [Act.put, List.setIfInBounds_toArray, List.set_cons_zero, List.set_cons_succ])
          refine tkH 12 ?_
          refine stH 13 (fun K hK => ?_)
          go_simp
          refine hK.out _ _ (KQ.out [] _ (by simp) (by repeat (first | exact Tn.refl _ _ | exact HT5.out | with_reducible apply Tn.alloc | with_reducible apply Tn.drew | with_reducible apply Tn.drewN))) (fun hHeld => ?_)
          clear hK K
          (try simp only [Act.put, List.setIfInBounds_toArray, List.set_cons_zero, List.set_cons_succ])
          refine stH 14 (fun K hK => ?_)
          go_simp
          refine hK.out _ _ (KQ.out [g6] _ (by simp; exact n06) (((HT5.out.more (by simp)).alloc _).setCell (.inl (by simp)) _)) (fun hHeld => ?_)
          clear hK K
          (try simp only [Act.put, List.setIfInBounds_toArray, List.set_cons_zero, List.set_cons_succ])
          refine wpAnyH_done (by kernel_rfl) ?_ _
          refine And.intro ?_ ?_
          rotate_left
          exact Eq.refl _
          exact rfl
        · have _tk := hHeld
          go_simp
          refine (HO.out _ (by refine HBX.out _ ?_; repeat (first | exact Tn.refl _ _ | exact HT5.out | with_reducible apply Tn.alloc | with_reducible apply Tn.drew | with_reducible apply Tn.drewN)) _ (by assumption)).mono ?_
          rintro _ _ ⟨rfl, rfl⟩
          refine hK.out _ _ (KQ.out [] _ (by simp) (by repeat (first | exact Tn.refl _ _ | exact HT5.out | with_reducible apply Tn.alloc | with_reducible apply Tn.drew | with_reducible apply Tn.drewN))) (fun hHeld => ?_)
          clear hK K
          (try simp only [Act.put, List.setIfInBounds_toArray, List.set_cons_zero, List.set_cons_succ])
          refine wpAnyH_ready (rs := [3]) (by kernel_rfl) (by simp) (AllReadyH.cons rfl (fun K hK => ?_) AllReadyH.nil)
          go_simp
          refine hK.out _ _ (KQ.out [] _ (by simp) HT5.out) (fun hHeld => ?_)
          clear hK K
          (try simp only [Act.put, List.setIfInBounds_toArray, List.set_cons_zero, List.set_cons_succ])
          refine tkH 4 ?_
          refine tkH 12 ?_
          refine stH 13 (fun K hK => ?_)
          go_simp
          refine hK.out _ _ (KQ.out [] _ (by simp) (by repeat (first | exact Tn.refl _ _ | exact HT5.out | with_reducible apply Tn.alloc | with_reducible apply Tn.drew | with_reducible apply Tn.drewN))) (fun hHeld => ?_)
          clear hK K
          (try simp only [Act.put, List.setIfInBounds_toArray, List.set_cons_zero, List.set_cons_succ])
          refine stH 14 (fun K hK => ?_)
          go_simp
          refine hK.out _ _ (KQ.out [g6] _ (by simp; exact n06) (((HT5.out.more (by simp)).alloc _).setCell (.inl (by simp)) _)) (fun hHeld => ?_)
          clear hK K
          (try simp only [Act.put, List.setIfInBounds_toArray, List.set_cons_zero, List.set_cons_succ])
          refine wpAnyH_done (by kernel_rfl) ?_ _
          refine And.intro ?_ ?_
          rotate_left
          exact Eq.refl _
          exact rfl
    · have _tk := hHeld
      go_simp
      refine (HO.out _ (by refine HBX.out _ ?_; repeat (first | exact Tn.refl _ _ | exact HT5.out | with_reducible apply Tn.alloc | with_reducible apply Tn.drew | with_reducible apply Tn.drewN)) _ (by assumption)).mono ?_
      rintro _ _ ⟨rfl, rfl⟩
      refine hK.out _ _ (KQ.out [] _ (by simp) (by repeat (first | exact Tn.refl _ _ | exact HT5.out | with_reducible apply Tn.alloc | with_reducible apply Tn.drew | with_reducible apply Tn.drewN))) (fun hHeld => ?_)
      clear hK K
      (try simp only [Act.put, List.setIfInBounds_toArray, List.set_cons_zero, List.set_cons_succ])
      refine wpAnyH_ready (rs := [2,11]) (by kernel_rfl) (by simp) (AllReadyH.cons rfl (fun K hK => ?_) (AllReadyH.cons rfl (fun K hK => ?_) AllReadyH.nil))
      · have _tk := hHeld
        go_simp
        refine hK.out _ _ (KQ.out [] _ (by simp) (by repeat (first | exact Tn.refl _ _ | exact HT5.out | with_reducible apply Tn.alloc | with_reducible apply Tn.drew | with_reducible apply Tn.drewN))) (fun hHeld => ?_)
        clear hK K
        (try simp only [Act.put, List.setIfInBounds_toArray, List.set_cons_zero, List.set_cons_succ])
        refine wpAnyH_ready (rs := [3,11]) (by kernel_rfl) (by simp) (AllReadyH.cons rfl (fun K hK => ?_) (AllReadyH.cons rfl (fun K hK => ?_) AllReadyH.nil))
        · have _tk := hHeld
          go_simp
          refine hK.out _ _ (KQ.out [] _ (by simp) HT5.out) (fun hHeld => ?_)
          clear hK K
          (try simp only [Act.put, List.setIfInBounds_toArray, List.set_cons_zero, List.set_cons_succ])
          refine tkH 4 ?_
          refine wpAnyH_ready (rs := [11]) (by kernel_rfl) (by simp) (AllReadyH.cons rfl (fun K hK => ?_) AllReadyH.nil)
          go_simp
          refine (HO.out _ (by refine HBX.out _ ?_; repeat (first | exact Tn.refl _ _ | exact HT5.out | with_reducible apply Tn.alloc | with_reducible apply Tn.drew | with_reducible apply Tn.drewN)) _ (by assumption)).mono ?_
          rintro _ _ ⟨rfl, rfl⟩
          refine hK.out _ _ (KQ.out [] _ (by simp) (by repeat (first | exact Tn.refl _ _ | exact HT5.out | with_reducible apply Tn.alloc | with_reducible apply Tn.drew | with_reducible apply Tn.drewN))) (fun hHeld => ?_)
          clear hK K
          (try simp only [Act.put, List.setIfInBounds_toArray, List.set_cons_zero, List.set_cons_succ])
          refine tkH 12 ?_
          refine stH 13 (fun K hK => ?_)
          go_simp
          refine hK.out _ _ (KQ.out [] _ (by simp) (by repeat (first | exact Tn.refl _ _ | exact HT5.out | with_reducible apply Tn.alloc | with_reducible apply Tn.drew | with_reducible apply Tn.drewN))) (fun hHeld => ?_)
          clear hK K
          (try simp only [Act.put, List.setIfInBounds_toArray, List.set_cons_zero, List.set_cons_succ])
          refine stH 14 (fun K hK => ?_)
          go_simp
          refine hK.out _ _ (KQ.out [g6] _ (by simp; exact n06) (((HT5.out.more (by simp)).alloc _).setCell (.inl (by simp)) _)) (fun hHeld => ?_)
          clear hK K
          (try simp only [Act.put, List.setIfInBounds_toArray, List.set_cons_zero, List.set_cons_succ])
          refine wpAnyH_done (by kernel_rfl) ?_ _
          refine And.intro ?_ ?_
          rotate_left
          exact Eq.refl _
          exact rfl
        · have _tk := hHeld
          go_simp
          refine (HO.out _ (by refine HBX.out _ ?_; repeat (first | exact Tn.refl _ _ | exact HT5.out | with_reducible apply Tn.alloc | with_reducible apply Tn.drew | with_reducible apply Tn.drewN)) _ (by assumption)).mono ?_
          rintro _ _ ⟨rfl, rfl⟩
          refine hK.out _ _ (KQ.out [] _ (by simp) (by repeat (first | exact Tn.refl _ _ | exact HT5.out | with_reducible apply Tn.alloc | with_reducible apply Tn.drew | with_reducible apply Tn.drewN))) (fun hHeld => ?_)
          clear hK K
          (try simp only [Act.put, List.setIfInBounds_toArray, List.set_cons_zero, List.set_cons_succ])
          refine wpAnyH_ready (rs := [3]) (by kernel_rfl) (by simp) (AllReadyH.cons rfl (fun K hK => ?_) AllReadyH.nil)
          go_simp
          refine hK.out _ _ (KQ.out [] _ (by simp) HT5.out) (fun hHeld => ?_)
          clear hK K
          (try simp only [Act.put, List.setIfInBounds_toArray, List.set_cons_zero, List.set_cons_succ])
          refine tkH 4 ?_
          refine tkH 12 ?_
          refine stH 13 (fun K hK => ?_)
          go_simp
          refine hK.out _ _ (KQ.out [] _ (by simp) (by repeat (first | exact Tn.refl _ _ | exact HT5.out | with_reducible apply Tn.alloc | with_reducible apply Tn.drew | with_reducible apply Tn.drewN))) (fun hHeld => ?_)
          clear hK K
          (try simp only [Act.put, List.setIfInBounds_toArray, List.set_cons_zero, List.set_cons_succ])
          refine stH 14 (fun K hK => ?_)
          go_simp
          refine hK.out _ _ (KQ.out [g6] _ (by simp; exact n06) (((HT5.out.more (by simp)).alloc _).setCell (.inl (by simp)) _)) (fun hHeld => ?_)
          clear hK K
          (try simp only [Act.put, List.setIfInBounds_toArray, List.set_cons_zero, List.set_cons_succ])
          refine wpAnyH_done (by kernel_rfl) ?_ _
          refine And.intro ?_ ?_
          rotate_left
          exact Eq.refl _
          exact rfl
      · have _tk := hHeld
        go_simp
        refine (HO.out _ (by refine HBX.out _ ?_; repeat (first | exact Tn.refl _ _ | exact HT5.out | with_reducible apply Tn.alloc | with_reducible apply Tn.drew | with_reducible apply Tn.drewN)) _ (by assumption)).mono ?_
        rintro _ _ ⟨rfl, rfl⟩
        refine hK.out _ _ (KQ.out [] _ (by simp) (by repeat (first | exact Tn.refl _ _ | exact HT5.out | with_reducible apply Tn.alloc | with_reducible apply Tn.drew | with_reducible apply Tn.drewN))) (fun hHeld => ?_)
        clear hK K
        (try simp only [Act.put, List.setIfInBounds_toArray, List.set_cons_zero, List.set_cons_succ])
        refine wpAnyH_ready (rs := [2]) (by kernel_rfl) (by simp) (AllReadyH.cons rfl (fun K hK => ?_) AllReadyH.nil)
        go_simp
        refine hK.out _ _ (KQ.out [] _ (by simp) (by repeat (first | exact Tn.refl _ _ | exact HT5.out | with_reducible apply Tn.alloc | with_reducible apply Tn.drew | with_reducible apply Tn.drewN))) (fun hHeld => ?_)
        clear hK K
        (try simp only [Act.put, List.setIfInBounds_toArray, List.set_cons_zero, List.set_cons_succ])
        refine wpAnyH_ready (rs := [3]) (by kernel_rfl) (by simp) (AllReadyH.cons rfl (fun K hK => ?_) AllReadyH.nil)
        go_simp
        refine hK.out _ _ (KQ.out [] _ (by simp) HT5.out) (fun hHeld => ?_)
        clear hK K
        (try simp only [Act.put, List.setIfInBounds_toArray, List.set_cons_zero, List.set_cons_succ])
        refine tkH 4 ?_
        refine tkH 12 ?_
        refine stH 13 (fun K hK => ?_)
        go_simp
        refine hK.out _ _ (KQ.out [] _ (by simp) (by repeat (first | exact Tn.refl _ _ | exact HT5.out | with_reducible apply Tn.alloc | with_reducible apply Tn.drew | with_reducible apply Tn.drewN))) (fun hHeld => ?_)
        clear hK K
        (try simp only [Act.put, List.setIfInBounds_toArray, List.set_cons_zero, List.set_cons_succ])
        refine stH 14 (fun K hK => ?_)
        go_simp
        refine hK.out _ _ (KQ.out [g6] _ (by simp; exact n06) (((HT5.out.more (by simp)).alloc _).setCell (.inl (by simp)) _)) (fun hHeld => ?_)
        clear hK K
        (try simp only [Act.put, List.setIfInBounds_toArray, List.set_cons_zero, List.set_cons_succ])
        refine wpAnyH_done (by kernel_rfl) ?_ _
        refine And.intro ?_ ?_
        rotate_left
        exact Eq.refl _
        exact rfl
  case next =>
    obtain ⟨W6, hW6⟩ : ∃ W6, W6 = (W5.alloc (.cells (macCs (p := p) b size AI L cI W4.heap.size ⟨0, el p 1, el p (1 + size), 0, mem0⟩ 0 0 0 0 0 0 0 (.slice none 0 0) 0) 87)).setCell ⟨g6, 0, none⟩ (.pointer (some ⟨W5.heap.size, 0, none⟩)) := ⟨_, rfl⟩
    rw [← hW6]
    have hT6 : Tn [g6] W4 W6 := by rw [hW6]; exact ((HT5.out.more (by simp)).alloc _).setCell (.inl (by simp)) _
    have hB6 : Blk W6 W5.heap.size 87 (macCs (p := p) b size AI L cI W4.heap.size ⟨0, 1, 1 + el p size, 0, mem0⟩ 0 0 0 0 0 0 0 (.slice none 0 0) 0) := by
      have e1 : el p 1 = 1 := el_one
      have e2 : el p (1 + size) = 1 + el p size := by rw [el_add, el_one]
      rw [hW6, e1, e2]
      exact (Blk.new W5 _ _).far (p := ⟨g6, 0, none⟩) (fun e => m6 e.symm) _
    have hP6 : Blk W6 g6 80 #[.pointer (some ⟨W5.heap.size, 0, none⟩)] := by
      rw [hW6]
      exact ((K6.out.tn HT5.out (by simp)).alloc _).set_ 0 _
    have hM6 : MapM W6 W4.heap.size 1 (mem0 (p := p)) := HM5.out.1.block (by
      have h1 : Tn [g6] W5 W6 := by rw [hW6]; exact (((Tn.refl _ _).alloc _).setCell (.inl (by simp)) _)
      exact h1.block _ HM5.out.1.lt (by simp; exact fun e => by have := K6.out.lt; omega))
    obtain ⟨mB, hmB⟩ : ∃ mB, mB = W5.heap.size := ⟨_, rfl⟩
    obtain ⟨gm, hgm⟩ : ∃ gm, gm = W4.heap.size := ⟨_, rfl⟩
    rw [← hmB] at hB6 hP6
    rw [← hgm] at hB6 hM6
    have hlt : gm < mB := by rw [hmB]; have := HM5.out.1.lt; omega
    have hbw : b < w.heap.size := block_lt_of_cell HC.out
    have h46 := HB4.out.size
    have HBW6 := Lib.hid (HB4.out.trans (hT6.below (B := w.heap.size) (by simp; have := HG.out; omega) h46))
    have hMac : Mac W6 mB b gm 1 size AI L cI (⟨0, 1, 1 + el p size, 0, mem0⟩ : StM p) 0 (.slice none 0 0) 0 :=
      ⟨⟨0, 0, 0, 0, 0, 0, by refine ⟨?_, ?_, ?_⟩ <;> constructor <;> omega, hB6⟩, hM6, by omega, (HBW6.out.cell (block_lt_of_cell HC.out)).trans HC.out, by omega, by omega⟩
    have hK7 := K7.out.tn hT6 (by simp; have := HG.out; omega)
    have hK8 := K8.out.tn hT6 (by simp; have := HG.out; omega)
    have HMC := Lib.hid hMac
    have HP6 := Lib.hid hP6
    have HK7 := Lib.hid hK7
    have HK8 := Lib.hid hK8
    have HL := Lib.hid (And.intro hmB (And.intro hgm hlt))
    have hsz : W6.heap.size = W5.heap.size + 1 := by rw [hW6]; simp [World.setCell]
    have c6 := (hP6.cell 0).trans (show _ = some (.pointer (some ⟨mB, 0, none⟩)) from rfl)
    have hmf : ∀ (fn : Fn) (first cap : Array Value) (w : World), (Instr.makeFunc fn first cap).run Tryz.prog w = .ok (.func fn first cap) w := fun _ _ _ _ => rfl
    have HRUN := Lib.hid (run_any hp1 hp2 code HR.out.2.2 limit hl R HR.out.1 HR.out.2.1 0 W6 (by omega) hMac (fun W hW => HIT.out.tn' (HBW6.out.trans (hW.below (B := w.heap.size) (by simp; omega) HBW6.out.size))))
    clear hW6 hT6 hB6 hP6 hM6 hMac hK7 hK8 hsz hmB hgm hlt hbw h46
    go_wp2_with fail
    refine HRUN.out.mono ?_
    rintro _ W7 ⟨hT7, hcase⟩
    have hg := HG.out
    have hl := HL.out
    have h46 := HT5.out.size
    have hg4 := K8.out.lt
    have i6 : ¬ g6 ∈ [mB, gm] := by simp; omega
    have i7 : ¬ g7 ∈ [mB, gm] := by simp; omega
    have i8 : ¬ g8 ∈ [mB, gm] := by simp; omega
    have p6 := HP6.out.tn hT7 i6
    have p7 := HK7.out.tn hT7 i7
    have p8 := HK8.out.tn hT7 i8
    have HB7 := Lib.hid (HBW6.out.trans (hT7.below (B := w.heap.size) (by simp; omega) HBW6.out.size))
    have HT7 := Lib.hid hT7
    have HI := Lib.hid (And.intro i6 (And.intro i7 i8))
    have HPP := Lib.hid (And.intro p6 (And.intro p7 p8))
    clear hT7 hg hl h46 hg4 i6 i7 i8 c6
    rcases hcase with ⟨hr, rfl⟩ | ⟨v, hr, rfl, s', n', u', SV, d', hn', hM7⟩
    · clear p6 p7 p8
      have HRR := Lib.hid hr
      clear hr
      refine leaves_cons (f := 71) (args := #[.pointer (some ⟨g6, 0, none⟩), .pointer (some ⟨g7, 0, none⟩), .pointer (some ⟨g8, 0, none⟩)]) (by simp) (by simp [go_sem]) ?_
      refine (begun_panic g6 g7 g8 _ _ _ 10 W7 HPP.out.1 HPP.out.2.1 HPP.out.2.2).mono ?_
      rintro e u' w'' ⟨rfl, rfl, b6, b7, b8, tn⟩
      have e6 := (b6.cell 0).trans (show _ = some (.pointer none) from rfl)
      have e7 := (b7.cell 0).trans (show _ = some (vi 0) from rfl)
      have e8 := (b8.cell 0).trans (show _ = some (.iface 64 (vi 10)) from rfl)
      simp [Leaves, settle, results, Tryz.results37, go_sem, e6, e7, e8]
      exact ⟨HB7.out.trans (tn.below (B := w.heap.size) (by have := HG.out; simp; omega) HB7.out.size), .inl ⟨HRR.out, rfl⟩⟩
    · have HM7 := Lib.hid hM7
      have HRR := Lib.hid (And.intro hr hn')
      clear hr hM7 hn'
      have c7 := (p7.cell 0).trans (show _ = some (vi 0) from rfl)
      have f7 := p7.frozen 0
      clear p6 p7 p8
      go_upto_region 9 with (fail)
      obtain ⟨W8, hW8⟩ : ∃ W8, W8 = W7.setCell ⟨g7, 0, none⟩ (vi (fv v)) := ⟨_, rfl⟩
      rw [← hW8]
      have n67 : ¬ g6 = g7 := by have := HG.out; omega
      have n68 : ¬ g6 = g8 := by have := HG.out; omega
      have n78 : ¬ g7 = g8 := by have := HG.out; omega
      have n76 : ¬ g7 = g6 := by have := HG.out; omega
      have n86 : ¬ g8 = g6 := by have := HG.out; omega
      have n87 : ¬ g8 = g7 := by have := HG.out; omega
      have q6 : Blk W8 g6 80 #[.pointer (some ⟨mB, 0, none⟩)] := by rw [hW8]; exact HPP.out.1.far (p := ⟨g7, 0, none⟩) n67 _
      have q7 : Blk W8 g7 3 #[vi (fv v)] := by rw [hW8]; exact HPP.out.2.1.set_ 0 _
      have q8 : Blk W8 g8 36 #[.nilIface] := by rw [hW8]; exact HPP.out.2.2.far (p := ⟨g7, 0, none⟩) n87 _
      have hT8 : Tn [g7] W7 W8 := by rw [hW8]; exact (Tn.refl _ _).setCell (.inl (by simp)) _
      have d6 := (q6.cell 0).trans (show _ = some (.pointer (some ⟨mB, 0, none⟩)) from rfl)
      have d7 := (q7.cell 0).trans (show _ = some (vi (fv v)) from rfl)
      have d8 := (q8.cell 0).trans (show _ = some .nilIface from rfl)
      have h6 := q6.frozen 0
      have h7 := q7.frozen 0
      have h8 := q8.frozen 0
      have HQ8 := Lib.hid (And.intro q6 (And.intro q7 q8))
      have HT8 := Lib.hid hT8
      clear c7 f7 hW8 q6 q7 q8 hT8
      go_region
      obtain ⟨W9, hW9⟩ : ∃ W9, W9 = (((W8.setCell ⟨g6, 0, none⟩ (.pointer (some ⟨mB, 0, none⟩))).setCell ⟨g7, 0, none⟩ (vi (fv v))).setCell ⟨g8, 0, none⟩ .nilIface).drew := ⟨_, rfl⟩
      rw [← hW9]
      have e6 : W9.cell? ⟨g6, 0, none⟩ = some (.pointer (some ⟨mB, 0, none⟩)) := by
        rw [hW9]
        exact (((((HQ8.out.1.set_ 0 _).far (p := ⟨g7, 0, none⟩) n67 _).far (p := ⟨g8, 0, none⟩) n68 _).drew).cell 0).trans rfl
      have e7 : W9.cell? ⟨g7, 0, none⟩ = some (vi (fv v)) := by
        rw [hW9]
        exact (((((HQ8.out.2.1.far (p := ⟨g6, 0, none⟩) n76 _).set_ 0 _).far (p := ⟨g8, 0, none⟩) n78 _).drew).cell 0).trans rfl
      have e8 : W9.cell? ⟨g8, 0, none⟩ = some .nilIface := by
        rw [hW9]
        exact (((((HQ8.out.2.2.far (p := ⟨g6, 0, none⟩) n86 _).far (p := ⟨g7, 0, none⟩) n87 _).set_ 0 _).drew).cell 0).trans rfl
      have hT9 : Tn [g6, g7, g8] W7 W9 := by
        rw [hW9]
        exact ((((HT8.out.more (by simp)).setCell (.inl (by simp)) _).setCell (.inl (by simp)) _).setCell (.inl (by simp)) _).drew
      have HT9 := Lib.hid hT9
      clear hW9 hT9 d6 d7 d8 h6 h7 h8 n67 n68 n78 n76 n86 n87
      go_wp2
      refine leaves_cons (f := 71) (args := #[.pointer (some ⟨g6, 0, none⟩), .pointer (some ⟨g7, 0, none⟩), .pointer (some ⟨g8, 0, none⟩)]) (by simp) (by simp [go_sem]) ?_
      refine (begun_idle ⟨g6, 0, none⟩ ⟨g7, 0, none⟩ ⟨g8, 0, none⟩ W9).mono ?_
      rintro e u' w'' ⟨rfl, rfl, rfl⟩
      simp [Leaves, settle, results, Tryz.results37, go_sem, e6, e7, e8]
      have hi := HI.out
      simp only [List.mem_cons, List.not_mem_nil, or_false, not_or] at hi
      have hg := HG.out
      have hl := HL.out
      have hs := HT5.out.size
      have h4 := K8.out.lt
      have hbw : b < w.heap.size := block_lt_of_cell HC.out
      exact ⟨HB7.out.trans (HT9.out.below (B := w.heap.size) (by simp; omega) HB7.out.size), .inr ⟨v, HRR.out.1, mB, rfl, gm, s', n', _, SV, d', HRR.out.2, HM7.out.tn HT9.out (by simp; omega) (by simp; omega) (by simp; omega), by omega, by omega⟩⟩
end
end Go.Proofs.YtpkhcncempoohaaGreatDoor

namespace Go.Proofs.YtpkhcncempoohaaGreatDoor
open Go.RowKit Zp
def encC (x : Int × Int) : List Value := [vi x.1, vi x.2]
def OwnC (w : World) (base : Nat) (v : Value) (L : List (Int × Int)) : Prop := w.ownsRow base 62 2 v L.length (L.flatMap encC)
theorem OwnC.keepQ {w w' : World} {base : Nat} {v : Value} {L : List (Int × Int)} (h : OwnC w base v L) (hk : ∀ g, v.ownBlock = some g → w'.heap[g]? = w.heap[g]?) : OwnC w' base v L := by
  refine ⟨h.1, ?_⟩
  rcases h.2 with h0 | ⟨g, cap, cur, hv, hg, hh, rest⟩
  · exact .inl h0
  · exact .inr ⟨g, cap, cur, hv, hg, by rw [hk g (by rw [hv]; rfl)]; exact hh, rest⟩
theorem OwnC.below {w w' : World} {base : Nat} {v : Value} {L : List (Int × Int)} (h : OwnC w base v L) (hb : Below w.heap.size w w') : OwnC w' base v L :=
  h.keepQ fun g hg => hb.block g (World.ownsRow.lt h g hg).2
theorem OwnC.blk {w : World} {base : Nat} {v : Value} {L : List (Int × Int)} (h : OwnC w base v L) {g : Nat} (hg : v.ownBlock = some g) : ∃ cs, Blk w g 62 cs := by
  rcases h.2 with ⟨rfl, _⟩ | ⟨g', cap, cur, rfl, _, hh, _⟩
  · cases hg
  · injection hg with hg
    subst hg
    exact ⟨cur, hh⟩
theorem ranges_blk {w w' : World} {k : TypeId} {R : Value → Option (DataW Unit × List MemPlace)} {b r n : Nat} {D : DataW Unit} {left : Lit → Bool} {cnt : Nat} (h : w.ranges Tryz.prog k R b r n D left cnt) (h1 : w'.heap[b]? = w.heap[b]?) (h2 : w'.heap[r]? = w.heap[r]?) : w'.ranges Tryz.prog k R b r n D left cnt := by
  obtain ⟨es, clock, since, seen, c0, q1, q2, q3, q4, q5, q6⟩ := h
  exact ⟨es, clock, since, seen, c0, h1.trans q1, q2, q3, q4, h2.trans q5, q6⟩
theorem ranges_not {w : World} {k : TypeId} {R : Value → Option (DataW Unit × List MemPlace)} {b r n : Nat} {D : DataW Unit} {left : Lit → Bool} {cnt : Nat} (h : w.ranges Tryz.prog k R b r n D left cnt) {x : Nat} {t : TypeId} {cs : Array Value} (hx : Blk w x t cs) : x ≠ b ∧ x ≠ r := by
  obtain ⟨es, clock, since, seen, c0, q1, q2, q3, q4, q5, q6⟩ := h
  refine ⟨fun e => ?_, fun e => ?_⟩
  · subst e; rw [Blk, q1] at hx; cases hx
  · subst e; rw [Blk, q5] at hx; cases hx
theorem ranges_lt {w : World} {k : TypeId} {R : Value → Option (DataW Unit × List MemPlace)} {b r n : Nat} {D : DataW Unit} {left : Lit → Bool} {cnt : Nat} (h : w.ranges Tryz.prog k R b r n D left cnt) : b < w.heap.size ∧ r < w.heap.size := by
  obtain ⟨es, clock, since, seen, c0, q1, q2, q3, q4, q5, q6⟩ := h
  exact ⟨(Array.getElem?_eq_some_iff.1 q1).1, (Array.getElem?_eq_some_iff.1 q5).1⟩
theorem flatC_snoc (L : List (Int × Int)) (x c : Int) : (L ++ [(x, c)]).flatMap encC = L.flatMap encC ++ [vi x, vi c] := by simp [encC]
theorem clipC_any (A : Option Addr) (n c : Nat) (hn : n ≤ c) (w : World) (hc : A = none → c = 0) :
    Calls Tryz.prog 41 #[.slice A n c] w fun e w' => e = .returned (.slice A n n) ∧ w = w' := by
  cases A with
  | none =>
    obtain rfl := hc rfl
    obtain rfl : n = 0 := by omega
    go_enter Tryz.func41, Tryz.ntmps41
    go_wp2
    go_ret
    exact ⟨rfl, rfl⟩
  | some ad =>
    have t1 : (n : Int) ≤ (c : Int) := by omega
    clear hc
    go_enter Tryz.func41, Tryz.ntmps41
    go_wp2
    go_ret
    exact ⟨rfl, rfl⟩
theorem OwnC.form {w : World} {base : Nat} {v : Value} {L : List (Int × Int)} (h : OwnC w base v L) : ∃ A c, v = .slice A L.length c ∧ L.length ≤ c ∧ (A = none → c = 0) := by
  rcases h.2 with ⟨rfl, h0⟩ | ⟨g, cap, cur, rfl, _, _, h1, _⟩
  · exact ⟨none, 0, by rw [h0], by omega, fun _ => rfl⟩
  · exact ⟨_, _, rfl, h1, fun e => by cases e⟩
def SortC : Prop := ∀ (w : World) (base : Nat) (v : Value) (L : List (Int × Int)), OwnC w base v L → L.length ≤ 999999 →
  Calls Tryz.prog 38 #[v, .func (.func 39) #[] #[]] w fun e w' => e = .returned (.tuple #[]) ∧ w.grownBy w' v.ownBlock
set_option maxRecDepth 100000 in
set_option maxHeartbeats 4000000 in
theorem Run_yes {p : Nat} [NeZero p] (hp2 : p ≤ 2147483647) (b : Nat) (size : Int) (AI : Option Addr) (L cI : Nat) (limit : Nat) (v0 : Fin p) (w : World)
    (hSC : SortC) (hB : ∀ W, Below w.heap.size w W → Calls Tryz.prog 37 #[.pointer (some ⟨b, 0, none⟩), .agg #[vi size, .slice AI L cI], vi limit] W (BegunIs (.out v0) b size AI L cI W)) :
    Calls Tryz.prog 13 #[.pointer (some ⟨b, 0, none⟩), .agg #[vi size, .slice AI L cI], vi limit] w fun e w' => ∃ (d : Nat) (A : Option Addr) (n : Nat), e = .returned (.tuple #[.agg #[vi (fv v0), vi d, .slice A n n], .nilIface]) ∧ Below w.heap.size w w' := by
  obtain ⟨c4, hc4⟩ : ∃ c, c = w.heap.size := ⟨_, rfl⟩
  obtain ⟨c6, hc6⟩ : ∃ c, c = w.heap.size + 1 := ⟨_, rfl⟩
  obtain ⟨wx, hwx⟩ : ∃ wx, wx = (w.alloc (.cells #[vi size, .slice AI L cI] 24)).alloc (.cells #[vi 0, vi 0, .slice none 0 0] 44) := ⟨_, rfl⟩
  have hbx : Below w.heap.size w wx := by rw [hwx]; exact ((Below.refl _ _).alloc (Nat.le_refl _) _).alloc (by simp) _
  have h4 : Blk wx c4 24 #[vi size, .slice AI L cI] := by rw [hwx, hc4]; exact (Blk.new w _ _).alloc _
  have h6 : Blk wx c6 44 #[vi 0, vi 0, .slice none 0 0] := by
    have := Blk.new (w.alloc (.cells #[vi size, .slice AI L cI] 24)) 44 #[vi 0, vi 0, .slice none 0 0]
    rw [show (w.alloc (.cells #[vi size, .slice AI L cI] 24)).heap.size = c6 by rw [hc6]; simp] at this
    rw [hwx]
    exact this
  have k0 := (h4.cell 0).trans (show _ = some (vi size) from rfl)
  have k1 := (h4.cell 1).trans (show _ = some (.slice AI L cI) from rfl)
  have HB := Lib.hid (hB wx hbx)
  have HX := Lib.hid (And.intro hbx (And.intro h6 (show w.heap.size ≤ c6 by omega)))
  have HW := Lib.hid (And.intro hwx (And.intro hc4 hc6))
  clear hB hbx h4 h6 hwx hc4 hc6
  go_enter Tryz.func13, Tryz.ntmps13
  go_upto_region 1 with (fail)
  rw [← HW.out.1, ← HW.out.2.2, ← HW.out.2.1]
  go_wp2_with fail
  refine HB.out.mono ?_
  rintro _ w1 ⟨hb1, h⟩
  rcases h with ⟨h, _⟩ | ⟨v, hv, mB, rfl, gm, s, n, u, SV, d, hn, hM, hmB, hgm⟩
  · cases h
  injection hv with hv
  subst hv
  have m3 : w1.cell? ⟨mB, 3, none⟩ = some (.map (some gm)) := by
    obtain ⟨a0, a1, a2, i0, i1, i2, hi, hBB⟩ := hM.blk
    exact (hBB.cell 3).trans rfl
  have m16 : w1.cell? ⟨mB, 16, none⟩ = some (vi d) := by
    obtain ⟨a0, a1, a2, i0, i1, i2, hi, hBB⟩ := hM.blk
    exact (hBB.cell 16).trans rfl
  obtain ⟨D, hown, _⟩ := hM.map
  have HM1 := Lib.hid (And.intro hb1 (And.intro hown (And.intro (HX.out.2.1.below hb1 HX.out.2.1.lt) (And.intro hmB hgm))))
  clear hb1 hown hM k0 k1 hmB hgm
  go_upto_region 5 with (fail)
  obtain ⟨c11, hc11⟩ : ∃ c, c = w1.heap.size := ⟨_, rfl⟩
  obtain ⟨w2, hw2⟩ : ∃ w2, w2 = w1.alloc (.cells #[vi (fv v0), vi d, .slice none 0 0] 44) := ⟨_, rfl⟩
  have hT2 : Below w1.heap.size w1 w2 := by rw [hw2]; exact (Below.refl _ _).alloc (Nat.le_refl _) _
  have h11 : Blk w2 c11 44 #[vi (fv v0), vi d, .slice none 0 0] := by rw [hw2, hc11]; exact Blk.new _ _ _
  rw [← hw2, ← hc11]
  have HCX := Lib.hid (show wx.heap.size ≤ c11 by rw [hc11]; exact HM1.out.1.size)
  have m3' := (hT2.cell (block_lt_of_cell m3)).trans m3
  have hown2 : w2.ownsMap Tryz.prog 3 (plainElem Tryz.prog 3) gm n D := by
    obtain ⟨es, clock, g1, g2⟩ := HM1.out.2.1
    exact ⟨es, clock, (hT2.block gm HM1.out.2.1.lt).trans g1, g2⟩
  have H2 := Lib.hid (And.intro (HM1.out.1.trans (hT2.mono HM1.out.1.size)) (And.intro h11 (And.intro (HM1.out.2.2.1.below hT2 HM1.out.2.2.1.lt) (And.intro hown2 (And.intro (show wx.heap.size ≤ w2.heap.size from Nat.le_trans HM1.out.1.size hT2.size) (show c6 < c11 by rw [hc11]; exact HM1.out.2.2.1.lt))))))
  clear hT2 h11 m3 m16 hw2 hc11
  go_wp2_with (first
    | (at_range; refine wpList_range_own _ rfl _ 83 rfl 3 3 keyed_i Tryz.underlying83 _ gm n D rfl hown2 ?_; intro w3 hrg3 hg3 hs3))
  go_frame
  obtain ⟨r, hr⟩ : ∃ r, r = w2.heap.size := ⟨_, rfl⟩
  rw [← hr] at hrg3 ⊢
  have hb3 : Below w2.heap.size w2 w3 := ⟨hg3.os, hg3.tape, hg3.output, hg3.size, fun k hk => hg3.block k hk (by simp)⟩
  have h113 := H2.out.2.1.below hb3 H2.out.2.1.lt
  have h63 := H2.out.2.2.1.below hb3 H2.out.2.2.1.lt
  have hsz := hown2.size_le
  have hr11 : c11 < r := by rw [hr]; exact H2.out.2.1.lt
  have HRR := Lib.hid hr
  clear hr
  have H3 := Lib.hid (And.intro (H2.out.1.trans (hb3.mono (Nat.le_trans (Nat.le_refl _) H2.out.2.2.2.2.1))) (And.intro hr11 hsz))
  clear hb3 hg3 hs3 hown2 m3' hsz
  go_loopw [12] (fun _ wr => ∃ (left : Lit → Bool) (cnt : Nat) (v : Value) (L : List (Int × Int)), wr.ranges Tryz.prog 3 (plainElem Tryz.prog 3) gm r n D left cnt ∧ L.length + cnt ≤ n ∧ Blk wr c11 44 #[vi (fv v0), vi d, v] ∧ Blk wr c6 44 #[vi 0, vi 0, .slice none 0 0] ∧ OwnC wr wx.heap.size v L ∧ Below wx.heap.size wx wr)
    (fun _ wr => wr.rangeLeft gm r)
  case atStart => exact ⟨_, _, _, [], hrg3, by simp; exact H3.out.2.2, h113, h63, World.ownsRow_nil _ _ _ _, H3.out.1⟩
  case round =>
    obtain ⟨left, cnt, v, L, hrg, hcs, h11, h6, hO, hb⟩ := hrel
    clear hrg3 h113 h63
    have c112 := (h11.cell 2).trans (show _ = some v from rfl)
    have hir : ∃ s1 s2 s3, wr.heap[r]? = some (.mapIter (some gm) s1 s2 s3) := by
      obtain ⟨es, clock, since, seen, c0, _, _, _, _, hir, _⟩ := hrg
      exact ⟨_, _, _, hir⟩
    have hvr : v.ownBlock ≠ some r := fun e => by
      obtain ⟨cs, hcs⟩ := hO.blk e
      obtain ⟨_, _, _, hir⟩ := hir
      rw [Blk, hir] at hcs
      cases hcs
    have hv11 : v.ownBlock ≠ some c11 := fun e => by
      obtain ⟨cs, hcs⟩ := hO.blk e
      exact Blk.ne_ hcs h11 (by decide) rfl
    have hv6 : v.ownBlock ≠ some c6 := fun e => by
      obtain ⟨cs, hcs⟩ := hO.blk e
      exact Blk.ne_ hcs h6 (by decide) rfl
    have hrx : wx.heap.size ≤ r := by
      have e1 := H2.out.2.2.2.2.2
      have e2 := H3.out.2.1
      have e3 := HX.out.2.1.lt
      have e4 := H2.out.2.1.lt
      have e5 := HM1.out.1.size
      have e6 := H2.out.2.2.2.2.1
      have e7 := HRR.out
      omega
    go_wp2_with (first
      | (at_next; refine wpList_next_ranges_ii _ rfl _ rfl 3 3 .i64 .i64 keyed_i Tryz.underlying3 Tryz.underlying3 gm r n _ _ _ rfl hrg ?_ ?_))
    · intro hc0 hl0
      obtain ⟨A, cv, hvv, hle, hnil⟩ := hO.form
      subst hvv
      have HST := Lib.hid (hSC wr wx.heap.size _ L hO (by omega))
      have H5 := Lib.hid (And.intro h11 (And.intro h6 (And.intro hb (And.intro hv11 hv6))))
      have HOW := Lib.hid hO
      clear h11 h6 hb hO hvr hv11 hv6 hrg hir hc0 hl0 hcs
      go_wp2_with fail
      refine HST.out.mono ?_
      rintro _ w5 ⟨rfl, hg5⟩
      have h115 := Blk.grown H5.out.1 hg5 (fun e => H5.out.2.2.2.1 e.symm)
      have h65 := Blk.grown H5.out.2.1 hg5 (fun e => H5.out.2.2.2.2 e.symm)
      have hb5 : Below wx.heap.size wx w5 := H5.out.2.2.1.grown hg5 H5.out.2.2.1.size (fun g hg => (World.ownsRow.lt HOW.out g hg).1)
      have y2 := (h115.cell 2).trans (show _ = some (Value.slice A L.length cv) from rfl)
      have f2 := h115.frozen 2
      have H6 := Lib.hid (And.intro h115 (And.intro h65 hb5))
      clear h115 h65 hb5 hg5 c112
      go_wp2_with fail
      refine (clipC_any A L.length cv hle w5 hnil).mono ?_
      rintro _ _ ⟨rfl, rfl⟩
      go_upto_region 12 with (fail)
      obtain ⟨w6, hw6⟩ : ∃ w6, w6 = w5.setCell ⟨c11, 2, none⟩ (.slice A L.length L.length) := ⟨_, rfl⟩
      rw [← hw6]
      have h116 : Blk w6 c11 44 #[vi (fv v0), vi d, .slice A L.length L.length] := by rw [hw6]; exact H6.out.1.set_ 2 _
      have h66 : Blk w6 c6 44 #[vi 0, vi 0, .slice none 0 0] := by rw [hw6]; exact (Below.heap_setCell w5 ⟨c11, 2, none⟩ _ c6 (by have := H2.out.2.2.2.2.2; show c6 ≠ c11; omega)).trans H6.out.2.1
      have hb6 : Below w.heap.size w w6 := by
        rw [hw6]
        exact HX.out.1.trans ((H6.out.2.2.setCell HCX.out _).mono HX.out.1.size)
      have e0 := (h116.cell 0).trans (show _ = some (vi (fv v0)) from rfl)
      have e1 := (h116.cell 1).trans (show _ = some (vi d) from rfl)
      have e2 := (h116.cell 2).trans (show _ = some (.slice A L.length L.length) from rfl)
      have q0 := (h66.cell 0).trans (show _ = some (vi 0) from rfl)
      have q1 := (h66.cell 1).trans (show _ = some (vi 0) from rfl)
      have q2 := (h66.cell 2).trans (show _ = some (.slice none 0 0) from rfl)
      have p0 := h66.frozen 0
      have p1 := h66.frozen 1
      have p2 := h66.frozen 2
      have H7 := Lib.hid (And.intro h66 hb6)
      clear h116 h66 hb6 hw6 y2 f2
      go_wp2
      obtain ⟨w7, hw7⟩ : ∃ w7, w7 = ((w6.setCell ⟨c6, 0, none⟩ (vi (fv v0))).setCell ⟨c6, 1, none⟩ (vi d)).setCell ⟨c6, 2, none⟩ (.slice A L.length L.length) := ⟨_, rfl⟩
      have hx6 : w.heap.size ≤ c6 := HX.out.2.2
      have hb7 : Below w.heap.size w w7 := by
        rw [hw7]
        exact ((H7.out.2.setCell hx6 _).setCell hx6 _).setCell hx6 _
      have h67 : Blk w7 c6 44 #[vi (fv v0), vi d, .slice A L.length L.length] := by
        rw [hw7]
        exact ((H7.out.1.set_ 0 _).set_ 1 _).set_ 2 _
      have r0 := (h67.cell 0).trans (show _ = some (vi (fv v0)) from rfl)
      have r1 := (h67.cell 1).trans (show _ = some (vi d) from rfl)
      have r2 := (h67.cell 2).trans (show _ = some (.slice A L.length L.length) from rfl)
      rw [← hw7]
      refine bodyPost_ret (v := .tuple #[.agg #[vi (fv v0), vi d, .slice A L.length L.length], .nilIface]) (by simp [results, Tryz.results13, go_sem, r0, r1, r2]) rfl ⟨_, _, _, rfl, hb7⟩
    · intro x c w4 cnt1 hwx hwc hlx hat hrg1 hlt hg1 hs1 hen
      have h114 := Blk.grown h11 hg1 (by intro e; injection e with e; have := H3.out.2.1; omega)
      have h64 := Blk.grown h6 hg1 (by intro e; injection e with e; have := H3.out.2.1; have := H2.out.2.2.2.2.2; omega)
      have hO4 : OwnC w4 wx.heap.size v L := hO.keepQ fun g hg => hg1.block g (World.ownsRow.lt hO g hg).2 (fun e => hvr (by rw [hg, e]))
      have hb4 : Below wx.heap.size wx w4 := hb.grown hg1 hb.size (fun g hg => by injection hg with hg; rw [← hg]; exact hrx)
      have c114 := (h114.cell 2).trans (show _ = some v from rfl)
      by_cases hx0 : x = 0
      · have H4 := Lib.hid (And.intro hrg1 (And.intro h114 (And.intro h64 (And.intro hO4 hb4))))
        have hle := hrg.left_eq
        clear hrg1 h114 h64 hO4 hb4 c112 hg1 hs1 hat hlx
        subst hx0
        go_wp2
        go_roundw
        case rel => exact ⟨_, cnt1, v, L, H4.out.1, by omega, H4.out.2.1, H4.out.2.2.1, H4.out.2.2.2.1, H4.out.2.2.2.2⟩
        case measure => rw [H4.out.1.left_eq, hrg.left_eq]; exact hlt
      · have hll : L.length + 1 ≤ 999999 := by omega
        obtain ⟨A, cv, hvv⟩ := row_form hO4
        subst hvv
        have hOW := Lib.hid (show w4.ownsRow wx.heap.size 62 2 (.slice A L.length cv) L.length (L.flatMap encC) from hO4)
        have H4 := Lib.hid (And.intro hrg1 (And.intro h114 (And.intro h64 (And.intro hb4 (And.intro hvr (And.intro hv11 hv6))))))
        have HRG := Lib.hid (And.intro hrg hlt)
        have HLL := Lib.hid hll
        have HCS := Lib.hid hcs
        clear hrg1 h114 h64 hO4 hb4 c112 hg1 hs1 hat hlx hll hrg hlt hir hvr hv11 hv6 hcs
        go_upto_region 9 with (fail)
        go_wp2_with (at_builtin; refine wpList_appS 42 62 _ 2 16 Tryz.underlying42 info_cell (by rfl) (by omega) w4 _ [vi x, vi c] (by rfl) (by rfl) (by simp [Value.oneCell']) (by rfl) _ _ (by rfl) wx.heap.size (.slice A L.length cv) L.length (L.flatMap encC) (by rfl) (by rfl) hOW.out (by have := HLL.out; simp only [maxLen]; omega) (by have := HLL.out; omega) H4.out.2.2.2.1.size ?_; intro v5 w5 h51 h52 h53; have hB5 := Blk.grown H4.out.2.1 h52 (fun e => H4.out.2.2.2.2.2.1 e.symm); have f5 := hB5.frozen 2; have y5 := (hB5.cell 2).trans (show _ = some (Value.slice A L.length cv) from rfl); obtain ⟨A5, c5, hv5⟩ := row_form h51; subst hv5)
        have hrow5 : OwnC w5 wx.heap.size (.slice A5 (L.length + 1) c5) (L ++ [(x, c)]) := by
          unfold OwnC
          rw [List.length_append, flatC_snoc]
          exact h51
        have hvm : ∀ g, (Value.slice A L.length cv).ownBlock = some g → g ≠ gm ∧ g ≠ r := fun g hg => by
          obtain ⟨cs, hcs⟩ := OwnC.blk (L := L) hOW.out hg
          exact ranges_not H4.out.1 hcs
        have hrg5 := ranges_blk H4.out.1 (h52.block gm (ranges_lt H4.out.1).1 (fun e => (hvm gm e.symm).1 rfl)) (h52.block r (ranges_lt H4.out.1).2 (fun e => (hvm r e.symm).2 rfl))
        have hn5 := ranges_not hrg5 hB5
        have hrg6 := ranges_blk (w' := w5.setCell ⟨c11, 2, none⟩ (.slice A5 (L.length + 1) c5)) hrg5 (Below.heap_setCell w5 ⟨c11, 2, none⟩ _ gm hn5.1.symm) (Below.heap_setCell w5 ⟨c11, 2, none⟩ _ r hn5.2.symm)
        have h65 := Blk.grown H4.out.2.2.1 h52 (fun e => H4.out.2.2.2.2.2.2 e.symm)
        have hb5 : Below wx.heap.size wx w5 := H4.out.2.2.2.1.grown h52 H4.out.2.2.2.1.size (fun g hg => (World.ownsRow.lt hOW.out g hg).1)
        have hx11 : wx.heap.size ≤ c11 := by
          have e1 := H2.out.2.2.2.2.2
          have e2 := HCX.out
          omega
        refine ⟨⟨_, cnt1, _, L ++ [(x, c)], hrg6, by simp; have := HCS.out; have := HRG.out.2; omega, hB5.set_ 2 _, (Below.heap_setCell w5 ⟨c11, 2, none⟩ _ c6 (by have := H2.out.2.2.2.2.2; show c6 ≠ c11; omega)).trans h65, hrow5.keepQ fun g hg => ?_, ?_⟩, ?_⟩
        · refine Below.heap_setCell w5 ⟨c11, 2, none⟩ _ g fun e => ?_
          obtain ⟨cs, hcs⟩ := hrow5.blk hg
          exact Blk.ne_ hcs hB5 (by decide) e
        · exact hb5.setCell hx11 _
        · rw [hrg6.left_eq, HRG.out.1.left_eq]; exact HRG.out.2
set_option maxRecDepth 100000 in
set_option maxHeartbeats 4000000 in
theorem Run_no {p : Nat} [NeZero p] (b : Nat) (size : Int) (AI : Option Addr) (L cI : Nat) (limit : Nat) (w : World)
    (hB : ∀ W, Below w.heap.size w W → Calls Tryz.prog 37 #[.pointer (some ⟨b, 0, none⟩), .agg #[vi size, .slice AI L cI], vi limit] W (BegunIs (RunR.blank (p := p)) b size AI L cI W)) :
    Calls Tryz.prog 13 #[.pointer (some ⟨b, 0, none⟩), .agg #[vi size, .slice AI L cI], vi limit] w fun e w' => e = .returned (.tuple #[.agg #[vi 0, vi 0, .slice none 0 0], .iface 64 (vi 10)]) ∧ Below w.heap.size w w' := by
  obtain ⟨c4, hc4⟩ : ∃ c, c = w.heap.size := ⟨_, rfl⟩
  obtain ⟨c6, hc6⟩ : ∃ c, c = w.heap.size + 1 := ⟨_, rfl⟩
  obtain ⟨wx, hwx⟩ : ∃ wx, wx = (w.alloc (.cells #[vi size, .slice AI L cI] 24)).alloc (.cells #[vi 0, vi 0, .slice none 0 0] 44) := ⟨_, rfl⟩
  have hbx : Below w.heap.size w wx := by rw [hwx]; exact ((Below.refl _ _).alloc (Nat.le_refl _) _).alloc (by simp) _
  have h4 : Blk wx c4 24 #[vi size, .slice AI L cI] := by rw [hwx, hc4]; exact (Blk.new w _ _).alloc _
  have h6 : Blk wx c6 44 #[vi 0, vi 0, .slice none 0 0] := by
    have := Blk.new (w.alloc (.cells #[vi size, .slice AI L cI] 24)) 44 #[vi 0, vi 0, .slice none 0 0]
    rw [show (w.alloc (.cells #[vi size, .slice AI L cI] 24)).heap.size = c6 by rw [hc6]; simp] at this
    rw [hwx]
    exact this
  have k0 := (h4.cell 0).trans (show _ = some (vi size) from rfl)
  have k1 := (h4.cell 1).trans (show _ = some (.slice AI L cI) from rfl)
  have HB := Lib.hid (hB wx hbx)
  have HX := Lib.hid (And.intro hbx (And.intro h6 (show w.heap.size ≤ c6 by omega)))
  have HW := Lib.hid (And.intro hwx (And.intro hc4 hc6))
  clear hB hbx h4 h6 hwx hc4 hc6
  go_enter Tryz.func13, Tryz.ntmps13
  go_upto_region 1 with (fail)
  rw [← HW.out.1, ← HW.out.2.2, ← HW.out.2.1]
  go_wp2_with fail
  refine HB.out.mono ?_
  rintro _ w1 ⟨hb1, h⟩
  rcases h with ⟨_, rfl⟩ | ⟨v, hv, _⟩
  rotate_left
  · cases hv
  have h66 := HX.out.2.1.below hb1 HX.out.2.1.lt
  have hb6 := HX.out.1.trans (hb1.mono HX.out.1.size)
  have q0 := (h66.cell 0).trans (show _ = some (vi 0) from rfl)
  have q1 := (h66.cell 1).trans (show _ = some (vi 0) from rfl)
  have q2 := (h66.cell 2).trans (show _ = some (.slice none 0 0) from rfl)
  have p0 := h66.frozen 0
  have p1 := h66.frozen 1
  have p2 := h66.frozen 2
  have H7 := Lib.hid (And.intro h66 hb6)
  clear h66 hb6 hb1
  go_wp2
  obtain ⟨w7, hw7⟩ : ∃ w7, w7 = ((w1.setCell ⟨c6, 0, none⟩ (vi 0)).setCell ⟨c6, 1, none⟩ (vi 0)).setCell ⟨c6, 2, none⟩ (.slice none 0 0) := ⟨_, rfl⟩
  have hx6 : w.heap.size ≤ c6 := HX.out.2.2
  have hb7 : Below w.heap.size w w7 := by
    rw [hw7]
    exact ((H7.out.2.setCell hx6 _).setCell hx6 _).setCell hx6 _
  have h67 : Blk w7 c6 44 #[vi 0, vi 0, .slice none 0 0] := by
    rw [hw7]
    exact ((H7.out.1.set_ 0 _).set_ 1 _).set_ 2 _
  have r0 := (h67.cell 0).trans (show _ = some (vi 0) from rfl)
  have r1 := (h67.cell 1).trans (show _ = some (vi 0) from rfl)
  have r2 := (h67.cell 2).trans (show _ = some (.slice none 0 0) from rfl)
  rw [← hw7]
  refine bodyPost_ret (v := .tuple #[.agg #[vi 0, vi 0, .slice none 0 0], .iface 64 (vi 10)]) (by simp [results, Tryz.results13, go_sem, r0, r1, r2]) rfl ⟨rfl, hb7⟩
end Go.Proofs.YtpkhcncempoohaaGreatDoor

namespace Go.Proofs.YtpkhcncempoohaaGreatDoor
open Go.RowKit Zp
theorem prime_small {n : Nat} (k : Nat) (h2 : 2 ≤ n) (hk : n < (k + 1) * (k + 1)) (h : ∀ d, d < k + 1 → 2 ≤ d → ¬ n % d = 0) : IsPrime n := by
  refine ⟨h2, fun d hd => ?_⟩
  obtain ⟨e, he⟩ := hd
  rcases Nat.lt_or_ge d 2 with h3 | h3
  · rcases (show d = 0 ∨ d = 1 by omega) with rfl | rfl
    · simp at he; omega
    · exact .inl rfl
  · rcases Nat.lt_or_ge e 2 with h4 | h4
    · rcases (show e = 0 ∨ e = 1 by omega) with rfl | rfl
      · simp at he; omega
      · simp at he; exact .inr he.symm
    · exfalso
      rcases Nat.lt_or_ge d (k + 1) with h5 | h5
      · exact h d h5 h3 (by rw [he, Nat.mul_mod_right])
      · rcases Nat.lt_or_ge e (k + 1) with h6 | h6
        · exact h e h6 h4 (by rw [he, Nat.mul_mod_left])
        · have := Nat.mul_le_mul h5 h6
          omega
theorem prime12289 : IsPrime 12289 := prime_small 110 (by decide) (by decide) (by decide +kernel)
instance ne12289 : NeZero 12289 := ⟨by decide⟩
theorem codeL6_ok : ∀ x ∈ codeL6, InsOk x := by
  intro x hx
  simp only [codeL6, List.mem_cons, List.not_mem_nil, or_false] at hx
  rcases hx with rfl | rfl | rfl | rfl | rfl | rfl | rfl | rfl | rfl <;> (constructor <;> (constructor <;> simp))
theorem lives_run : runM (p := 12289) codeL6 200 ⟨0, 1, 1 + el 12289 2, 0, mem0⟩ = .out (el 12289 42) := by kernel_rfl
end Go.Proofs.YtpkhcncempoohaaGreatDoor

namespace Go.Proofs.YtpkhcncempoohaaGreatDoor
open Go.Shelf
def shSortF_ren : Go.Shelf.Ren := ⟨fun | 6 => 38 | 15 => 74 | 14 => 73 | 28 => 116 | 29 => 117 | 20 => 108 | 21 => 109 | 22 => 110 | 23 => 111 | 24 => 112 | 25 => 113 | 26 => 114 | 27 => 115 | 46 => 155 | 47 => 156 | 48 => 157 | 49 => 158 | 50 => 159 | 57 => 177 | n => n, fun | 22 => 42 | 24 => 62 | 25 => 89 | 3 => 3 | 39 => 140 | 0 => 0 | 53 => 183 | 55 => 185 | 4 => 4 | 46 => 176 | 45 => 175 | 50 => 180 | 5 => 5 | 9 => 9 | 66 => 212 | 70 => 216 | 76 => 240 | 77 => 167 | n => n, fun | n => n⟩
theorem shSortF : Go.Proofs.SlLaysF0.n6 Tryz.prog shSortF_ren := {
  mixed := by kernel_rfl
  f6 := ⟨Tryz.f38.name, by decide, Tryz.func38.trans (congrArg some (by kernel_rfl))⟩
  f14 := ⟨Tryz.f73.name, by decide, Tryz.func73.trans (congrArg some (by kernel_rfl))⟩
  f15 := Tryz.func74.trans (congrArg some (by kernel_rfl))
  f20 := ⟨Tryz.f108.name, by decide, Tryz.func108.trans (congrArg some (by kernel_rfl))⟩
  f21 := ⟨Tryz.f109.name, by decide, Tryz.func109.trans (congrArg some (by kernel_rfl))⟩
  f22 := ⟨Tryz.f110.name, by decide, Tryz.func110.trans (congrArg some (by kernel_rfl))⟩
  f23 := ⟨Tryz.f111.name, by decide, Tryz.func111.trans (congrArg some (by kernel_rfl))⟩
  f24 := ⟨Tryz.f112.name, by decide, Tryz.func112.trans (congrArg some (by kernel_rfl))⟩
  f25 := ⟨Tryz.f113.name, by decide, Tryz.func113.trans (congrArg some (by kernel_rfl))⟩
  f26 := ⟨Tryz.f114.name, by decide, Tryz.func114.trans (congrArg some (by kernel_rfl))⟩
  f27 := ⟨Tryz.f115.name, by decide, Tryz.func115.trans (congrArg some (by kernel_rfl))⟩
  f28 := Tryz.func116.trans (congrArg some (by kernel_rfl))
  f29 := Tryz.func117.trans (congrArg some (by kernel_rfl))
  f46 := ⟨Tryz.f155.name, by decide, Tryz.func155.trans (congrArg some (by kernel_rfl))⟩
  f47 := Tryz.func156.trans (congrArg some (by kernel_rfl))
  f48 := Tryz.func157.trans (congrArg some (by kernel_rfl))
  f49 := ⟨Tryz.f158.name, by decide, Tryz.func158.trans (congrArg some (by kernel_rfl))⟩
  f50 := ⟨Tryz.f159.name, by decide, Tryz.func159.trans (congrArg some (by kernel_rfl))⟩
  f57 := ⟨Tryz.f177.name, by decide, Tryz.func177.trans (congrArg some (by kernel_rfl))⟩
  t0 := Tryz.underlying0
  a0 := Tryz.isAgg0
  z0 := Tryz.sizeOf0
  v0 := Tryz.zeroValue0
  t3 := Tryz.underlying3
  a3 := Tryz.isAgg3
  z3 := Tryz.sizeOf3
  v3 := Tryz.zeroValue3
  t4 := Tryz.underlying4
  a4 := Tryz.isAgg4
  z4 := Tryz.sizeOf4
  v4 := Tryz.zeroValue4
  t5 := Tryz.underlying5
  a5 := Tryz.isAgg5
  z5 := Tryz.sizeOf5
  v5 := Tryz.zeroValue5
  t9 := Tryz.underlying9
  a9 := Tryz.isAgg9
  z9 := Tryz.sizeOf9
  v9 := Tryz.zeroValue9
  t22 := Tryz.underlying42
  a22 := Tryz.isAgg42
  z22 := Tryz.sizeOf42
  v22 := Tryz.zeroValue42
  t25 := Tryz.underlying89
  a25 := Tryz.isAgg89
  z25 := Tryz.sizeOf89
  v25 := Tryz.zeroValue89
  t39 := Tryz.underlying140
  a39 := Tryz.isAgg140
  z39 := Tryz.sizeOf140
  v39 := Tryz.zeroValue140
  t45 := Tryz.underlying175
  a45 := Tryz.isAgg175
  z45 := Tryz.sizeOf175
  v45 := Tryz.zeroValue175
  t46 := Tryz.underlying176
  a46 := Tryz.isAgg176
  z46 := Tryz.sizeOf176
  v46 := Tryz.zeroValue176
  t50 := Tryz.underlying180
  a50 := Tryz.isAgg180
  z50 := Tryz.sizeOf180
  v50 := Tryz.zeroValue180
  t53 := Tryz.underlying183
  a53 := Tryz.isAgg183
  z53 := Tryz.sizeOf183
  v53 := Tryz.zeroValue183
  t55 := Tryz.underlying185
  a55 := Tryz.isAgg185
  z55 := Tryz.sizeOf185
  v55 := Tryz.zeroValue185
  t66 := Tryz.underlying212
  a66 := Tryz.isAgg212
  z66 := Tryz.sizeOf212
  v66 := Tryz.zeroValue212
  t70 := Tryz.underlying216
  a70 := Tryz.isAgg216
  z70 := Tryz.sizeOf216
  v70 := Tryz.zeroValue216
  t76 := Tryz.underlying240
  a76 := Tryz.isAgg240
  z76 := Tryz.sizeOf240
  v76 := Tryz.zeroValue240
  t77 := Tryz.underlying167
  a77 := Tryz.isAgg167
  z77 := Tryz.sizeOf167
  v77 := Tryz.zeroValue167 }
def shCmp_ren : Go.Shelf.Ren := ⟨fun | 5 => 40 | 7 => 75 | n => n, fun | 22 => 3 | 3 => 3 | 4 => 4 | n => n, fun | n => n⟩
theorem shCmp : Go.Proofs.SlLaysC2.n5 Tryz.prog shCmp_ren := {
  mixed := by kernel_rfl
  f5 := ⟨Tryz.f40.name, by decide, Tryz.func40.trans (congrArg some (by kernel_rfl))⟩
  f7 := ⟨Tryz.f75.name, by decide, Tryz.func75.trans (congrArg some (by kernel_rfl))⟩
  t3 := Tryz.underlying3
  a3 := Tryz.isAgg3
  z3 := Tryz.sizeOf3
  v3 := Tryz.zeroValue3
  t4 := Tryz.underlying4
  a4 := Tryz.isAgg4
  z4 := Tryz.sizeOf4
  v4 := Tryz.zeroValue4
  t22 := Tryz.underlying3
  a22 := Tryz.isAgg3
  z22 := Tryz.sizeOf3
  v22 := Tryz.zeroValue3 }
end Go.Proofs.YtpkhcncempoohaaGreatDoor

namespace Go.Proofs.YtpkhcncempoohaaGreatDoor
open Go.RowKit Zp Go.Sort Go.Shelf
theorem flatC_at : ∀ (L : List (Int × Int)) (j : Nat), j < 2 * L.length → (L.flatMap encC)[j]? = some ((encC (L[j / 2]!))[j % 2]!)
  | [], j, h => by simp at h
  | x :: L, j, h => by
    rw [List.flatMap_cons]
    by_cases hj : j < 2
    · have hj' : j = 0 ∨ j = 1 := by omega
      rcases hj' with rfl | rfl <;> rfl
    · have hl : (encC x).length ≤ j := by simp [encC]; omega
      rw [List.getElem?_append_right hl]
      have e : j - (encC x).length = j - 2 := by simp [encC]
      rw [e, flatC_at L (j - 2) (by simp at h; omega)]
      have e1 : j / 2 = (j - 2) / 2 + 1 := by omega
      have e2 : (j - 2) % 2 = j % 2 := by omega
      rw [e1, e2]
      congr 2
theorem ltC (x y : Int × Int) : ltOf (fun x y : Int × Int => Lib.compareInt x.1 y.1) x y = decide (x.1 < y.1) := by
  unfold ltOf Lib.compareInt
  by_cases h1 : x.1 < y.1
  · simp [h1]
  · by_cases h2 : y.1 < x.1 <;> simp [h1, h2]
theorem swoC : SWO (ltOf fun x y : Int × Int => Lib.compareInt x.1 y.1) where
  irrefl x := by rw [ltC]; simp
  trans x y z h1 h2 := by rw [ltC] at *; simp at *; omega
  ntrans x y z h1 h2 := by rw [ltC] at *; simp at *; omega
set_option maxHeartbeats 1000000 in
theorem run1_any (x y : Int × Int) (W : World) : Calls Tryz.prog 39 #[.agg #[vi x.1, vi x.2], .agg #[vi y.1, vi y.2]] W fun e w' => e = .returned (vi (Lib.compareInt x.1 y.1)) ∧ ∃ q os', w' = grow (W.drewN q) os' := by
  have hcon := fun W' => AnyG.cmp_Compare_int shCmp x.1 y.1 W'
  change ∀ W', Calls Tryz.prog 40 _ _ _ at hcon
  generalize Lib.compareInt x.1 y.1 = r at hcon ⊢
  have HC := Lib.hid hcon
  clear hcon
  go_enter Tryz.func39, Tryz.ntmps39
  go_wp2_with fail
  refine (HC.out _).mono ?_
  rintro _ _ ⟨rfl, rfl⟩
  go_wp2
  go_ret
  exact ⟨rfl, 0, _, by rw [alloc_eq_grow, alloc_eq_grow, grow_grow]; rfl⟩
theorem sortC_any : SortC := fun w base v L hO hL => by
  rcases hO.2 with ⟨rfl, h0⟩ | ⟨g, cap, cur, rfl, _, hg, hn, hc, hs, ht⟩
  · rw [h0] at *
    refine (AnyF.slices_SortFunc_none shSortF none 0 _ w).mono ?_
    rintro e w' ⟨rfl, rfl⟩
    exact ⟨rfl, ⟨rfl, rfl, rfl, Nat.le_refl _, fun _ _ _ => rfl⟩⟩
  · have hlt : g < w.heap.size := (Array.getElem?_eq_some_iff.1 hg).1
    have hB : Blk w g 62 cur := hg
    have hH : HoldsK encC 2 w g 0 L.toArray := fun j hj => by
      have hj2 : j < L.length * 2 := by simpa using hj
      rw [Nat.zero_add]
      refine ⟨?_, hB.frozen j⟩
      rw [hB.cell j, get_flatK encC 2 L.toArray j (by simpa using hj2)]
      have h1 := flatC_at L j (by omega)
      have hO1 := hO.1
      rw [← ht, List.getElem?_take, if_pos (by omega), Array.getElem?_toList] at h1
      rw [h1]
      simp
    have hk := AnyQ.slices_SortFunc shSortF 2 Tryz.isAgg62 Tryz.sizeOf62 encC (fun _ => rfl) (fun x v hv => by simp [encC] at hv; rcases hv with rfl | rfl <;> rfl) (fun x y : Int × Int => Lib.compareInt x.1 y.1) swoC 39 #[] g 0 cap L.toArray w
      (enters_of Tryz.func39 (by kernel_rfl) rfl) (fun _ _ _ _ x y => run1_any x y _) hH hlt (by simp; omega)
    rw [show L.toArray.size = L.length by simp] at hk
    refine hk.mono ?_
    rintro e w' ⟨rfl, d', q, os, _, _, rfl⟩
    refine ⟨rfl, rfl, rfl, rfl, by simp [sortWorldK, putRowK], fun i hi hne => ?_⟩
    unfold sortWorldK
    rw [heap_grow_old _ _ (by simpa [putRowK] using hi)]
    have : g ≠ i := fun e => hne (by rw [e]; rfl)
    simp only [putRowK, putRow, mapBlock, heap_ahead, Array.getElem?_modify, if_neg this]
end Go.Proofs.YtpkhcncempoohaaGreatDoor

namespace Go.Proofs.YtpkhcncempoohaaGreatDoor
open Go.RowKit Zp
section
variable {p : Nat} [NeZero p]
theorem at_word (code : List InsI) (size : Int) (out : Fin p) (zc n i : Nat) (y x a : Fin p) (R : Nat → Fin p → Fin p) (rw rw' : Nat → Int) (h1 : ∀ k, el p (rw k) = R k (tD p n i)) (h2 : ∀ k, el p (rw' k) = R k (eH p n * tD p n i)) :
    (sumT (code.length + 28) fun q => pw a q * (termsK code size out zc y x (rE p rw) (rE p rw') (fun κ => divK n κ (tD p n i))).getD q 0) = combW a (wordsK n (compK code size out zc y x) R) i := by
  have e1 : rE p rw = fun j => R j (tD p n i) := funext h1
  have e2 : rE p rw' = fun j => R j (eH p n * tD p n i) := funext h2
  have hl : (wordsK n (compK code size out zc y x) R).length = code.length + 28 := by rw [wordsK, List.length_map, compK_length]
  rw [comb_sum, hl]
  refine sumT_congr fun q hq => ?_
  congr 1
  rw [e1, e2]
  have hq' : q < (compK code size out zc y x).length := by rw [compK_length]; exact hq
  unfold termsK wordsK
  rw [List.getD_eq_getElem?_getD, List.getD_eq_getElem?_getD, List.getElem?_map, List.getElem?_map, List.getElem?_eq_getElem hq']
  rfl
theorem tD_next {n : Nat} (h : FitN p n) (i : Nat) : tD p n ((i + 8) % (8 * n)) = eH p n * tD p n i := by
  have hn := h.pos
  unfold tD
  rw [pw_mod h.ord8.one, h.root8, pw_add]
  grind
end
end Go.Proofs.YtpkhcncempoohaaGreatDoor

namespace Go.Proofs.YtpkhcncempoohaaGreatDoor
open Go.RowKit Zp
structure RowsZ (w : World) (g N m : Nat) (rw : Nat → Nat → Int) : Prop where
  row : ∀ i, i < N → ∃ gi ci, w.cell? ⟨g, i, none⟩ = some (.slice (some ⟨gi, 0, none⟩) m ci) ∧ ∀ k, k < m → w.cell? ⟨gi, k, none⟩ = some (vi (rw i k))
theorem RowsZ.below {w w' : World} {g N m : Nat} {rw : Nat → Nat → Int} (h : RowsZ w g N m rw) (hb : Below w.heap.size w w') : RowsZ w' g N m rw := ⟨fun i hi => by
  obtain ⟨gi, ci, h1, h2⟩ := h.row i hi
  exact ⟨gi, ci, (hb.cell (block_lt_of_cell h1)).trans h1, fun k hk => (hb.cell (block_lt_of_cell (h2 k hk))).trans (h2 k hk)⟩⟩
noncomputable def wordV {p : Nat} [NeZero p] (n : Nat) (code : List InsI) (size : Int) (out : Fin p) (y x a : Fin p) (R : Nat → Fin p → Fin p) : List Int := (List.range (8 * n)).map fun i => fv (combW a (wordsK n (compK code size out (20 + code.length) y x) R) i)
set_option maxRecDepth 100000 in
set_option maxHeartbeats 4000000 in
theorem compose_any (P b p n : Nat) [NeZero p] (size : Int) (AI : Option Addr) (L cI E D : Nat) (code : List InsI) (g cG : Nat) (AZ : Option Addr) (cZ : Nat) (R : Nat → Fin p → Fin p) (outc x y a : Int) (ho : I64 outc) (hx : I64 x) (hy : I64 y) (ha : I64 a) (hlen : code.length = L) (hfit : FitsN p n L) (hfp : FitN p n) (hp2 : p ≤ 2147483647) (hsz : I64 size)
    (N : Nat) (hN : N = 8 * n) (w : World) (hP : PL w P b p n size AI L cI E D) (hIT : IT w AI code) (hR : RowsZ w g N (20 + L) fun i k => fv (R k (tD p n i))) (hZ : SL w AZ ((List.range N).map fun i => fv (R (20 + L) (tD p n i)))) :
    Calls Tryz.prog 31 #[.pointer (some ⟨P, 0, none⟩), vi outc, .slice (some ⟨g, 0, none⟩) N cG, .slice AZ N cZ, .agg #[vi x, vi y, vi a, vi 0]] w fun e w' => ∃ v, e = .returned v ∧ Own w' w.heap.size v (wordV n code size (el p outc) (el p y) (el p x) (el p a) R) ∧ Below w.heap.size w w' := by
  have hn1 := hfit.n
  have hb1 : Below w.heap.size w (w.alloc (.cells #[vi x, vi y, vi a, vi 0] 77)) := (Below.refl _ _).alloc (Nat.le_refl _) _
  obtain ⟨c9, hc9⟩ : ∃ c, c = w.heap.size := ⟨_, rfl⟩
  have hB9 := Blk.new w 77 #[vi x, vi y, vi a, vi 0]
  rw [← hc9] at hB9
  obtain ⟨wx, hwx⟩ : ∃ wx, wx = w.alloc (.cells #[vi x, vi y, vi a, vi 0] 77) := ⟨_, rfl⟩
  rw [← hwx] at hb1 hB9
  obtain ⟨WV, hWV⟩ : ∃ WV : Nat → Int, WV = fun i => fv (combW (el p a) (wordsK n (compK code size (el p outc) (20 + code.length) (el p y) (el p x)) R) i) := ⟨_, rfl⟩
  obtain ⟨RZ, hRZ⟩ : ∃ RZ : Nat → Nat → Int, RZ = fun i k => fv (R k (tD p n i)) := ⟨_, rfl⟩
  have hRx : RowsZ wx g N (20 + L) RZ := by rw [hRZ]; exact hR.below hb1
  have hZx := hZ.below hb1
  have HAT : Hid (∀ i, i < N → ∀ W, Below wx.heap.size wx W → ∀ gi ci gk ck, W.cell? ⟨g, i, none⟩ = some (.slice (some ⟨gi, 0, none⟩) (20 + L) ci) → W.cell? ⟨g, (i + 8) % N, none⟩ = some (.slice (some ⟨gk, 0, none⟩) (20 + L) ck) →
      Calls Tryz.prog 62 #[.pointer (some ⟨P, 0, none⟩), vi i, vi outc, .slice (some ⟨gi, 0, none⟩) (20 + L) ci, .slice (some ⟨gk, 0, none⟩) (20 + L) ck, vi (RZ i (20 + L)), vi (RZ ((i + 8) % N) (20 + L)), .agg #[vi x, vi y, vi a, vi 0]] W fun e w' => e = .returned (vi (WV i)) ∧ Below W.heap.size W w') := Lib.hid fun i hi W hW gi ci gk ck hgi hgk => by
    have hk : (i + 8) % N < N := Nat.mod_lt _ (by omega)
    have hRW := hRx.below hW
    obtain ⟨gi', ci', h1, h2⟩ := hRW.row i hi
    obtain ⟨gk', ck', h3, h4⟩ := hRW.row _ hk
    rw [hgi] at h1
    rw [hgk] at h3
    injection h1 with h1
    injection h1 with h1 _ h1c
    injection h1 with h1
    injection h1 with h1
    injection h3 with h3
    injection h3 with h3 _ h3c
    injection h3 with h3
    injection h3 with h3
    subst h1 h3
    have hI : ∀ i k, I64 (RZ i k) := fun i k => by rw [hRZ]; exact i64_fv _ hp2
    have hA : AtI W P b p n size AI L cI E D code gi gk (RZ i) (RZ ((i + 8) % N)) := ⟨(hP.below hb1).below hW, (hIT.below hb1).below hW, hlen, hfit, hfp, hp2, hsz, h2, h4, hI i, hI _⟩
    refine (at_any P b p n size AI L cI E D code gi gk ci ck (RZ i) (RZ ((i + 8) % N)) (20 + L) i (by omega) outc x y a ho hx hy ha W hA).mono fun e w' h => ⟨?_, h.2⟩
    rw [h.1, hWV]
    have e := at_word code size (el p outc) (20 + code.length) n i (el p y) (el p x) (el p a) R (RZ i) (RZ ((i + 8) % N)) (fun k => by rw [hRZ]; exact el_fv _) (fun k => by rw [hRZ]; simp only [el_fv]; rw [hN, tD_next hfp])
    rw [hlen] at e ⊢
    rw [e]
  have HRX := Lib.hid hRx
  have HZX := Lib.hid (show SL wx AZ ((List.range N).map fun i => RZ i (20 + L)) by rw [hRZ]; exact hZx)
  have HB := Lib.hid (And.intro hb1 (And.intro hB9 (show w.heap.size ≤ wx.heap.size from hb1.size)))
  have HWV := Lib.hid (show wordV n code size (el p outc) (el p y) (el p x) (el p a) R = (List.range N).map WV by rw [hWV, hN]; rfl)
  have HW := Lib.hid (And.intro hwx hc9)
  have hN1 : 8 ≤ N := by omega
  have hN2 : N ≤ 4096 := by omega
  have HNN := Lib.hid hN
  rw [HWV.out]
  clear hP hIT hR hZ hRx hZx hB9 hRZ hWV hwx hc9 hlen hfit hfp hN hn1
  go_enter Tryz.func31, Tryz.ntmps31
  go_upto_region 1 with (fail)
  rw [← HW.out.1, ← HW.out.2]
  have hmk := make_ints0 N (by omega)
  go_wp2
  clear hmk
  go_loopw [11, 19] (fun v i wr => ∃ k : Nat, k ≤ N ∧ i = vi k ∧ Own wr wx.heap.size v (((List.range N).map WV).take k) ∧ Below wx.heap.size wx wr) (fun _ i _ => N - (intOf i).toNat)
  case atStart => exact ⟨0, by omega, rfl, own_made0 wx _ N (Nat.le_refl _) (by omega), (Below.refl _ _).alloc (Nat.le_refl _) _⟩
  case round =>
    rename World => w1
    obtain ⟨k, hk, rfl, hO, hb⟩ := hrel
    by_cases hkN : k < N
    · obtain ⟨k', hk'⟩ : ∃ k', k' = (k + 8) % N := ⟨_, rfl⟩
      have hk2 : k' < N := by rw [hk']; exact Nat.mod_lt _ (by omega)
      have hm8 : IntKind.i64.wrap ((k : Int) + 8) = (k : Int) + 8 := IntWalk.i64_in _ (by constructor <;> omega)
      have htm : ((k : Int) + 8).tmod (N : Int) = (k' : Int) := by
        rw [hk', Int.tmod_eq_emod_of_nonneg (by omega)]
        simp
      have hR1 := HRX.out.below hb
      obtain ⟨g1, c1, hg1, _⟩ := hR1.row k hkN
      obtain ⟨g2, c2, hg2, _⟩ := hR1.row k' hk2
      have hZ1 := HZX.out
      obtain ⟨ad, ead, hzb, hz1⟩ := hZ1.at_ (k := k) (by simp; exact hkN)
      obtain ⟨ad', ead', _, hz2⟩ := hZ1.at_ (k := k') (by simp; exact hk2)
      rw [ead] at ead'
      injection ead' with ead'
      subst ead'
      subst ead
      simp only [List.getElem_map, List.getElem_range] at hz1 hz2
      obtain ⟨z1, hz1'⟩ : ∃ z, z = RZ k (20 + L) := ⟨_, rfl⟩
      obtain ⟨z2, hz2'⟩ : ∃ z, z = RZ k' (20 + L) := ⟨_, rfl⟩
      rw [← hz1'] at hz1
      rw [← hz2'] at hz2
      have i1 : (0 : Int) ≤ (k : Int) := by omega
      have i2 : (k : Int) < (N : Int) := by omega
      have i3 : (0 : Int) ≤ (k' : Int) := by omega
      have i4 : (k' : Int) < (N : Int) := by omega
      have iN : ¬ (N : Int) = 0 := by omega
      have HAK : Hid (∀ W, Below wx.heap.size wx W → W.cell? ⟨g, k, none⟩ = some (.slice (some ⟨g1, 0, none⟩) (20 + L) c1) → W.cell? ⟨g, k', none⟩ = some (.slice (some ⟨g2, 0, none⟩) (20 + L) c2) →
        Calls Tryz.prog 62 #[.pointer (some ⟨P, 0, none⟩), vi k, vi outc, .slice (some ⟨g1, 0, none⟩) (20 + L) c1, .slice (some ⟨g2, 0, none⟩) (20 + L) c2, vi z1, vi z2, .agg #[vi x, vi y, vi a, vi 0]] W fun e w' => e = .returned (vi (WV k)) ∧ Below W.heap.size W w') := Lib.hid fun W hW h1 h2 => by
        rw [hk'] at h2
        rw [hz1', hz2', hk']
        exact HAT.out k hkN W hW g1 c1 g2 c2 h1 h2
      have KS : Hid (∀ W, Below wx.heap.size wx W → W.cell? ⟨g, k, none⟩ = some (.slice (some ⟨g1, 0, none⟩) (20 + L) c1) ∧ W.cell? ⟨g, k', none⟩ = some (.slice (some ⟨g2, 0, none⟩) (20 + L) c2) ∧ W.cell? (ad.add k) = some (vi z1) ∧ W.cell? (ad.add k') = some (vi z2) ∧ W.cell? ⟨c9, 0, none⟩ = some (vi x) ∧ W.cell? ⟨c9, 1, none⟩ = some (vi y) ∧ W.cell? ⟨c9, 2, none⟩ = some (vi a) ∧ W.cell? ⟨c9, 3, none⟩ = some (vi 0)) := Lib.hid fun W hW => by
        obtain ⟨g1', c1', h1, _⟩ := HRX.out.row k hkN
        obtain ⟨g2', c2', h2, _⟩ := HRX.out.row k' hk2
        have h1b := hg1
        have h2b := hg2
        rw [(hb.cell (block_lt_of_cell h1)).trans h1] at h1b
        rw [(hb.cell (block_lt_of_cell h2)).trans h2] at h2b
        have hB := HB.out.2.1.below hW HB.out.2.1.lt
        exact ⟨((hW.cell (block_lt_of_cell h1)).trans h1).trans h1b, ((hW.cell (block_lt_of_cell h2)).trans h2).trans h2b, (hW.cell (block_lt_of_cell hz1)).trans hz1, (hW.cell (block_lt_of_cell hz2)).trans hz2, (hB.cell 0).trans rfl, (hB.cell 1).trans rfl, (hB.cell 2).trans rfl, (hB.cell 3).trans rfl⟩
      have HTK : Hid (((List.range N).map WV).take (k + 1) = ((List.range N).map WV).take k ++ [WV k]) := Lib.hid (by
        rw [List.take_add_one, List.getElem?_eq_getElem (by simp; exact hkN), Option.toList_some]
        simp)
      have HLK := Lib.hid (show (((List.range N).map WV).take k).length + 1 ≤ 1000000 by simp; omega)
      have HO := Lib.hid (And.intro hO hb)
      have HK' := Lib.hid hk'
      clear hR1 hg1 hg2 hZ1 hz1 hz2 hz1' hz2' hzb hO hk' HAT
      go_upto_region 6 with (fail)
      refine wp_region_held_drew (S := fun W => W.cell? ⟨g, k, none⟩ = some (.slice (some ⟨g1, 0, none⟩) (20 + L) c1) ∧ W.cell? ⟨g, k', none⟩ = some (.slice (some ⟨g2, 0, none⟩) (20 + L) c2) ∧ W.cell? (ad.add k) = some (vi z1) ∧ W.cell? (ad.add k') = some (vi z2) ∧ W.cell? ⟨c9, 0, none⟩ = some (vi x) ∧ W.cell? ⟨c9, 1, none⟩ = some (vi y) ∧ W.cell? ⟨c9, 2, none⟩ = some (vi a) ∧ W.cell? ⟨c9, 3, none⟩ = some (vi 0)) (by kernel_rfl) (KS.out _ (below_drewN HO.out.2 1)) (fun hHeld => ?_)
      refine tkH 0 ?_
      refine tkH 1 ?_
      refine tkH 2 ?_
      refine tkH 3 ?_
      refine tkH 4 ?_
      refine tkH 5 ?_
      refine tkH 6 ?_
      refine tkH 7 ?_
      refine tkH 8 ?_
      refine tkH 9 ?_
      refine tkH 10 ?_
      refine tkH 11 ?_
      refine tkH 12 ?_
      refine tkH 13 ?_
      refine tkH 14 ?_
      refine tkH 15 ?_
      refine tkH 16 ?_
      refine tkH 17 ?_
      refine tkH 18 ?_
      refine tkH 19 ?_
      refine tkH 20 ?_
      refine stH 21 (fun K hK => ?_)
      go_simp
      refine (HAK.out _ (below_drewN HO.out.2 1) hHeld.1 hHeld.2.1).mono ?_
      rintro _ w2 ⟨rfl, hb2⟩
      have HB2 : Hid (Own w2 wx.heap.size u11 (((List.range N).map WV).take k) ∧ Below wx.heap.size wx w2) := Lib.hid ⟨(HO.out.1.drewN 1).below hb2, (below_drewN HO.out.2 1).trans (hb2.mono HO.out.2.size)⟩
      clear hb2
      refine hK.out _ _ (KS.out _ HB2.out.2) (fun hHeld => ?_)
      clear hK K
      (try simp only [Act.put, List.setIfInBounds_toArray, List.set_cons_zero, List.set_cons_succ])
      refine stH 22 (fun K hK => ?_)
      go_simp
      refine hK.out _ _ (KS.out _ (HB2.out.2.alloc HB2.out.2.size _)) (fun hHeld => ?_)
      clear hK K
      (try simp only [Act.put, List.setIfInBounds_toArray, List.set_cons_zero, List.set_cons_succ])
      refine stH 23 (fun K hK => ?_)
      refine step_appL wx _ _ [_] 1 rfl (by rfl) _ _ (by rfl) _ _ (by rfl) (by rfl) (by rfl) HB2.out.1 HB2.out.2 HLK.out ?_
      intro v3 w3 hO3 hb3
      change K (Act.put _ (some 50) _) _
      refine hK.out _ _ (KS.out _ hb3) (fun hHeld => ?_)
      clear hK K
      (try simp only [Act.put, List.setIfInBounds_toArray, List.set_cons_zero, List.set_cons_succ])
      refine tkH 24 ?_
      refine wpAnyH_done (by kernel_rfl) ?_ _
      have HB3 : Hid (Own w3 wx.heap.size v3 (((List.range N).map WV).take (k + 1)) ∧ Below wx.heap.size wx w3) := Lib.hid ⟨by rw [HTK.out]; exact hO3, hb3⟩
      clear hO3 hb3
      go_wp2
      exact ⟨⟨k + 1, by omega, by go_num, HB3.out⟩, by simp [intOf]; omega⟩
    · obtain rfl : k = N := by omega
      rw [List.take_of_length_le (by simp)] at hO
      go_wp2
      go_ret
      exact ⟨_, rfl, hO.more HB.out.2.2, HB.out.1.trans (hb.mono HB.out.2.2)⟩
end Go.Proofs.YtpkhcncempoohaaGreatDoor

namespace Go.Proofs.YtpkhcncempoohaaGreatDoor
open Go.RowKit Zp
set_option maxRecDepth 100000 in
set_option maxHeartbeats 1000000 in
theorem indexNo_any (K : Nat) (hK : ∀ (args : Array Value) (w : World), (callFunc K args).run Tryz.prog w = .ok (.enter K args) w) (caps : Array Value) (A : Option Addr) (N c : Nat) (ts : List (List Int)) (hN : ts.length = N) (hN2 : N ≤ 9223372036854775806)
    (w : World) (hY : ∀ W, Below w.heap.size w W → ∀ (A1 : Option Addr) (n1 c1 : Nat) (x : List Int), x ∈ ts → x.length = n1 → n1 ≤ 9223372036854775807 → SL W A1 x → Calls Tryz.prog K (#[.slice A1 n1 c1] ++ caps) W fun e w' => e = .returned (.bool false) ∧ Below W.heap.size W w') (hT : TB w A ts) :
    Calls Tryz.prog 61 #[.slice A N c, .func (.func K) #[] caps] w fun e w' => e = .returned (vi (-1)) ∧ Below w.heap.size w w' := by
  have HN := Lib.hid hN
  have HT := Lib.hid hT
  have HY := Lib.hid hY
  clear hN hT hY
  go_enter Tryz.func61, Tryz.ntmps61
  go_wp2
  go_loopw [8] (fun i wr => ∃ k : Nat, k ≤ N ∧ i = vi k ∧ Below w.heap.size w wr) (fun i _ => N - (intOf i).toNat)
  case atStart => exact ⟨0, Nat.zero_le _, rfl, Below.refl _ _⟩
  case round =>
    rename World => w1
    obtain ⟨k, hk, rfl, hb⟩ := hrel
    have HB := Lib.hid hb
    clear hb
    by_cases hlt : k < N
    · have hkt : k < ts.length := by rw [HN.out]; exact hlt
      obtain ⟨ad, A1, n1, c1, rfl, hb1, hc1, hl1, hn1, hs1, _⟩ := HT.out k hkt
      have i1 : (0 : Int) ≤ k := by omega
      have i2 : (k : Int) < N := by omega
      have i3 : (k : Int) + 1 ≤ 9223372036854775807 := by omega
      have hyk := HY.out w1 HB.out A1 n1 c1 _ (List.getElem_mem hkt) hl1 (by omega) (hs1.below HB.out)
      have hc2 := (HB.out.cell hb1).trans hc1
      have HYK := Lib.hid hyk
      clear hl1 hs1 hyk hc1 hb1
      go_wp2_with fail
      refine HYK.out.mono ?_
      rintro _ w2 ⟨rfl, hb2⟩
      have HB2 := Lib.hid (HB.out.trans (hb2.mono HB.out.size))
      clear hb2
      go_wp2
      exact ⟨⟨k + 1, by omega, by go_num, HB2.out⟩, by simp [intOf]; omega⟩
    · obtain rfl : k = N := by omega
      go_wp2
      go_ret
      exact ⟨rfl, HB.out⟩
set_option maxRecDepth 100000 in
set_option maxHeartbeats 1000000 in
theorem containsNo_any (K : Nat) (hK : ∀ (args : Array Value) (w : World), (callFunc K args).run Tryz.prog w = .ok (.enter K args) w) (caps : Array Value) (A : Option Addr) (N c : Nat) (ts : List (List Int)) (hN : ts.length = N) (hN2 : N ≤ 9223372036854775806)
    (w : World) (hY : ∀ W, Below w.heap.size w W → ∀ (A1 : Option Addr) (n1 c1 : Nat) (x : List Int), x ∈ ts → x.length = n1 → n1 ≤ 9223372036854775807 → SL W A1 x → Calls Tryz.prog K (#[.slice A1 n1 c1] ++ caps) W fun e w' => e = .returned (.bool false) ∧ Below W.heap.size W w') (hT : TB w A ts) :
    Calls Tryz.prog 28 #[.slice A N c, .func (.func K) #[] caps] w fun e w' => e = .returned (.bool false) ∧ Below w.heap.size w w' := by
  have HI := Lib.hid (indexNo_any K hK caps A N c ts hN hN2 w hY hT)
  clear hY hT hN
  go_enter Tryz.func28, Tryz.ntmps28
  go_wp2_with fail
  refine HI.out.mono ?_
  rintro _ w1 ⟨rfl, hb⟩
  go_wp2
  go_ret
  exact ⟨rfl, hb⟩
set_option maxHeartbeats 1000000 in
theorem Compose1_any (c9 : Nat) (size : Int) (AI : Option Addr) (L cI : Nat) (hL : L ≤ 100000) (A1 : Option Addr) (n1 c1 : Nat) (hn : n1 = 20 + L) (w : World) (hB : Blk w c9 24 #[vi size, .slice AI L cI]) :
    Calls Tryz.prog 29 #[.slice A1 n1 c1, .pointer (some ⟨c9, 0, none⟩)] w fun e w' => e = .returned (.bool false) ∧ Below w.heap.size w w' := by
  have k0 := (hB.cell 0).trans (show _ = some (vi size) from rfl)
  have k1 := (hB.cell 1).trans (show _ = some (.slice AI L cI) from rfl)
  have e0 : ((20 + L : Nat) : Int) = 20 + (L : Int) := by omega
  subst hn
  clear hB
  go_enter Tryz.func29, Tryz.ntmps29
  go_wp2_with fail
  refine (width_any size AI L cI hL _).mono ?_
  rintro _ w1 ⟨rfl, hb⟩
  go_wp2
  go_ret
  exact ⟨by simp, hb⟩
theorem tb_rowsW {w : World} {base : Nat} {A : Option Addr} {n c : Nat} {us : List Value} {ls : List (List Int)} (h : OwnR w base (.slice A n c) us) (hr : RowsW w us ls) (hi : ∀ l ∈ ls, ∀ x ∈ l, I64 x) : TB w A ls := fun k hk => by
  have hku : k < us.length := by have := hr.1; omega
  obtain ⟨A', n', c', e0, hn, _⟩ := ownR_shape h
  injection e0 with _ e0 _
  subst e0
  subst hn
  have hrd := Reads.of_own h
  obtain ⟨ad, u, e1, e2, e3, e4⟩ := Reads.at_ (k := k) hrd (by omega)
  have e5 : u = us[k] := by
    rw [List.getElem?_eq_getElem hku] at e3
    injection e3 with e3
    exact e3.symm
  obtain ⟨A1, n1, c1, e6, e7, e8, e9, e10, _⟩ := hr.2 k hku hk
  have hm : maxLen < 9223372036854775808 := by simp [maxLen]
  exact ⟨ad, A1, n1, c1, e1, by rw [block_of_add]; exact e2, by rw [e4, e5, e6], e7, by omega, e10, hi _ (List.getElem_mem hk)⟩
noncomputable def colsR (p n L : Nat) [NeZero p] (rows : List (List Int)) (zs : List Int) (k : Nat) : Fin p → Fin p := if k = 20 + L then colP n (els p zs) else colP n (els p (colI rows k))
theorem ComposeRows {p n L : Nat} [NeZero p] {rows : List (List Int)} {zs : List Int} {w : World} {base g N : Nat} {us : List Value} (hN : N = 8 * n) (h : ColsQ w base g us ((List.range N).map (colI (colsW p n rows (20 + L))))) : RowsZ w g N (20 + L) fun i k => fv (colsR p n L rows zs k (tD p n i)) := ⟨fun i hi => by
  have hul : us.length = N := by rw [h.rows.1]; simp
  have hi1 : i < us.length := by omega
  have hi2 : i < ((List.range N).map (colI (colsW p n rows (20 + L)))).length := by simp; exact hi
  have ho := h.rows.2 i hi1 hi2
  have e1 : ((List.range N).map (colI (colsW p n rows (20 + L))))[i] = colI (colsW p n rows (20 + L)) i := by simp
  rw [e1] at ho
  have hl : (colI (colsW p n rows (20 + L)) i).length = 20 + L := by rw [colI_len]; simp [colsW]
  obtain ⟨gi, ci, hv, _, _⟩ := ho.block (by omega)
  refine ⟨gi, ci, ?_, fun k hk => ?_⟩
  · have hc := h.blk.cell i
    rw [hc, ← hl, ← hv]
    simp [hi1]
  · rw [hv] at ho
    rw [ho.at_ rfl k (by omega)]
    have e2 : (colI (colsW p n rows (20 + L)) i)[k]'(by omega) = fv (colsR p n L rows zs k (tD p n i)) := by
      simp only [colI, colsW, List.getElem_map, List.getElem_range]
      rw [colsR, if_neg (by omega), ← co_colW p n (els p (colI rows k)) (by omega)]
      have hcl := colW_length p n (els p (colI rows k))
      have e3 : (List.map (fun r => r.getD k 0) rows) = colI rows k := rfl
      unfold fvs co
      rw [e3, List.getD_eq_getElem?_getD, List.getElem?_map, List.getElem?_eq_getElem (by omega)]
      rfl
    rw [e2]⟩
set_option maxRecDepth 100000 in
set_option maxHeartbeats 4000000 in
theorem Compose_any (S b p n : Nat) [NeZero p] (size : Int) (AI : Option Addr) (L cI : Nat) (code : List InsI) (AT : Option Addr) (cT : Nat) (rows : List (List Int)) (AZ : Option Addr) (cZ : Nat) (zs : List Int) (outc x y a : Int) (ho : I64 outc) (hx : I64 x) (hy : I64 y) (ha : I64 a) (hlen : code.length = L) (hfit : FitsN p n L) (hsz : I64 size)
    (hn : rows.length = n) (hm : ∀ l ∈ rows, l.length = 20 + L) (hzn : zs.length = n) (hz : ∀ z ∈ zs, I64 z) (w : World) (F : Fld w S b p) (hIT : IT w AI code) (hT : TB w AT rows) (hZ : SL w AZ zs) :
    Calls Tryz.prog 11 #[.pointer (some ⟨b, 0, none⟩), .agg #[vi size, .slice AI L cI], vi outc, .slice AT n cT, .slice AZ n cZ, vi x, vi y, vi a] w fun e w' => ∃ v, e = .returned (.tuple #[v, .nilIface]) ∧ Own w' w.heap.size v (wordV n code size (el p outc) (el p y) (el p x) (el p a) (colsR p n L rows zs)) ∧ Below w.heap.size w w' := by
  have hn1 := hfit.n
  have hp2 := F.max
  have hfp := hfit.fit F.prime
  have hL64 : L ≤ 64 := hfit.2.2.2.2.1
  have hb1 : Below w.heap.size w (w.alloc (.cells #[vi size, .slice AI L cI] 24)) := (Below.refl _ _).alloc (Nat.le_refl _) _
  obtain ⟨c9, hc9⟩ : ∃ c, c = w.heap.size := ⟨_, rfl⟩
  have hB9 := Blk.new w 24 #[vi size, .slice AI L cI]
  rw [← hc9] at hB9
  obtain ⟨wx, hwx⟩ : ∃ wx, wx = w.alloc (.cells #[vi size, .slice AI L cI] 24) := ⟨_, rfl⟩
  rw [← hwx] at hb1 hB9
  have k0 := (hB9.cell 0).trans (show _ = some (vi size) from rfl)
  have k1 := (hB9.cell 1).trans (show _ = some (.slice AI L cI) from rfl)
  have HFIT := Lib.hid (fit_any S b p n size AI L cI hfit wx (F.below hb1 F.le))
  have HW := Lib.hid (And.intro hwx hc9)
  have HB := Lib.hid (And.intro hb1 hB9)
  have HH := Lib.hid (And.intro hlen (And.intro hfit (And.intro hfp hsz)))
  have HN := Lib.hid (And.intro hn (And.intro hm (And.intro hzn hz)))
  have HM := Lib.hid (And.intro hIT (And.intro hT hZ))
  have HO := Lib.hid (And.intro ho (And.intro hx (And.intro hy ha)))
  clear hb1 hB9 hwx hc9 hlen hfit hfp hsz hn hm hzn hz hIT hT hZ ho hx hy ha F
  go_enter Tryz.func11, Tryz.ntmps11
  go_upto_region 1 with (fail)
  rw [← HW.out.1, ← HW.out.2]
  go_wp2_with fail
  refine HFIT.out.mono ?_
  rintro _ w1 ⟨P, E, D, rfl, hPL, hb, _⟩
  have HP := Lib.hid (And.intro hPL hb)
  have hbw := HB.out.1.trans (hb.mono HB.out.1.size)
  have HCN := Lib.hid (containsNo_any 29 (enters_of Tryz.func29 (by kernel_rfl) rfl) #[.pointer (some ⟨c9, 0, none⟩)] AT n cT rows HN.out.1 (by omega) w1 (fun W hW A1 n1 c1 l hl hl1 _ _ => Compose1_any c9 size AI L cI (by omega) A1 n1 c1 (by rw [← hl1]; exact HN.out.2.1 l hl) W ((HB.out.2.below hb HB.out.2.lt).below hW (HB.out.2.below hb HB.out.2.lt).lt)) (HM.out.2.1.below hbw))
  clear hPL hb hbw k0 k1
  go_wp2_with fail
  refine HCN.out.mono ?_
  rintro _ w2 ⟨rfl, hb2⟩
  have hbw2 := HB.out.1.trans ((HP.out.2.trans (hb2.mono HP.out.2.size)).mono HB.out.1.size)
  have HCL := Lib.hid (columns_any P b p n size AI L cI E D AT cT rows HN.out.1 (20 + L) HN.out.2.1 (by omega) (by omega) (by omega) w2 (HP.out.1.below hb2) (HM.out.2.1.below hbw2))
  have HP2 := Lib.hid (And.intro (HP.out.1.below hb2) hbw2)
  clear hb2 hbw2
  go_wp2_with fail
  refine HCL.out.mono ?_
  rintro _ w3 ⟨v3, us3, rfl, hO3, hR3, hb3⟩
  obtain ⟨A3, n3, c3, rfl, hn3, _⟩ := ownR_shape hO3
  have hl3 : (colsW p n rows (20 + L)).length = 20 + L := by simp [colsW]
  have hn3' : n3 = 20 + L := by rw [← hn3, hR3.1, hl3]
  subst hn3'
  have HTN := Lib.hid (turned_any A3 (20 + L) c3 (8 * n) (colsW p n rows (20 + L)) hl3 (by omega) (by omega) (fun l hl => by
    simp only [colsW, List.mem_map, List.mem_range] at hl
    obtain ⟨j, _, rfl⟩ := hl
    simp [fvs, colW_length]) (by omega) w3 (tb_rowsW hO3 hR3 (fun l hl => by
    simp only [colsW, List.mem_map, List.mem_range] at hl
    obtain ⟨j, _, rfl⟩ := hl
    exact i64_fvs _ hp2)))
  have HP3 := Lib.hid (And.intro (HP2.out.1.below hb3) (HP2.out.2.trans (hb3.mono HP2.out.2.size)))
  clear hO3 hR3 hn3 hl3 hb3
  go_wp2_with fail
  refine HTN.out.mono ?_
  rintro _ w4 ⟨g4, us4, rfl, hg4, hC4, hb4⟩
  have HCO := Lib.hid (column_any P b p n size AI L cI E D AZ cZ zs HN.out.2.2.1 HN.out.2.2.2 w4 (HP3.out.1.below hb4) (HM.out.2.2.below (HP3.out.2.trans (hb4.mono HP3.out.2.size))))
  have hRZ := ComposeRows (L := L) (zs := zs) rfl hC4
  have HP4 := Lib.hid (And.intro (HP3.out.1.below hb4) (And.intro (HP3.out.2.trans (hb4.mono HP3.out.2.size)) hRZ))
  clear hg4 hC4 hb4 hRZ
  go_wp2_with fail
  refine HCO.out.mono ?_
  rintro _ w5 ⟨A5, c5, rfl, h51, h52, hs5, hb5, _⟩
  have hl5 : (fvs (colW p n (els p zs))).length = 8 * n := by simp [fvs, colW_length]
  have he5 : fvs (colW p n (els p zs)) = (List.range (8 * n)).map fun i => fv (colsR p n L rows zs (20 + L) (tD p n i)) := by
    apply List.ext_getElem
    · rw [hl5]; simp
    · intro i h1 h2
      have hi : i < 8 * n := by rw [hl5] at h1; exact h1
      simp only [List.getElem_map, List.getElem_range, fvs]
      rw [colsR, if_pos rfl, ← co_colW p n (els p zs) hi]
      unfold co
      rw [List.getElem?_eq_getElem (by rw [colW_length]; exact hi)]
      rfl
  rw [hl5]
  rw [he5] at hs5
  have HCM := Lib.hid (compose_any P b p n size AI L cI E D code g4 (8 * n) A5 c5 (colsR p n L rows zs) outc x y a HO.out.1 HO.out.2.1 HO.out.2.2.1 HO.out.2.2.2 HH.out.1 HH.out.2.1 HH.out.2.2.1 hp2 HH.out.2.2.2 (8 * n) rfl w5 (HP4.out.1.below hb5) (HM.out.1.below (HP4.out.2.1.trans (hb5.mono HP4.out.2.1.size))) (HP4.out.2.2.below hb5) hs5)
  have HB5 := Lib.hid (HP4.out.2.1.trans (hb5.mono HP4.out.2.1.size))
  clear h51 h52 hs5 hb5 hl5 he5
  go_wp2_with fail
  refine HCM.out.mono ?_
  rintro _ w6 ⟨v6, rfl, hO6, hb6⟩
  have HB6 := Lib.hid (And.intro (hO6.more HB5.out.size) (HB5.out.trans (hb6.mono HB5.out.size)))
  clear hO6 hb6
  go_wp2
  refine bodyPost_ret (v := .tuple #[v6, .nilIface]) (by simp [results, Tryz.results11, go_sem]) rfl ⟨_, rfl, HB6.out.1, HB6.out.2⟩
end Go.Proofs.YtpkhcncempoohaaGreatDoor

namespace Go.Proofs.YtpkhcncempoohaaGreatDoor
open Go.RowKit Zp
theorem wpList_appQ {p : Nat} {ops : Array Oper} {rest : List Oper} {o : Oper} {a : Act} {Q : Exit → Act → World → Prop} (w : World) (hgd : o.guard = none) (s x : Operand) (ho : o.op = .call { callee := .builtin .append, args := #[s, x], argTypes := #[42, 42] })
    (base base2 : Nat) (v : Value) (L M : List (Fin p × Fin p)) (u : Value) (hs : a.eval s = v) (hx : a.eval x = u) (hown : OwnQ w base v L) (hown2 : OwnQ w base2 u M) (h1 : 1 ≤ M.length) (hl : (L.length + M.length) * 16 ≤ 140737488355328) (hbase : base ≤ w.heap.size)
    (h : ∀ v' w', OwnQ w' base v' (L ++ M) → w.grownBy w' v.ownBlock → wpList Tryz.prog ops Q rest (a.put o.dst v') w') : wpList Tryz.prog ops Q (o :: rest) a w :=
  wpList_plain hgd fun _ hK => by
    obtain ⟨i0, hi, hz0, hz1, hz2⟩ := info_parts info_cell
    obtain ⟨g, cap, hv, _, _⟩ := World.ownsRow.form hown2 (by omega)
    have hc := World.ownsRow.cells hown2 (g := g) (by rw [hv]; rfl)
    obtain ⟨v', w', hrun, h2, h3, _, _⟩ := run_append_own_at (P := Tryz.prog) w base 42 o.type 62 i0 _ 2 16 Tryz.underlying42 hi hz0 hz1 hz2 (by rfl) (by omega)
      v L.length (cellsQ L) hown ⟨g, 0, none⟩ M.length cap (cellsQ M) (by rw [cellsQ_len]) (fun j u hj => hc j u hj) (fun u hu => by
        unfold cellsQ at hu
        obtain ⟨q, _, hq⟩ := List.mem_flatMap.1 hu
        simp at hq
        rcases hq with rfl | rfl <;> rfl) (by simp only [maxLen]; omega) (by omega) hbase
    unfold Oper.wp execOp
    simp only [ho, resolve, invoke, builtin, Sem.run_bind, Sem.run_pure, Result.andThen_ok, List.map_toArray, List.map_cons, List.map_nil, hs, hx, hv, hrun]
    exact hK _ _ (h v' w' (by
      unfold OwnQ
      rw [List.length_append, show cellsQ (L ++ M) = cellsQ L ++ cellsQ M by simp [cellsQ]]
      exact h2) h3)
def ApartQ {p : Nat} [NeZero p] (y : Fin p) (L : List (Fin p × Fin p)) : Prop := ∀ i k (hi : i < L.length) (hk : k < L.length), numP y L[i] = numP y L[k] → L[i] = L[k]
def ApartIs {p : Nat} [NeZero p] (y : Fin p) (L : List (Fin p × Fin p)) (w : World) (e : Ending) (w' : World) : Prop := ∃ b : Bool, e = .returned (.bool b) ∧ (b = true → ApartQ y L) ∧ Below w.heap.size w w'
set_option maxRecDepth 100000 in
set_option maxHeartbeats 2000000 in
theorem apart_any (p : Nat) [NeZero p] (hp2 : p ≤ 2147483647) (A : Option Addr) (n cA : Nat) (rows : List (List Int)) (hn : rows.length = n) (hn1 : 1 ≤ n) (hn2 : n ≤ 65536) (hlen : ∀ l ∈ rows, 20 ≤ l.length) (y : Int) (hy : I64 y) (w : World) (hT : TB w A rows) :
    Calls Tryz.prog 8 #[vi p, .slice A n cA, vi y] w (ApartIs (el p y) (pairsL p rows 3 7 (4 * n) ++ pairsL p rows 12 16 (4 * n)) w) := by
  have HP1 := Lib.hid (fun W hT => rpairs_any p hp2 A n cA rows hn hn2 3 7 (by omega) (by omega) (fun l hl => by have := hlen l hl; omega) W hT)
  have HP2 := Lib.hid (fun W hT => rpairs_any p hp2 A n cA rows hn hn2 12 16 (by omega) (by omega) (fun l hl => by have := hlen l hl; omega) W hT)
  have HNM := Lib.hid (fun (x is : Int) hx hi W => rnum_any p hp2 x is y hx hi hy W)
  obtain ⟨L1, hL1⟩ : ∃ L1, L1 = pairsL p rows 3 7 (4 * n) := ⟨_, rfl⟩
  obtain ⟨L2, hL2⟩ : ∃ L2, L2 = pairsL p rows 12 16 (4 * n) := ⟨_, rfl⟩
  have h1l : L1.length = 4 * n := by rw [hL1, pairsL_len]
  have h2l : L2.length = 4 * n := by rw [hL2, pairsL_len]
  rw [← hL1] at HP1
  rw [← hL2] at HP2
  rw [← hL1, ← hL2]
  have HT := Lib.hid hT
  have HLL := Lib.hid (And.intro h1l h2l)
  clear hL1 hL2 h1l h2l hT hn hlen
  go_enter Tryz.func8, Tryz.ntmps8
  go_wp2_with fail
  refine (HP1.out w HT.out).mono ?_
  rintro _ w1 ⟨v1, rfl, ho1, hb1⟩
  have H1 := Lib.hid (And.intro ho1 hb1)
  have HP2' := Lib.hid (HP2.out w1 (HT.out.below hb1))
  clear ho1 hb1
  go_wp2_with fail
  refine HP2'.out.mono ?_
  rintro _ w2 ⟨v2, rfl, ho2, hb2⟩
  have ho12 := OwnQ.below H1.out.1 hb2
  have hb02 := H1.out.2.trans (hb2.mono H1.out.2.size)
  have H2 := Lib.hid (And.intro ho12 (And.intro ho2 hb02))
  clear ho12 ho2 hb02 hb2
  go_upto_region 4 with (at_builtin; refine wpList_appQ w2 rfl _ _ rfl w.heap.size w1.heap.size v1 L1 L2 v2 rfl rfl H2.out.1 H2.out.2.1 (by have := HLL.out.2; omega) (by have := HLL.out; omega) H2.out.2.2.size ?_; intro v3 w3 h31 h32)
  have hb3 : Below w.heap.size w w3 := H2.out.2.2.grown h32 H2.out.2.2.size (fun q hq => (World.ownsRow.lt H2.out.1 q hq).1)
  obtain ⟨L, hL⟩ : ∃ L, L = L1 ++ L2 := ⟨_, rfl⟩
  have hLl : L.length = 8 * n := by rw [hL, List.length_append, HLL.out.1, HLL.out.2]; omega
  rw [← hL] at h31
  obtain ⟨g, cap, rfl, _, _⟩ := World.ownsRow.form h31 (by omega)
  have hcell := World.ownsRow.cells h31 (g := g) rfl
  have hC : ∀ i (hi : i < L.length), w3.cell? ⟨g, i * 2, none⟩ = some (vi (fv L[i].1)) ∧ w3.cell? ⟨g, i * 2 + 1, none⟩ = some (vi (fv L[i].2)) ∧ g < w3.heap.size := fun i hi => by
    obtain ⟨q1, q2⟩ := cellsQ_at L i hi
    have e0 := hcell (2 * i) _ q1
    have e1 := hcell (2 * i + 1) _ q2
    have f0 : (⟨g, 0, none⟩ : Addr).add (2 * i) = ⟨g, i * 2, none⟩ := by rw [addQ, Nat.mul_comm]
    have f1 : (⟨g, 0, none⟩ : Addr).add (2 * i + 1) = ⟨g, i * 2 + 1, none⟩ := by rw [addQ, Nat.mul_comm]
    rw [f0] at e0
    rw [f1] at e1
    exact ⟨e0, e1, block_lt_of_cell e0⟩
  obtain ⟨N, hN⟩ : ∃ N, N = L.length := ⟨_, rfl⟩
  rw [← hN]
  have hN9 : N ≤ 524288 := by rw [hN, hLl]; omega
  have HC := Lib.hid hC
  have HB3 := Lib.hid hb3
  have HN := Lib.hid hN
  have HLQ := Lib.hid hL
  clear hC hcell h31 h32 hb3 hL hLl hN H1 H2 HP1 HP2 HP2' HLL HT
  go_wp2
  go_loopw [9] (fun i wr => ∃ t : Nat, t ≤ N ∧ i = vi t ∧ (∀ a c (ha : a < L.length) (hc : c < L.length), a < t → c < a → numP (el p y) L[a] = numP (el p y) L[c] → L[a] = L[c]) ∧ Below w3.heap.size w3 wr) (fun i _ => N - (intOf i).toNat)
  case atStart => exact ⟨0, Nat.zero_le _, rfl, fun a c ha hc h0 => absurd h0 (Nat.not_lt_zero _), Below.refl _ _⟩
  case round =>
    rename World => w4
    obtain ⟨t, ht, rfl, hall, hb⟩ := hrel
    by_cases htN : t < N
    · have htL : t < L.length := by rw [← HN.out]; exact htN
      obtain ⟨x0, x1, hg3⟩ := HC.out t htL
      have y0 := (hb.cell (p := ⟨g, t * 2, none⟩) hg3).trans x0
      have y1 := (hb.cell (p := ⟨g, t * 2 + 1, none⟩) hg3).trans x1
      have ea := addQ g (t * 2)
      have i1 : (0 : Int) ≤ (t : Int) := by omega
      have i2 : (t : Int) < (N : Int) := by omega
      have hnm := HNM.out (fv L[t].1) (fv L[t].2) (i64_fv _ hp2) (i64_fv _ hp2) w4
      rw [el_fv, el_fv] at hnm
      obtain ⟨P, hP⟩ : ∃ P, P = L[t] := ⟨_, rfl⟩
      rw [← hP] at y0 y1 hnm
      have HNT := Lib.hid hnm
      have HPT := Lib.hid hP
      have HALL := Lib.hid (And.intro hall hb)
      clear hall hb hnm hP x0 x1
      go_wp2_with fail
      refine HNT.out.mono ?_
      rintro _ w5 ⟨rfl, hb5⟩
      have hb5' := HALL.out.2.trans (hb5.mono HALL.out.2.size)
      have HB5 := Lib.hid hb5'
      clear hb5 hb5' y0 y1
      obtain ⟨F, hF⟩ : ∃ F, F = fv (numP (el p y) (P.1, P.2)) := ⟨_, rfl⟩
      rw [← hF]
      have HFN := Lib.hid hF
      clear hF
      go_wp2
      go_loopw [11] (fun i wr => ∃ m : Nat, m ≤ t ∧ i = vi m ∧ (∀ c (hc : c < L.length), c < m → numP (el p y) P = numP (el p y) L[c] → P = L[c]) ∧ Below w3.heap.size w3 wr) (fun i _ => t - (intOf i).toNat)
      case atStart => exact ⟨0, Nat.zero_le _, rfl, fun c hc h0 => absurd h0 (Nat.not_lt_zero _), HB5.out⟩
      case round =>
        rename World => w6
        obtain ⟨m, hm, rfl, hal, hb⟩ := hrel
        by_cases hmt : m < t
        · have hmL : m < L.length := by omega
          obtain ⟨x0, x1, _⟩ := HC.out m hmL
          have y0 := (hb.cell (p := ⟨g, m * 2, none⟩) hg3).trans x0
          have y1 := (hb.cell (p := ⟨g, m * 2 + 1, none⟩) hg3).trans x1
          have eb := addQ g (m * 2)
          have j1 : (0 : Int) ≤ (m : Int) := by omega
          have j2 : (m : Int) < (N : Int) := by omega
          have j3 : (m : Int) < (t : Int) := by omega
          have hnm := HNM.out (fv L[m].1) (fv L[m].2) (i64_fv _ hp2) (i64_fv _ hp2) w6
          rw [el_fv, el_fv] at hnm
          obtain ⟨Q, hQ⟩ : ∃ Q, Q = L[m] := ⟨_, rfl⟩
          rw [← hQ] at y0 y1 hnm
          obtain ⟨u0, u1, _⟩ := HC.out t htL
          rw [← HPT.out] at u0 u1
          have HNT2 := Lib.hid hnm
          have HQT := Lib.hid hQ
          have HAL := Lib.hid (And.intro hal hb)
          have HU := Lib.hid (And.intro u0 (And.intro u1 (And.intro x0 x1)))
          clear hal hb hnm hQ x0 x1 u0 u1
          go_wp2_with fail
          refine HNT2.out.mono ?_
          rintro _ w7 ⟨rfl, hb7⟩
          have hb7' := HAL.out.2.trans (hb7.mono HAL.out.2.size)
          have z0 := (hb7'.cell (p := ⟨g, t * 2, none⟩) hg3).trans HU.out.1
          have z1 := (hb7'.cell (p := ⟨g, t * 2 + 1, none⟩) hg3).trans HU.out.2.1
          have z2 := (hb7'.cell (p := ⟨g, m * 2, none⟩) hg3).trans HU.out.2.2.1
          have z3 := (hb7'.cell (p := ⟨g, m * 2 + 1, none⟩) hg3).trans HU.out.2.2.2
          rw [← HQT.out] at z2 z3
          have HB7 := Lib.hid hb7'
          clear hb7 hb7' y0 y1
          obtain ⟨G, hG⟩ : ∃ G, G = fv (numP (el p y) (Q.1, Q.2)) := ⟨_, rfl⟩
          rw [← hG]
          have hGF : numP (el p y) P = numP (el p y) Q → F = G := fun e => by
            rw [HFN.out, hG]
            exact congrArg fv e
          have HGF := Lib.hid hGF
          clear hG hGF
          have keep : ∀ {w' : World}, Below w3.heap.size w3 w' → (F = G → P = Q) → ∃ m' : Nat, m' ≤ t ∧ vi ((m : Int) + 1) = vi m' ∧ (∀ c (hc : c < L.length), c < m' → numP (el p y) P = numP (el p y) L[c] → P = L[c]) ∧ Below w3.heap.size w3 w' := fun hb' hPQ => by
            refine ⟨m + 1, by omega, by go_num, fun c hc h0 e => ?_, hb'⟩
            by_cases hcm : c = m
            · subst hcm
              rw [← HQT.out] at e ⊢
              exact hPQ (HGF.out e)
            · exact HAL.out.1 c hc (by omega) e
          obtain ⟨p1, hp1⟩ : ∃ p1, p1 = fv P.1 := ⟨_, rfl⟩
          obtain ⟨p2, hp2'⟩ : ∃ p2, p2 = fv P.2 := ⟨_, rfl⟩
          obtain ⟨q1, hq1⟩ : ∃ q1, q1 = fv Q.1 := ⟨_, rfl⟩
          obtain ⟨q2, hq2⟩ : ∃ q2, q2 = fv Q.2 := ⟨_, rfl⟩
          rw [← hp1] at z0
          rw [← hp2'] at z1
          rw [← hq1] at z2
          rw [← hq2] at z3
          have HPQ := Lib.hid (And.intro hp1 (And.intro hp2' (And.intro hq1 hq2)))
          clear hp1 hp2' hq1 hq2
          by_cases e : F = G
          · have g1 : (F == G) = true := by simp [e]
            have HE := Lib.hid e
            clear e
            by_cases e1 : p1 = q1
            · by_cases e2 : p2 = q2
              · subst e1 e2
                go_wp2
                go_quiet (fail)
                go_wp2
                go_roundw
                case rel => exact keep (below_drewN HB7.out nq) fun h => Prod.ext (Fin.ext (Int.ofNat_inj.1 (HPQ.out.1.symm.trans HPQ.out.2.2.1))) (Fin.ext (Int.ofNat_inj.1 (HPQ.out.2.1.symm.trans HPQ.out.2.2.2)))
                case measure => simp only [intOf, Int.toNat_natCast]; omega
              · subst e1
                have g2 : (p2 == q2) = false := by simp [e2]
                go_wp2
                go_quiet (fail)
                go_wp2
                go_ret
                exact ⟨false, rfl, fun h => (by cases h), HB3.out.trans ((below_drewN HB7.out nq).mono HB3.out.size)⟩
            · have g2 : (p1 == q1) = false := by simp [e1]
              go_wp2
              go_quiet (fail)
              go_wp2
              go_ret
              exact ⟨false, rfl, fun h => (by cases h), HB3.out.trans ((below_drewN HB7.out nq).mono HB3.out.size)⟩
          · have g1 : (F == G) = false := by simp [e]
            have HE := Lib.hid e
            clear e
            go_wp2
            go_quiet (fail)
            go_wp2
            go_roundw
            case rel => exact keep (below_drewN HB7.out nq) fun h => absurd h HE.out
            case measure => simp only [intOf, Int.toNat_natCast]; omega
        · obtain rfl : m = t := by omega
          have HB6 := Lib.hid (And.intro hal hb)
          clear hal hb
          go_wp2
          go_roundw
          case rel =>
            refine ⟨m + 1, by omega, by go_num, fun a c ha hc h0 h1 e => ?_, HB6.out.2⟩
            by_cases ham : a = m
            · subst ham
              rw [← HPT.out] at e ⊢
              exact HB6.out.1 c hc h1 e
            · exact HALL.out.1 a c ha hc (by omega) h1 e
          case measure => simp only [intOf, Int.toNat_natCast]; omega
    · obtain rfl : t = N := by omega
      have HB := Lib.hid (And.intro hall hb)
      clear hall hb
      go_wp2
      go_ret
      refine ⟨true, rfl, fun _ => ?_, HB3.out.trans (HB.out.2.mono HB3.out.size)⟩
      rw [← HLQ.out]
      intro i k hi hk e
      rcases Nat.lt_trichotomy i k with h | h | h
      · exact (HB.out.1 k i hk hi (by have := HN.out; omega) h e.symm).symm
      · subst h; rfl
      · exact HB.out.1 i k hi hk (by have := HN.out; omega) h e
end Go.Proofs.YtpkhcncempoohaaGreatDoor
