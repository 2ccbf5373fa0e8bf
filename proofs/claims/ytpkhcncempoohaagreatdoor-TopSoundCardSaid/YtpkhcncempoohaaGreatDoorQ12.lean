/- A bundle of texts: Zh, Zi, Zj, Zk. -/
import Derived.Test.YtpkhcncempoohaaGreatDoorQ11
import Derived.Test.YtpkhcncempoohaaGreatDoorQ05
import Derived.Test.YtpkhcncempoohaaGreatDoorQ09
import Derived.Deep.LoopGhost
import Derived.Test.YtpkhcncempoohaaGreatDoorQ07
import Derived.Test.YtpkhcncempoohaaGreatDoorQ03
import Derived.Defers
import Derived.Recover
import Derived.Deep.DeepCutAuto
set_option linter.unusedVariables false
set_option linter.unusedSimpArgs false
set_option linter.unusedSectionVars false
namespace Go.Proofs.YtpkhcncempoohaaGreatDoor
open Go.RowKit Zp
section
variable {p : Nat} [NeZero p] {mB b gm n : Nat} {size : Int} {AI : Option Addr} {L cI : Nat} {s : StM p} {SV : Value} {d : Nat}
set_option maxHeartbeats 4000000 in
theorem one_must (hp2 : p ≤ 2147483647) (ia ib ic : Int) (hia : I64 ia) (hib : I64 ib) (v : Fin p) (hva : s.mem (s.fp + el p ia) = some v) (hvb : s.mem (s.fp + el p ib) = some v) (w : World) (h : Mac w mB b gm n size AI L cI s 0 SV d) :
    Calls Tryz.prog 107 #[.pointer (some ⟨mB, 0, none⟩), .agg #[vi 7, vi ia, vi ib, vi ic]] w (StepOk mB b gm n size AI L cI { s with pc := s.pc + 1 } SV d w) := by
  obtain ⟨op, hop⟩ : ∃ op : Int, op = 7 := ⟨_, rfl⟩
  rw [← hop]
  have hb0 : Tn [mB, gm] w (w.alloc (.cells #[vi op, vi ia, vi ib, vi ic] 121)) := (Tn.refl _ _).alloc _
  have hB0 := Blk.new w 121 #[vi op, vi ia, vi ib, vi ic]
  have hmb := (h.blk.elim fun _ h => h.elim fun _ h => h.elim fun _ h => h.elim fun _ h => h.elim fun _ h => h.elim fun _ h => h.2.lt)
  have hgb := h.map.lt
  have h0 := h.tn ((Tn.refl [] w).alloc (.cells #[vi op, vi ia, vi ib, vi ic] 121)) (by simp) (by simp) (by simp)
  obtain ⟨W0, hW0⟩ : ∃ W0, W0 = w.alloc (.cells #[vi op, vi ia, vi ib, vi ic] 121) := ⟨_, rfl⟩
  rw [← hW0] at hb0 hB0 h0
  have KS := Lib.hid (fun W' (ht : Tn [mB, gm] W0 W') => show W'.cell? ⟨w.heap.size, 0, none⟩ = some (vi op) ∧ W'.cell? ⟨w.heap.size, 1, none⟩ = some (vi ia) ∧ W'.cell? ⟨w.heap.size, 2, none⟩ = some (vi ib) ∧ W'.cell? ⟨w.heap.size, 3, none⟩ = some (vi ic) from by
    have hB := hB0.tn ht (by simp; omega)
    exact ⟨(hB.cell 0).trans rfl, (hB.cell 1).trans rfl, (hB.cell 2).trans rfl, (hB.cell 3).trans rfl⟩)
  obtain ⟨x0, x1, x2, x3⟩ := KS.out W0 (Tn.refl _ _)
  have HW0 := Lib.hid hW0
  have HB0 := Lib.hid hb0
  have HMB := Lib.hid hmb
  have H0 := Lib.hid (fun k => h0.drewN k)
  clear hW0 hb0 hB0 h h0 hmb hgb
  have HVA := Lib.hid hva
  have HVB := Lib.hid hvb
  have te : (fv v == fv v) = true := by simp
  clear hva hvb
  subst hop
  obtain ⟨c0, c4, _, _, _, cb⟩ := (H0.out 0).re
  have ipc := i64_fv s.pc hp2
  go_enter Tryz.func107, Tryz.ntmps107
  go_upto_region 1 with (fail)
  rw [← HW0.out]
  go_region_held3 (fun w' => w'.cell? ⟨mB, 0, none⟩ = some (.pointer (some ⟨b, 0, none⟩)) ∧ w'.cell? ⟨mB, 4, none⟩ = some (vi (fv s.pc)) ∧ w'.cell? ⟨b, 0, none⟩ = some (vi p)) (exact ⟨c0, c4, cb⟩) ((go_at_call 98; refine (add_any p hp2 b _ _ (by assumption) (by constructor <;> omega) _ (by exact cb)).mono ?_; rintro _ _ ⟨rfl, k0, rfl⟩))
  rw [show el p (fv s.pc) + el p 1 = s.pc + 1 by rw [el_fv, el_one]]
  go_wp2
  go_region_held3 (fun w' => w'.cell? ⟨w.heap.size, 1, none⟩ = some (vi ia) ∧ w'.cell? ⟨w.heap.size, 2, none⟩ = some (vi ib)) (first | exact ⟨x1, x2⟩ | exact ⟨(KS.out _ hT1).2.1, (KS.out _ hT1).2.2.1⟩ | exact ⟨(KS.out _ hT2).2.1, (KS.out _ hT2).2.2.1⟩) ((first | (go_at_call 106; have _t := HM1; refine (own_cell p hp2 ib hib _ HM1.out).mono ?_; rintro _ _ ⟨rfl, k2, rfl⟩) | (go_at_call 105; have _t := HM1; refine (look_yes hp2 _ v HVB.out (by omega) _ (HM1.out.drewN k2)).mono ?_; rintro _ w2 ⟨rfl, hM2, hT2⟩; have HM2 := Lib.hid hM2; replace hT2 := hT1.trans (((Tn.refl _ _).drewN k2).trans hT2); clear hM2) | (go_at_call 106; refine (own_cell p hp2 ia hia _ (H0.out _)).mono ?_; rintro _ _ ⟨rfl, k1, rfl⟩) | (go_at_call 105; refine (look_yes hp2 _ v HVA.out (by omega) _ (H0.out _)).mono ?_; rintro _ w1 ⟨rfl, hM1, hT1⟩; have HM1 := Lib.hid hM1; replace hT1 := (((Tn.refl _ _).drewN _).trans hT1 : Tn [mB, gm] W0 w1); clear hM1) | (go_at_call 104; refine (must_yes _).mono ?_; rintro _ _ ⟨rfl, rfl⟩)))
  have HM := HM2
  have HT := Lib.hid hT2
  clear hT1 hT2
  have g4 := HM.out.regs.1
  have f4 := HM.out.thaw 4
  go_wp2
  go_end0
  exact ⟨rfl, ⟨_, _, by omega, by omega, HM.out.set_pc _⟩, HB0.out.trans (HT.out.setCell (.inl (by simp)) _)⟩
set_option maxHeartbeats 4000000 in
theorem one_must_no1 (hp2 : p ≤ 2147483647) (ia ib ic : Int) (hia : I64 ia) (hva : s.mem (s.fp + el p ia) = none) (w : World) (h : Mac w mB b gm n size AI L cI s 0 SV d) :
    Calls Tryz.prog 107 #[.pointer (some ⟨mB, 0, none⟩), .agg #[vi 7, vi ia, vi ib, vi ic]] w (StepNo mB gm w) := by
  obtain ⟨op, hop⟩ : ∃ op : Int, op = 7 := ⟨_, rfl⟩
  rw [← hop]
  have hb0 : Tn [mB, gm] w (w.alloc (.cells #[vi op, vi ia, vi ib, vi ic] 121)) := (Tn.refl _ _).alloc _
  have hB0 := Blk.new w 121 #[vi op, vi ia, vi ib, vi ic]
  have hmb := (h.blk.elim fun _ h => h.elim fun _ h => h.elim fun _ h => h.elim fun _ h => h.elim fun _ h => h.elim fun _ h => h.2.lt)
  have hgb := h.map.lt
  have h0 := h.tn ((Tn.refl [] w).alloc (.cells #[vi op, vi ia, vi ib, vi ic] 121)) (by simp) (by simp) (by simp)
  obtain ⟨W0, hW0⟩ : ∃ W0, W0 = w.alloc (.cells #[vi op, vi ia, vi ib, vi ic] 121) := ⟨_, rfl⟩
  rw [← hW0] at hb0 hB0 h0
  have KS := Lib.hid (fun W' (ht : Tn [mB, gm] W0 W') => show W'.cell? ⟨w.heap.size, 0, none⟩ = some (vi op) ∧ W'.cell? ⟨w.heap.size, 1, none⟩ = some (vi ia) ∧ W'.cell? ⟨w.heap.size, 2, none⟩ = some (vi ib) ∧ W'.cell? ⟨w.heap.size, 3, none⟩ = some (vi ic) from by
    have hB := hB0.tn ht (by simp; omega)
    exact ⟨(hB.cell 0).trans rfl, (hB.cell 1).trans rfl, (hB.cell 2).trans rfl, (hB.cell 3).trans rfl⟩)
  obtain ⟨x0, x1, x2, x3⟩ := KS.out W0 (Tn.refl _ _)
  have HW0 := Lib.hid hW0
  have HB0 := Lib.hid hb0
  have HMB := Lib.hid hmb
  have H0 := Lib.hid (fun k => h0.drewN k)
  clear hW0 hb0 hB0 h h0 hmb hgb
  have HVA := Lib.hid hva
  clear hva
  subst hop
  obtain ⟨c0, c4, _, _, _, cb⟩ := (H0.out 0).re
  have ipc := i64_fv s.pc hp2
  go_enter Tryz.func107, Tryz.ntmps107
  go_upto_region 1 with (fail)
  rw [← HW0.out]
  go_region_held3 (fun w' => w'.cell? ⟨mB, 0, none⟩ = some (.pointer (some ⟨b, 0, none⟩)) ∧ w'.cell? ⟨mB, 4, none⟩ = some (vi (fv s.pc)) ∧ w'.cell? ⟨b, 0, none⟩ = some (vi p)) (exact ⟨c0, c4, cb⟩) ((go_at_call 98; refine (add_any p hp2 b _ _ (by assumption) (by constructor <;> omega) _ (by exact cb)).mono ?_; rintro _ _ ⟨rfl, k0, rfl⟩))
  rw [show el p (fv s.pc) + el p 1 = s.pc + 1 by rw [el_fv, el_one]]
  go_wp2
  have ht0 : Tn [mB, gm] W0 (W0.drewN (1 + k0 + 1)) := (Tn.refl _ _).drewN _
  clear x0 x1 x2 x3
  refine wp_region_held_drew (S := fun w' => w'.cell? ⟨w.heap.size, 0, none⟩ = some (vi 7) ∧ w'.cell? ⟨w.heap.size, 1, none⟩ = some (vi ia) ∧ w'.cell? ⟨w.heap.size, 2, none⟩ = some (vi ib) ∧ w'.cell? ⟨w.heap.size, 3, none⟩ = some (vi ic)) (by kernel_rfl) (KS.out _ ht0) (fun hHeld => ?_)
  refine tkH 0 ?_
  refine tkH 1 ?_
  refine tkH 2 ?_
  refine tkH 3 ?_
  refine tkH 6 ?_
  refine tkH 7 ?_
  refine tkH 8 ?_
  refine tkH 9 ?_
  refine stH 4 (fun K hK => ?_)
  go_simp
  refine (own_cell p hp2 ia hia _ (H0.out _)).mono ?_
  rintro _ _ ⟨rfl, k1, rfl⟩
  have ht1 : Tn [mB, gm] W0 ((W0.drewN (1 + k0 + 1)).drewN k1) := ((Tn.refl _ _).drewN _).drewN _
  refine hK.out _ _ (by (first | exact KS.out _ (by assumption) | (simp only [Act.put]; exact KS.out _ (by assumption)))) (fun hHeld => ?_)
  clear hK K
  (try simp only [Act.put, List.setIfInBounds_toArray, List.set_cons_zero, List.set_cons_succ])
  refine stH 5 (fun K hK => ?_)
  go_simp
  refine (look_no hp2 _ HVA.out _ (H0.out _)).mono ?_
  rintro _ _ ⟨rfl, rfl⟩
  exact ⟨rfl, rfl, HB0.out.trans ((Tn.refl _ _).drewN _)⟩
set_option maxHeartbeats 4000000 in
theorem one_must_no2 (hp2 : p ≤ 2147483647) (ia ib ic : Int) (hia : I64 ia) (hib : I64 ib) (va : Fin p) (hva : s.mem (s.fp + el p ia) = some va) (hvb : s.mem (s.fp + el p ib) = none) (w : World) (h : Mac w mB b gm n size AI L cI s 0 SV d) :
    Calls Tryz.prog 107 #[.pointer (some ⟨mB, 0, none⟩), .agg #[vi 7, vi ia, vi ib, vi ic]] w (StepNo mB gm w) := by
  obtain ⟨op, hop⟩ : ∃ op : Int, op = 7 := ⟨_, rfl⟩
  rw [← hop]
  have hb0 : Tn [mB, gm] w (w.alloc (.cells #[vi op, vi ia, vi ib, vi ic] 121)) := (Tn.refl _ _).alloc _
  have hB0 := Blk.new w 121 #[vi op, vi ia, vi ib, vi ic]
  have hmb := (h.blk.elim fun _ h => h.elim fun _ h => h.elim fun _ h => h.elim fun _ h => h.elim fun _ h => h.elim fun _ h => h.2.lt)
  have hgb := h.map.lt
  have h0 := h.tn ((Tn.refl [] w).alloc (.cells #[vi op, vi ia, vi ib, vi ic] 121)) (by simp) (by simp) (by simp)
  obtain ⟨W0, hW0⟩ : ∃ W0, W0 = w.alloc (.cells #[vi op, vi ia, vi ib, vi ic] 121) := ⟨_, rfl⟩
  rw [← hW0] at hb0 hB0 h0
  have KS := Lib.hid (fun W' (ht : Tn [mB, gm] W0 W') => show W'.cell? ⟨w.heap.size, 0, none⟩ = some (vi op) ∧ W'.cell? ⟨w.heap.size, 1, none⟩ = some (vi ia) ∧ W'.cell? ⟨w.heap.size, 2, none⟩ = some (vi ib) ∧ W'.cell? ⟨w.heap.size, 3, none⟩ = some (vi ic) from by
    have hB := hB0.tn ht (by simp; omega)
    exact ⟨(hB.cell 0).trans rfl, (hB.cell 1).trans rfl, (hB.cell 2).trans rfl, (hB.cell 3).trans rfl⟩)
  obtain ⟨x0, x1, x2, x3⟩ := KS.out W0 (Tn.refl _ _)
  have HW0 := Lib.hid hW0
  have HB0 := Lib.hid hb0
  have HMB := Lib.hid hmb
  have H0 := Lib.hid (fun k => h0.drewN k)
  clear hW0 hb0 hB0 h h0 hmb hgb
  have HVA := Lib.hid hva
  have HVB := Lib.hid hvb
  clear hva hvb
  subst hop
  obtain ⟨c0, c4, _, _, _, cb⟩ := (H0.out 0).re
  have ipc := i64_fv s.pc hp2
  go_enter Tryz.func107, Tryz.ntmps107
  go_upto_region 1 with (fail)
  rw [← HW0.out]
  go_region_held3 (fun w' => w'.cell? ⟨mB, 0, none⟩ = some (.pointer (some ⟨b, 0, none⟩)) ∧ w'.cell? ⟨mB, 4, none⟩ = some (vi (fv s.pc)) ∧ w'.cell? ⟨b, 0, none⟩ = some (vi p)) (exact ⟨c0, c4, cb⟩) ((go_at_call 98; refine (add_any p hp2 b _ _ (by assumption) (by constructor <;> omega) _ (by exact cb)).mono ?_; rintro _ _ ⟨rfl, k0, rfl⟩))
  rw [show el p (fv s.pc) + el p 1 = s.pc + 1 by rw [el_fv, el_one]]
  go_wp2
  have ht0 : Tn [mB, gm] W0 (W0.drewN (1 + k0 + 1)) := (Tn.refl _ _).drewN _
  clear x0 x1 x2 x3
  refine wp_region_held_drew (S := fun w' => w'.cell? ⟨w.heap.size, 0, none⟩ = some (vi 7) ∧ w'.cell? ⟨w.heap.size, 1, none⟩ = some (vi ia) ∧ w'.cell? ⟨w.heap.size, 2, none⟩ = some (vi ib) ∧ w'.cell? ⟨w.heap.size, 3, none⟩ = some (vi ic)) (by kernel_rfl) (KS.out _ ht0) (fun hHeld => ?_)
  refine tkH 0 ?_
  refine tkH 1 ?_
  refine tkH 2 ?_
  refine tkH 3 ?_
  refine tkH 6 ?_
  refine tkH 7 ?_
  refine tkH 8 ?_
  refine tkH 9 ?_
  refine stH 4 (fun K hK => ?_)
  go_simp
  refine (own_cell p hp2 ia hia _ (H0.out _)).mono ?_
  rintro _ _ ⟨rfl, k1, rfl⟩
  have ht1 : Tn [mB, gm] W0 ((W0.drewN (1 + k0 + 1)).drewN k1) := ((Tn.refl _ _).drewN _).drewN _
  refine hK.out _ _ (by (first | exact KS.out _ (by assumption) | (simp only [Act.put]; exact KS.out _ (by assumption)))) (fun hHeld => ?_)
  clear hK K
  (try simp only [Act.put, List.setIfInBounds_toArray, List.set_cons_zero, List.set_cons_succ])
  refine stH 5 (fun K hK => ?_)
  go_simp
  refine (look_yes hp2 _ va HVA.out (by omega) _ (H0.out _)).mono ?_
  rintro _ w1 ⟨rfl, hM1, hT1⟩
  have ht2 : Tn [mB, gm] W0 w1 := ((Tn.refl _ _).drewN _).trans hT1
  have HM1 := Lib.hid hM1
  clear hM1 hT1
  refine hK.out _ _ (by (first | exact KS.out _ (by assumption) | (simp only [Act.put]; exact KS.out _ (by assumption)))) (fun hHeld => ?_)
  clear hK K
  (try simp only [Act.put, List.setIfInBounds_toArray, List.set_cons_zero, List.set_cons_succ])
  refine stH 10 (fun K hK => ?_)
  go_simp
  refine (own_cell p hp2 ib hib _ HM1.out).mono ?_
  rintro _ _ ⟨rfl, k2, rfl⟩
  have ht3 : Tn [mB, gm] W0 (w1.drewN k2) := ht2.drewN _
  refine hK.out _ _ (by (first | exact KS.out _ (by assumption) | (simp only [Act.put]; exact KS.out _ (by assumption)))) (fun hHeld => ?_)
  clear hK K
  (try simp only [Act.put, List.setIfInBounds_toArray, List.set_cons_zero, List.set_cons_succ])
  refine stH 11 (fun K hK => ?_)
  go_simp
  refine (look_no hp2 _ HVB.out _ (HM1.out.drewN k2)).mono ?_
  rintro _ _ ⟨rfl, rfl⟩
  exact ⟨rfl, rfl, HB0.out.trans ht3⟩
set_option maxHeartbeats 4000000 in
theorem one_pass (hp2 : p ≤ 2147483647) (ia ib ic : Int) (hia : I64 ia) (hib : I64 ib) (v : Fin p) (hv : s.mem (s.fp + el p ia) = some v) (m' : Fin p → Option (Fin p)) (hm : tellM s.mem (s.ap + (1 + 1) + el p ib) v = some m') (hn : n ≤ 999999) (w : World) (h : Mac w mB b gm n size AI L cI s 0 SV d) :
    Calls Tryz.prog 107 #[.pointer (some ⟨mB, 0, none⟩), .agg #[vi 13, vi ia, vi ib, vi ic]] w (StepOk mB b gm n size AI L cI { s with pc := s.pc + 1, mem := m' } SV d w) := by
  obtain ⟨op, hop⟩ : ∃ op : Int, op = 13 := ⟨_, rfl⟩
  rw [← hop]
  have hb0 : Tn [mB, gm] w (w.alloc (.cells #[vi op, vi ia, vi ib, vi ic] 121)) := (Tn.refl _ _).alloc _
  have hB0 := Blk.new w 121 #[vi op, vi ia, vi ib, vi ic]
  have hmb := (h.blk.elim fun _ h => h.elim fun _ h => h.elim fun _ h => h.elim fun _ h => h.elim fun _ h => h.elim fun _ h => h.2.lt)
  have hgb := h.map.lt
  have h0 := h.tn ((Tn.refl [] w).alloc (.cells #[vi op, vi ia, vi ib, vi ic] 121)) (by simp) (by simp) (by simp)
  obtain ⟨W0, hW0⟩ : ∃ W0, W0 = w.alloc (.cells #[vi op, vi ia, vi ib, vi ic] 121) := ⟨_, rfl⟩
  rw [← hW0] at hb0 hB0 h0
  have KS := Lib.hid (fun W' (ht : Tn [mB, gm] W0 W') => show W'.cell? ⟨w.heap.size, 0, none⟩ = some (vi op) ∧ W'.cell? ⟨w.heap.size, 1, none⟩ = some (vi ia) ∧ W'.cell? ⟨w.heap.size, 2, none⟩ = some (vi ib) ∧ W'.cell? ⟨w.heap.size, 3, none⟩ = some (vi ic) from by
    have hB := hB0.tn ht (by simp; omega)
    exact ⟨(hB.cell 0).trans rfl, (hB.cell 1).trans rfl, (hB.cell 2).trans rfl, (hB.cell 3).trans rfl⟩)
  obtain ⟨x0, x1, x2, x3⟩ := KS.out W0 (Tn.refl _ _)
  have HW0 := Lib.hid hW0
  have HB0 := Lib.hid hb0
  have HMB := Lib.hid hmb
  have H0 := Lib.hid (fun k => h0.drewN k)
  clear hW0 hb0 hB0 h h0 hmb hgb
  have HV := Lib.hid hv
  have HM0 := Lib.hid hm
  clear hv hm
  subst hop
  have c6 := (H0.out 0).regs.2.2.1
  have iap := i64_fv s.ap hp2
  obtain ⟨c0, c4, _, _, _, cb⟩ := (H0.out 0).re
  have ipc := i64_fv s.pc hp2
  go_enter Tryz.func107, Tryz.ntmps107
  go_upto_region 1 with (fail)
  rw [← HW0.out]
  go_region_held3 (fun w' => w'.cell? ⟨mB, 0, none⟩ = some (.pointer (some ⟨b, 0, none⟩)) ∧ w'.cell? ⟨mB, 4, none⟩ = some (vi (fv s.pc)) ∧ w'.cell? ⟨b, 0, none⟩ = some (vi p)) (exact ⟨c0, c4, cb⟩) ((go_at_call 98; refine (add_any p hp2 b _ _ (by assumption) (by constructor <;> omega) _ (by exact cb)).mono ?_; rintro _ _ ⟨rfl, k0, rfl⟩))
  rw [show el p (fv s.pc) + el p 1 = s.pc + 1 by rw [el_fv, el_one]]
  go_wp2
  go_region_held3 (fun w' => w'.cell? ⟨mB, 0, none⟩ = some (.pointer (some ⟨b, 0, none⟩)) ∧ w'.cell? ⟨mB, 6, none⟩ = some (vi (fv s.ap)) ∧ w'.cell? ⟨w.heap.size, 1, none⟩ = some (vi ia) ∧ w'.cell? ⟨w.heap.size, 2, none⟩ = some (vi ib) ∧ w'.cell? ⟨b, 0, none⟩ = some (vi p)) (first | exact ⟨c0, c6, x1, x2, cb⟩ | exact ⟨HM1.out.c0, HM1.out.regs.2.2.1, (KS.out _ hT1).2.1, (KS.out _ hT1).2.2.1, HM1.out.fld⟩ | exact ⟨HM.out.c0, HM.out.regs.2.2.1, (KS.out _ HT.out).2.1, (KS.out _ HT.out).2.2.1, HM.out.fld⟩) ((first | (go_at_call 98; refine (add_any p hp2 b _ _ (by first | assumption | exact i64_fv _ hp2) (by first | assumption | (constructor <;> omega)) _ (by exact cb)).mono ?_; rintro _ _ ⟨rfl, k3, rfl⟩) | (go_at_call 106; refine (own_cell p hp2 ia hia _ (H0.out _)).mono ?_; rintro _ _ ⟨rfl, k1, rfl⟩) | (go_at_call 105; refine (look_yes hp2 _ v HV.out (by omega) _ (H0.out _)).mono ?_; rintro _ w1 ⟨rfl, hM1, hT1⟩; have HM1 := Lib.hid hM1; replace hT1 := (((Tn.refl _ _).drewN _).trans hT1 : Tn [mB, gm] W0 w1); clear hM1) | (go_at_call 152; refine (tell_ok hp2 _ _ m' (by have h := HM0.out; simp only [el_fv, el_two] at h ⊢; exact h) (by omega) (by omega) _ HM1.out).mono ?_; rintro _ w5 ⟨rfl, hM, hT⟩; have HM := Lib.hid hM; have HT := Lib.hid (hT1.trans hT); clear hM hT)))
  clear hT1 HM1
  have g4 := HM.out.regs.1
  have f4 := HM.out.thaw 4
  go_wp2
  go_end0
  exact ⟨rfl, ⟨_, _, by omega, by omega, HM.out.set_pc _⟩, HB0.out.trans (HT.out.setCell (.inl (by simp)) _)⟩
set_option maxHeartbeats 4000000 in
theorem one_pass_no (hp2 : p ≤ 2147483647) (ia ib ic : Int) (hia : I64 ia) (hib : I64 ib) (hv : s.mem (s.fp + el p ia) = none) (w : World) (h : Mac w mB b gm n size AI L cI s 0 SV d) :
    Calls Tryz.prog 107 #[.pointer (some ⟨mB, 0, none⟩), .agg #[vi 13, vi ia, vi ib, vi ic]] w (StepNo mB gm w) := by
  obtain ⟨op, hop⟩ : ∃ op : Int, op = 13 := ⟨_, rfl⟩
  rw [← hop]
  have hb0 : Tn [mB, gm] w (w.alloc (.cells #[vi op, vi ia, vi ib, vi ic] 121)) := (Tn.refl _ _).alloc _
  have hB0 := Blk.new w 121 #[vi op, vi ia, vi ib, vi ic]
  have hmb := (h.blk.elim fun _ h => h.elim fun _ h => h.elim fun _ h => h.elim fun _ h => h.elim fun _ h => h.elim fun _ h => h.2.lt)
  have hgb := h.map.lt
  have h0 := h.tn ((Tn.refl [] w).alloc (.cells #[vi op, vi ia, vi ib, vi ic] 121)) (by simp) (by simp) (by simp)
  obtain ⟨W0, hW0⟩ : ∃ W0, W0 = w.alloc (.cells #[vi op, vi ia, vi ib, vi ic] 121) := ⟨_, rfl⟩
  rw [← hW0] at hb0 hB0 h0
  have KS := Lib.hid (fun W' (ht : Tn [mB, gm] W0 W') => show W'.cell? ⟨w.heap.size, 0, none⟩ = some (vi op) ∧ W'.cell? ⟨w.heap.size, 1, none⟩ = some (vi ia) ∧ W'.cell? ⟨w.heap.size, 2, none⟩ = some (vi ib) ∧ W'.cell? ⟨w.heap.size, 3, none⟩ = some (vi ic) from by
    have hB := hB0.tn ht (by simp; omega)
    exact ⟨(hB.cell 0).trans rfl, (hB.cell 1).trans rfl, (hB.cell 2).trans rfl, (hB.cell 3).trans rfl⟩)
  obtain ⟨x0, x1, x2, x3⟩ := KS.out W0 (Tn.refl _ _)
  have HW0 := Lib.hid hW0
  have HB0 := Lib.hid hb0
  have HMB := Lib.hid hmb
  have H0 := Lib.hid (fun k => h0.drewN k)
  clear hW0 hb0 hB0 h h0 hmb hgb
  have HV := Lib.hid hv
  clear hv
  subst hop
  have c6 := (H0.out 0).regs.2.2.1
  have iap := i64_fv s.ap hp2
  obtain ⟨c0, c4, _, _, _, cb⟩ := (H0.out 0).re
  have ipc := i64_fv s.pc hp2
  go_enter Tryz.func107, Tryz.ntmps107
  go_upto_region 1 with (fail)
  rw [← HW0.out]
  go_region_held3 (fun w' => w'.cell? ⟨mB, 0, none⟩ = some (.pointer (some ⟨b, 0, none⟩)) ∧ w'.cell? ⟨mB, 4, none⟩ = some (vi (fv s.pc)) ∧ w'.cell? ⟨b, 0, none⟩ = some (vi p)) (exact ⟨c0, c4, cb⟩) ((go_at_call 98; refine (add_any p hp2 b _ _ (by assumption) (by constructor <;> omega) _ (by exact cb)).mono ?_; rintro _ _ ⟨rfl, k0, rfl⟩))
  rw [show el p (fv s.pc) + el p 1 = s.pc + 1 by rw [el_fv, el_one]]
  go_wp2
  have ht1 := fun X => (show (W0.drewN X).cell? ⟨mB, 0, none⟩ = some (.pointer (some ⟨b, 0, none⟩)) ∧ (W0.drewN X).cell? ⟨mB, 6, none⟩ = some (vi (fv s.ap)) ∧ (W0.drewN X).cell? ⟨w.heap.size, 1, none⟩ = some (vi ia) ∧ (W0.drewN X).cell? ⟨w.heap.size, 2, none⟩ = some (vi ib) from ⟨c0, c6, x1, x2⟩)
  have HCB := Lib.hid cb
  clear x0 x1 x2 x3 c0 c6 c4 cb
  refine wp_region_held_drew (S := fun w' => w'.cell? ⟨mB, 0, none⟩ = some (.pointer (some ⟨b, 0, none⟩)) ∧ w'.cell? ⟨mB, 6, none⟩ = some (vi (fv s.ap)) ∧ w'.cell? ⟨w.heap.size, 1, none⟩ = some (vi ia) ∧ w'.cell? ⟨w.heap.size, 2, none⟩ = some (vi ib)) (by kernel_rfl) (by exact ht1 0) (fun hHeld => ?_)
  refine tkH 0 ?_
  refine tkH 1 ?_
  refine tkH 2 ?_
  refine tkH 3 ?_
  refine tkH 4 ?_
  refine tkH 5 ?_
  refine tkH 6 ?_
  refine tkH 7 ?_
  refine tkH 8 ?_
  refine tkH 9 ?_
  refine tkH 10 ?_
  refine tkH 11 ?_
  refine tkH 12 ?_
  refine tkH 14 ?_
  refine tkH 15 ?_
  refine tkH 17 ?_
  refine tkH 18 ?_
  refine tkH 19 ?_
  refine tkH 20 ?_
  refine stH 13 (fun K hK => ?_)
  go_simp
  refine (add_any p hp2 b _ _ iap (by constructor <;> omega) _ (by exact HCB.out)).mono ?_
  rintro _ _ ⟨rfl, k3, rfl⟩
  refine hK.out _ _ (by exact ht1 0) (fun hHeld => ?_)
  clear hK K
  (try simp only [Act.put, List.setIfInBounds_toArray, List.set_cons_zero, List.set_cons_succ])
  refine stH 16 (fun K hK => ?_)
  go_simp
  refine (add_any p hp2 b _ _ (i64_fv _ hp2) hib _ (by exact HCB.out)).mono ?_
  rintro _ _ ⟨rfl, k4, rfl⟩
  refine hK.out _ _ (by exact ht1 0) (fun hHeld => ?_)
  clear hK K
  (try simp only [Act.put, List.setIfInBounds_toArray, List.set_cons_zero, List.set_cons_succ])
  refine stH 21 (fun K hK => ?_)
  go_simp
  refine (own_cell p hp2 ia hia _ (H0.out _)).mono ?_
  rintro _ _ ⟨rfl, k1, rfl⟩
  refine hK.out _ _ (by exact ht1 0) (fun hHeld => ?_)
  clear hK K
  (try simp only [Act.put, List.setIfInBounds_toArray, List.set_cons_zero, List.set_cons_succ])
  refine stH 22 (fun K hK => ?_)
  go_simp
  refine (look_no hp2 _ HV.out _ (H0.out _)).mono ?_
  rintro _ _ ⟨rfl, rfl⟩
  exact ⟨rfl, rfl, HB0.out.trans ((Tn.refl _ _).drewN _)⟩
end
end Go.Proofs.YtpkhcncempoohaaGreatDoor

namespace Go.Proofs.YtpkhcncempoohaaGreatDoor
open Go.RowKit Zp
section
variable {p : Nat} [NeZero p]
theorem lookM_next {s s' : StM p} {y : Fin p} {k : Fin p → ResM p} (h : lookM s y k = .next s') : ∃ v, s.mem y = some v ∧ k v = .next s' := by
  unfold lookM at h
  rcases e : s.mem y with _ | v
  · simp [e] at h
  · simp only [e] at h; exact ⟨v, rfl, h⟩
theorem lookM_blank {s : StM p} {y : Fin p} {k : Fin p → ResM p} (h : lookM s y k = .blank) : s.mem y = none ∨ ∃ v, s.mem y = some v ∧ k v = .blank := by
  unfold lookM at h
  rcases e : s.mem y with _ | v
  · exact .inl rfl
  · simp only [e] at h; exact .inr ⟨v, rfl, h⟩
theorem toldM_next {s s' : StM p} {m : Option (Fin p → Option (Fin p))} {k : (Fin p → Option (Fin p)) → ResM p} (h : toldM s m k = .next s') : ∃ m', m = some m' ∧ k m' = .next s' := by
  rcases m with _ | m
  · simp [toldM] at h
  · exact ⟨m, rfl, h⟩
theorem toldM_blank {s : StM p} {m : Option (Fin p → Option (Fin p))} {k : (Fin p → Option (Fin p)) → ResM p} (h : toldM s m k = .blank) : ∃ m', m = some m' ∧ k m' = .blank := by
  rcases m with _ | m
  · simp [toldM] at h
  · exact ⟨m, rfl, h⟩
end
section
variable {p : Nat} [NeZero p] {mB b gm n : Nat} {size : Int} {AI : Option Addr} {L cI : Nat} {s : StM p} {SV : Value} {d : Nat}
theorem one_next (hp1 : 2 ≤ p) (hp2 : p ≤ 2147483647) (x : InsI) (hx : InsOk x) (s' : StM p) (hs : oneM s x = .next s') (hn : n ≤ 999999) (w : World) (h : Mac w mB b gm n size AI L cI s 0 SV d) :
    Calls Tryz.prog 107 #[.pointer (some ⟨mB, 0, none⟩), insV x] w (StepOk mB b gm n size AI L cI s' SV d w) := by
  obtain ⟨op, ia, ib, ic⟩ := x
  have ha : I64 ia := hx.a
  have hb : I64 ib := hx.b
  have hc : I64 ic := hx.c
  unfold insV
  unfold oneM at hs
  simp only at hs ⊢
  by_cases c0 : op = 0
  · rw [if_pos c0] at hs
    obtain ⟨v, _, h2⟩ := lookM_next hs
    cases h2
  rw [if_neg c0] at hs
  by_cases c1 : op = 1 ∨ op = 2 ∨ op = 3 ∨ op = 4 ∨ op = 6
  · rw [if_pos c1] at hs
    obtain ⟨va, hva, hs⟩ := lookM_next hs
    obtain ⟨vb, hvb, hs⟩ := lookM_next hs
    by_cases hd : op = 4 ∧ vb = 0
    · rw [if_pos hd] at hs; cases hs
    rw [if_neg hd] at hs
    obtain ⟨m', hm, hs⟩ := toldM_next hs
    injection hs with hs
    subst hs
    exact one_comp hp2 op ia ib ic c1 m' w h fun W hW => compute_yes hp1 hp2 op ia ib ic ha hb hc va vb m' c1 hva hvb hd hm (by omega) W hW
  rw [if_neg c1] at hs
  by_cases c5 : op = 5
  · rw [if_pos c5] at hs
    obtain ⟨m', hm, hs⟩ := toldM_next hs
    injection hs with hs
    subst hs c5
    exact one_set hp2 ia ib ic ha hb m' hm hn w h
  rw [if_neg c5] at hs
  by_cases c7 : op = 7
  · rw [if_pos c7] at hs
    obtain ⟨va, hva, hs⟩ := lookM_next hs
    obtain ⟨vb, hvb, hs⟩ := lookM_next hs
    by_cases he : va = vb
    · rw [if_pos he] at hs
      injection hs with hs
      subst hs c7 he
      exact one_must hp2 ia ib ic ha hb va hva hvb w h
    · rw [if_neg he] at hs; cases hs
  rw [if_neg c7] at hs
  by_cases c8 : op = 8
  · rw [if_pos c8] at hs
    injection hs with hs
    subst hs c8
    exact one_jump hp2 ia ib ic ha w h
  rw [if_neg c8] at hs
  by_cases c9 : op = 9
  · rw [if_pos c9] at hs
    obtain ⟨va, hva, hs⟩ := lookM_next hs
    injection hs with hs
    subst hs c9
    by_cases h0 : va = 0
    · subst h0
      rw [if_pos rfl]
      exact one_zero_t hp2 ia ib ic ha hb hva w h
    · rw [if_neg h0]
      exact one_zero_f hp2 ia ib ic ha va hva h0 w h
  rw [if_neg c9] at hs
  by_cases c10 : op = 10
  · rw [if_pos c10] at hs
    obtain ⟨m1, hm1, hs⟩ := toldM_next hs
    obtain ⟨m2, hm2, hs⟩ := toldM_next hs
    injection hs with hs
    subst hs c10
    exact one_call hp1 hp2 ia ib ic ha hb m1 m2 hm1 hm2 hn w h
  rw [if_neg c10] at hs
  by_cases c11 : op = 11
  · rw [if_pos c11] at hs
    obtain ⟨f, hf, hs⟩ := lookM_next hs
    obtain ⟨c, hc', hs⟩ := lookM_next hs
    obtain ⟨v, hv, hs⟩ := lookM_next hs
    injection hs with hs
    subst hs c11
    exact one_back hp2 ia ib ic ha f c v hf hc' hv w h
  rw [if_neg c11] at hs
  by_cases c12 : op = 12
  · rw [if_pos c12] at hs
    obtain ⟨m', hm, hs⟩ := toldM_next hs
    injection hs with hs
    subst hs c12
    exact one_take hp2 ia ib ic ha m' hm hn w h
  rw [if_neg c12] at hs
  by_cases c13 : op = 13
  · rw [if_pos c13] at hs
    obtain ⟨v, hv, hs⟩ := lookM_next hs
    obtain ⟨m', hm, hs⟩ := toldM_next hs
    injection hs with hs
    subst hs c13
    exact one_pass hp2 ia ib ic ha hb v hv m' hm hn w h
  rw [if_neg c13] at hs
  cases hs
theorem one_blank (hp2 : p ≤ 2147483647) (x : InsI) (hx : InsOk x) (h0 : x.op ≠ 0) (hs : oneM s x = .blank) (w : World) (h : Mac w mB b gm n size AI L cI s 0 SV d) :
    Calls Tryz.prog 107 #[.pointer (some ⟨mB, 0, none⟩), insV x] w (StepNo mB gm w) := by
  obtain ⟨op, ia, ib, ic⟩ := x
  have ha : I64 ia := hx.a
  have hb : I64 ib := hx.b
  have hc : I64 ic := hx.c
  have c0 : ¬ op = 0 := h0
  unfold insV
  unfold oneM at hs
  simp only at hs ⊢
  rw [if_neg c0] at hs
  by_cases c1 : op = 1 ∨ op = 2 ∨ op = 3 ∨ op = 4 ∨ op = 6
  · rw [if_pos c1] at hs
    refine one_comp_no hp2 op ia ib ic c1 w h fun W hW => ?_
    rcases lookM_blank hs with hva | ⟨va, hva, hs⟩
    · exact compute_no1 hp2 op ia ib ic ha hb hva W hW
    rcases lookM_blank hs with hvb | ⟨vb, hvb, hs⟩
    · exact compute_no2 hp2 op ia ib ic ha hb va hva hvb W hW
    by_cases hd : op = 4 ∧ vb = 0
    · rw [if_pos hd] at hs; cases hs
    rw [if_neg hd] at hs
    obtain ⟨m', hm, hs⟩ := toldM_blank hs
    cases hs
  rw [if_neg c1] at hs
  by_cases c5 : op = 5
  · rw [if_pos c5] at hs
    obtain ⟨m', hm, hs⟩ := toldM_blank hs
    cases hs
  rw [if_neg c5] at hs
  by_cases c7 : op = 7
  · rw [if_pos c7] at hs
    rcases lookM_blank hs with hva | ⟨va, hva, hs⟩
    · subst c7; exact one_must_no1 hp2 ia ib ic ha hva w h
    rcases lookM_blank hs with hvb | ⟨vb, hvb, hs⟩
    · subst c7; exact one_must_no2 hp2 ia ib ic ha hb va hva hvb w h
    by_cases he : va = vb
    · rw [if_pos he] at hs; cases hs
    · rw [if_neg he] at hs; cases hs
  rw [if_neg c7] at hs
  by_cases c8 : op = 8
  · rw [if_pos c8] at hs; cases hs
  rw [if_neg c8] at hs
  by_cases c9 : op = 9
  · rw [if_pos c9] at hs
    rcases lookM_blank hs with hva | ⟨va, hva, hs⟩
    · subst c9; exact one_zero_no hp2 ia ib ic ha hva w h
    cases hs
  rw [if_neg c9] at hs
  by_cases c10 : op = 10
  · rw [if_pos c10] at hs
    obtain ⟨m1, hm1, hs⟩ := toldM_blank hs
    obtain ⟨m2, hm2, hs⟩ := toldM_blank hs
    cases hs
  rw [if_neg c10] at hs
  by_cases c11 : op = 11
  · rw [if_pos c11] at hs
    subst c11
    refine one_back_no hp2 ia ib ic w h fun W hW => ?_
    rcases lookM_blank hs with hf | ⟨f, hf, hs⟩
    · exact mback_no1 hp2 11 ia ib ic ha hf W hW
    rcases lookM_blank hs with hc' | ⟨c, hc', hs⟩
    · exact mback_no2 hp2 11 ia ib ic ha f hf hc' W hW
    rcases lookM_blank hs with hv | ⟨v, hv, hs⟩
    · exact mback_no3 hp2 11 ia ib ic ha f c hf hc' hv W hW
    cases hs
  rw [if_neg c11] at hs
  by_cases c12 : op = 12
  · rw [if_pos c12] at hs
    obtain ⟨m', hm, hs⟩ := toldM_blank hs
    cases hs
  rw [if_neg c12] at hs
  by_cases c13 : op = 13
  · rw [if_pos c13] at hs
    rcases lookM_blank hs with hv | ⟨v, hv, hs⟩
    · subst c13; exact one_pass_no hp2 ia ib ic ha hb hv w h
    obtain ⟨m', hm, hs⟩ := toldM_blank hs
    cases hs
  rw [if_neg c13] at hs
  cases hs
end
end Go.Proofs.YtpkhcncempoohaaGreatDoor

namespace Go.Proofs.YtpkhcncempoohaaGreatDoor
open Go.RowKit Zp
section
variable {p : Nat} [NeZero p]
theorem fv_nat (z : Fin p) : ((fv z).toNat : Int) = fv z := by
  have := (show 0 ≤ fv z by unfold fv; omega)
  omega
theorem no_halt {s : StM p} {x : InsI} (h0 : ¬ x.op = 0) {v : Fin p} : oneM s x ≠ .halt v := fun h => by
  have hl : ∀ {y : Fin p} {k : Fin p → ResM p}, lookM s y k = .halt v → ∃ u, k u = .halt v := fun {y k} h => by
    unfold lookM at h
    rcases e : s.mem y with _ | u
    · simp [e] at h
    · simp only [e] at h; exact ⟨u, h⟩
  have ht : ∀ {m : Option (Fin p → Option (Fin p))} {k : (Fin p → Option (Fin p)) → ResM p}, toldM s m k = .halt v → ∃ m', k m' = .halt v := fun {m k} h => by
    rcases m with _ | m
    · simp [toldM] at h
    · exact ⟨m, h⟩
  unfold oneM at h
  rw [if_neg h0] at h
  split at h
  · obtain ⟨a, h⟩ := hl h
    obtain ⟨b, h⟩ := hl h
    split at h
    · cases h
    obtain ⟨m, h⟩ := ht h
    cases h
  split at h
  · obtain ⟨m, h⟩ := ht h; cases h
  split at h
  · obtain ⟨a, h⟩ := hl h
    obtain ⟨b, h⟩ := hl h
    split at h <;> cases h
  split at h
  · cases h
  split at h
  · obtain ⟨a, h⟩ := hl h; cases h
  split at h
  · obtain ⟨m, h⟩ := ht h
    obtain ⟨m, h⟩ := ht h
    cases h
  split at h
  · obtain ⟨a, h⟩ := hl h
    obtain ⟨b, h⟩ := hl h
    obtain ⟨c, h⟩ := hl h
    cases h
  split at h
  · obtain ⟨m, h⟩ := ht h; cases h
  split at h
  · obtain ⟨a, h⟩ := hl h
    obtain ⟨m, h⟩ := ht h
    cases h
  cases h
theorem runM_step {code : List InsI} {f : Nat} {s : StM p} {R : RunR p} (h : runM code f s = R) (hR : R = .blank ∨ ∃ v, R = .out v) :
    (fv s.pc).toNat < code.length ∧ ((oneM s (insAt code (fv s.pc).toNat) = .blank ∧ R = .blank) ∨ (∃ v, oneM s (insAt code (fv s.pc).toNat) = .halt v ∧ R = .out v) ∨ (∃ s' g, f = g + 1 ∧ oneM s (insAt code (fv s.pc).toNat) = .next s' ∧ runM code g s' = R)) ∧ (f = 0 → (insAt code (fv s.pc).toNat).op = 0) := by
  have hns : R ≠ .stuck ∧ R ≠ .long := by rcases hR with e | ⟨v, e⟩ <;> rw [e] <;> simp
  cases f with
  | zero =>
    unfold runM at h
    by_cases hl : (fv s.pc).toNat < code.length
    · rw [if_pos hl] at h
      by_cases h0 : (insAt code (fv s.pc).toNat).op ≠ 0
      · rw [if_pos h0] at h; exact absurd h.symm hns.2
      · rw [if_neg h0] at h
        refine ⟨hl, ?_, fun _ => by omega⟩
        rcases e : oneM s (insAt code (fv s.pc).toNat) with _ | _ | s' | v
        · simp only [e] at h; exact .inl ⟨rfl, h.symm⟩
        · simp only [e] at h; exact absurd h.symm hns.1
        · simp only [e] at h; exact absurd h.symm hns.1
        · simp only [e] at h; exact .inr (.inl ⟨v, rfl, h.symm⟩)
    · rw [if_neg hl] at h; exact absurd h.symm hns.1
  | succ g =>
    unfold runM at h
    by_cases hl : (fv s.pc).toNat < code.length
    · rw [if_pos hl] at h
      refine ⟨hl, ?_, fun h => by omega⟩
      rcases e : oneM s (insAt code (fv s.pc).toNat) with _ | _ | s' | v
      · simp only [e] at h; exact .inl ⟨rfl, h.symm⟩
      · simp only [e] at h; exact absurd h.symm hns.1
      · simp only [e] at h; exact .inr (.inr ⟨s', g, rfl, rfl, h⟩)
      · simp only [e] at h; exact .inr (.inl ⟨v, rfl, h.symm⟩)
    · rw [if_neg hl] at h; exact absurd h.symm hns.1
end
theorem own_map_ne {w : World} {base gm n k : Nat} {e : TypeId} {size : Nat} {v : Value} {xs : List Value} {p : Nat} {m : Fin p → Option (Fin p)} (h : w.ownsRow base e size v k xs) (hm : MapM w gm n m) : v.ownBlock ≠ some gm := by
  obtain ⟨D, ⟨es, clock, h1, _⟩, _⟩ := hm
  rcases h.2 with ⟨rfl, _⟩ | ⟨g', cap, cur, rfl, _, hh, _⟩
  · simp [Value.ownBlock]
  · intro he
    have : g' = gm := by simpa [Value.ownBlock] using he
    subst this
    rw [h1] at hh
    cases hh
theorem row_tn {X : List Nat} {w w' : World} {base : Nat} {e : TypeId} {size n : Nat} {v : Value} {xs : List Value} (h : w.ownsRow base e size v n xs) (ht : Tn X w w') (hX : ∀ g, v.ownBlock = some g → ¬ g ∈ X) : w'.ownsRow base e size v n xs := by
  obtain ⟨h1, h2⟩ := h
  refine ⟨h1, ?_⟩
  rcases h2 with h2 | ⟨g, cap, cur, hv, hg, hh, r⟩
  · exact Or.inl h2
  · have hlt : g < w.heap.size := by
      rcases Nat.lt_or_ge g w.heap.size with h | h
      · exact h
      · rw [Array.getElem?_eq_none h] at hh; cases hh
    exact Or.inr ⟨g, cap, cur, hv, hg, by rw [ht.block g hlt (hX g (by rw [hv]; rfl))]; exact hh, r⟩
section
variable {p : Nat} {w : World} {mB b gm n : Nat} {size : Int} {AI : Option Addr} {L cI : Nat} {s : StM p} {u : Nat} {SV : Value} {d : Nat}
theorem row_blk_ne {w : World} {g base n : Nat} {e t : TypeId} {cs : Array Value} {size : Nat} {v : Value} {xs : List Value} (h : w.ownsRow base e size v n xs) (hg : Blk w g t cs) (hne : e ≠ t) : v.ownBlock ≠ some g := by
  rcases h.2 with ⟨rfl, _⟩ | ⟨g', cap, cur, rfl, _, hh, _⟩
  · simp [Value.ownBlock]
  · intro he
    have : g' = g := by simpa [Value.ownBlock] using he
    subst this
    exact Blk.ne_ (t := e) hh hg hne rfl
theorem Mac.blk_ (h : Mac w mB b gm n size AI L cI s u SV d) : ∃ cs, Blk w mB 87 cs := by
  obtain ⟨a0, a1, a2, i0, i1, i2, hi, hB⟩ := h.blk
  exact ⟨_, hB⟩
theorem Mac.lt (h : Mac w mB b gm n size AI L cI s u SV d) : mB < w.heap.size := by
  obtain ⟨cs, hB⟩ := h.blk_
  exact hB.lt
theorem Mac.row_ne (h : Mac w mB b gm n size AI L cI s u SV d) {base k : Nat} {v : Value} {xs : List Value} (ho : w.ownsRow base 172 10 v k xs) : ∀ g, v.ownBlock = some g → ¬ g ∈ [mB, gm] := fun g hg hm => by
  obtain ⟨cs, hB⟩ := h.blk_
  simp only [List.mem_cons, List.not_mem_nil, or_false] at hm
  rcases hm with rfl | rfl
  · exact row_blk_ne ho hB (by decide) hg
  · exact own_map_ne ho h.map hg
theorem Mac.reset (h : Mac w mB b gm n size AI L cI s u SV d) :
    Mac (((((((w.setCell ⟨mB, 8, none⟩ (vi 0)).setCell ⟨mB, 9, none⟩ (vi 0)).setCell ⟨mB, 10, none⟩ (vi 0)).setCell ⟨mB, 11, none⟩ (vi 0)).setCell ⟨mB, 12, none⟩ (vi 0)).setCell ⟨mB, 13, none⟩ (vi 0)).setCell ⟨mB, 14, none⟩ (vi 0)) mB b gm n size AI L cI s 0 SV d ∧ Tn [mB] w (((((((w.setCell ⟨mB, 8, none⟩ (vi 0)).setCell ⟨mB, 9, none⟩ (vi 0)).setCell ⟨mB, 10, none⟩ (vi 0)).setCell ⟨mB, 11, none⟩ (vi 0)).setCell ⟨mB, 12, none⟩ (vi 0)).setCell ⟨mB, 13, none⟩ (vi 0)).setCell ⟨mB, 14, none⟩ (vi 0)) := by
  obtain ⟨a0, a1, a2, i0, i1, i2, hi, hB⟩ := h.blk
  have hT := (((((((Tn.refl [mB] w).setCell (q := ⟨mB, 8, none⟩) (.inl (by simp)) (vi 0)).setCell (q := ⟨mB, 9, none⟩) (.inl (by simp)) (vi 0)).setCell (q := ⟨mB, 10, none⟩) (.inl (by simp)) (vi 0)).setCell (q := ⟨mB, 11, none⟩) (.inl (by simp)) (vi 0)).setCell (q := ⟨mB, 12, none⟩) (.inl (by simp)) (vi 0)).setCell (q := ⟨mB, 13, none⟩) (.inl (by simp)) (vi 0)).setCell (q := ⟨mB, 14, none⟩) (.inl (by simp)) (vi 0)
  have hS := ((((((hB.set_ 8 (vi 0)).set_ 9 (vi 0)).set_ 10 (vi 0)).set_ 11 (vi 0)).set_ 12 (vi 0)).set_ 13 (vi 0)).set_ 14 (vi 0)
  simp only [macCs, List.setIfInBounds_toArray, List.set_cons_succ, List.set_cons_zero] at hS
  refine ⟨⟨⟨0, 0, 0, 0, 0, 0, ?_, hS⟩, h.map.block (hT.block gm h.map.lt (by simp; exact h.ne)), h.ne, hT.cell h.fld (by simp; exact h.bne.1), h.bne⟩, hT⟩
  refine ⟨?_, ?_, ?_⟩ <;> constructor <;> omega
end
theorem wf_of_i64 {a : Int} (h : I64 a) : (Lit.int .i64 a).wf = true := by
  simp [Lit.wf, IntKind.min, IntKind.max, IntKind.signed, IntKind.bits]
  exact ⟨h.1, h.2⟩
theorem Mac.told {p : Nat} {w : World} {mB b gm n : Nat} {size : Int} {AI : Option Addr} {L cI : Nat} {s : StM p} {u : Nat} {SV : Value} {d : Nat} (h : Mac w mB b gm n size AI L cI s u SV d) (i : Nat) (hi : i < 3) (c : Int) :
    Mac (w.setCell ⟨mB, 11 + i, none⟩ (vi c)) mB b gm n size AI L cI s u SV d ∧ Tn [mB] w (w.setCell ⟨mB, 11 + i, none⟩ (vi c)) := by
  obtain ⟨a0, a1, a2, i0, i1, i2, hy, hB⟩ := h.blk
  have hT := (Tn.refl [mB] w).setCell (q := ⟨mB, 11 + i, none⟩) (.inl (by simp)) (vi c)
  refine ⟨⟨?_, h.map.block (hT.block gm h.map.lt (by simp; exact h.ne)), h.ne, hT.cell h.fld (by simp; exact h.bne.1), h.bne⟩, hT⟩
  have hS := hB.set_ (11 + i) (vi c)
  obtain rfl | rfl | rfl : i = 0 ∨ i = 1 ∨ i = 2 := by omega
  · exact ⟨a0, a1, a2, c, i1, i2, hy, hS⟩
  · exact ⟨a0, a1, a2, i0, c, i2, hy, hS⟩
  · exact ⟨a0, a1, a2, i0, i1, c, hy, hS⟩
theorem info_step : (Tryz.prog.info? 172).map (fun i => (i.zero, i.size, i.bytes)) = some (some (.agg #[vi 0, vi 0, vi 0, vi 0, vi 0, vi 0, vi 0, vi 0, vi 0, vi 0]), 10, 80) := by kernel_rfl
theorem step_laid {w : World} {g : Nat} {t : TypeId} {x0 x1 x2 x3 x4 x5 x6 x7 x8 x9 : Value} (h : Blk w g t #[x0, x1, x2, x3, x4, x5, x6, x7, x8, x9]) (a0 a1 a2 i0 i1 i2 : Int) :
    Blk ((((((w.setCell ⟨g, 4, none⟩ (vi a0)).setCell ⟨g, 5, none⟩ (vi a1)).setCell ⟨g, 6, none⟩ (vi a2)).setCell ⟨g, 7, none⟩ (vi i0)).setCell ⟨g, 8, none⟩ (vi i1)).setCell ⟨g, 9, none⟩ (vi i2)).drew g t #[x0, x1, x2, x3, vi a0, vi a1, vi a2, vi i0, vi i1, vi i2] ∧
    Tn [g] w ((((((w.setCell ⟨g, 4, none⟩ (vi a0)).setCell ⟨g, 5, none⟩ (vi a1)).setCell ⟨g, 6, none⟩ (vi a2)).setCell ⟨g, 7, none⟩ (vi i0)).setCell ⟨g, 8, none⟩ (vi i1)).setCell ⟨g, 9, none⟩ (vi i2)).drew := by
  have hS := ((((((h.set_ 4 (vi a0)).set_ 5 (vi a1)).set_ 6 (vi a2)).set_ 7 (vi i0)).set_ 8 (vi i1)).set_ 9 (vi i2)).drew
  simp only [List.setIfInBounds_toArray, List.set_cons_succ, List.set_cons_zero] at hS
  exact ⟨hS, (((((((Tn.refl [g] w).setCell (q := ⟨g, 4, none⟩) (.inl (by simp)) _).setCell (q := ⟨g, 5, none⟩) (.inl (by simp)) _).setCell (q := ⟨g, 6, none⟩) (.inl (by simp)) _).setCell (q := ⟨g, 7, none⟩) (.inl (by simp)) _).setCell (q := ⟨g, 8, none⟩) (.inl (by simp)) _).setCell (q := ⟨g, 9, none⟩) (.inl (by simp)) _).drew⟩
def RunIs {p : Nat} (R : RunR p) (mB b gm : Nat) (size : Int) (AI : Option Addr) (L cI : Nat) (w : World) (e : Ending) (w' : World) : Prop :=
  Tn [mB, gm] w w' ∧ ((R = .blank ∧ e = .panicked (stopM 10)) ∨ ∃ v, R = .out v ∧ e = .returned (vi (fv v)) ∧ ∃ (s : StM p) (n u : Nat) (SV : Value) (d : Nat), n ≤ 999999 ∧ Mac w' mB b gm n size AI L cI s u SV d)
def RunRel {p : Nat} [NeZero p] (R : RunR p) (code : List InsI) (limit mB b gm : Nat) (size : Int) (AI : Option Addr) (L cI : Nat) (w : World) (f : Nat) (wr : World) : Prop :=
  ∃ (s : StM p) (n u : Nat) (SV : Value) (d : Nat) (xs : List Value), runM code f s = R ∧ d + f = limit ∧ n + 2 * f ≤ 900000 ∧ Mac wr mB b gm n size AI L cI s u SV d ∧ wr.ownsRow w.heap.size 172 10 SV d xs ∧ Tn [mB, gm] w wr
section
variable {p : Nat} [NeZero p] {mB b gm n : Nat} {size : Int} {AI : Option Addr} {L cI : Nat} {s : StM p} {d : Nat}
set_option maxRecDepth 100000 in
set_option maxHeartbeats 4000000 in
theorem run_any (hp1 : 2 ≤ p) (hp2 : p ≤ 2147483647) (code : List InsI) (hL : code.length = L) (limit : Nat) (hl : limit ≤ 16384) (R : RunR p) (hrun : runM code limit s = R) (hR : R = .blank ∨ ∃ v, R = .out v) (u : Nat) (w : World) (hn : n ≤ 10) (h : Mac w mB b gm n size AI L cI s u (.slice none 0 0) 0)
    (hIT : ∀ W, Tn [mB, gm] w W → IT W AI code) :
    Calls Tryz.prog 72 #[.pointer (some ⟨mB, 0, none⟩), vi limit] w (RunIs R mB b gm size AI L cI w) := by
  have h0 : RunRel R code limit mB b gm size AI L cI w limit w := ⟨s, n, u, _, 0, [], hrun, by omega, by omega, h, World.ownsRow_nil _ _ _ _, Tn.refl _ _⟩
  obtain ⟨ad, rfl⟩ : ∃ ad, AI = some ad := by
    obtain ⟨ad, h1, _⟩ := hIT w (Tn.refl _ _) 0 (by have := (runM_step hrun hR).1; omega)
    exact ⟨ad, h1⟩
  have HBW : Hid (b < w.heap.size) := Lib.hid (block_lt_of_cell h.fld)
  have HR := Lib.hid hR
  have HIT := Lib.hid hIT
  have HL := Lib.hid hL
  have H0 := Lib.hid h0
  clear hrun hR hIT hL h0 h hn
  go_enter Tryz.func72, Tryz.ntmps72
  go_wp2
  go_loopg [] limit (fun f wr => RunRel R code limit mB b gm size (some ad) L cI w f wr)
  case atStart => exact H0.out
  case round =>
    rename World => w1
    obtain ⟨s1, n1, u1, SV, d1, xs, hrun, hdf, hnf, hM, hown, hT⟩ := hrel
    obtain ⟨hpc, hcase, hz⟩ := runM_step hrun HR.out
    obtain ⟨x, hx⟩ : ∃ x, x = insAt code (fv s1.pc).toNat := ⟨_, rfl⟩
    rw [← hx] at hcase hz
    have hlt : (fv s1.pc).toNat < L := by rw [← HL.out]; exact hpc
    have HK : Hid (∀ W, Tn [mB, gm] w W → ITE W ad (fv s1.pc).toNat x) := Lib.hid fun W hW => by
      obtain ⟨ad', h1, h2⟩ := HIT.out W hW (fv s1.pc).toNat hpc
      injection h1 with h1
      rw [h1, hx, insAt_get hpc]
      exact h2
    have hok : InsOk x := (HK.out w1 hT).2.2.2.2.2
    obtain ⟨op, ia, ib, ic⟩ := x
    have KC : Hid (∀ W, Tn [mB, gm] w W → W.cell? (ad.add ((fv s1.pc).toNat * 4)) = some (vi op) ∧ W.cell? ⟨(ad.add ((fv s1.pc).toNat * 4)).block, (ad.add ((fv s1.pc).toNat * 4)).off + 1, none⟩ = some (vi ia) ∧ W.cell? ⟨(ad.add ((fv s1.pc).toNat * 4)).block, (ad.add ((fv s1.pc).toNat * 4)).off + 2, none⟩ = some (vi ib) ∧ W.cell? ⟨(ad.add ((fv s1.pc).toNat * 4)).block, (ad.add ((fv s1.pc).toNat * 4)).off + 3, none⟩ = some (vi ic)) := Lib.hid fun W hW => (HK.out W hW).cells
    have p0 : 0 ≤ fv s1.pc := by have := fv_nat s1.pc; omega
    have p1 : fv s1.pc < (L : Int) := by have := fv_nat s1.pc; omega
    have t1 : decide (fv s1.pc < (L : Int)) = true := decide_eq_true p1
    have HX := Lib.hid (And.intro hx (And.intro hpc hlt))
    have HC := Lib.hid hcase
    have HZ := Lib.hid hz
    have HOK := Lib.hid hok
    have HF := Lib.hid (And.intro hrun (And.intro hdf hnf))
    have HM := Lib.hid hM
    have HO := Lib.hid hown
    have HT := Lib.hid hT
    have c0 := hM.c0
    have c2 : w1.cell? ⟨mB, 2, none⟩ = some (.slice (some ad) L cI) := by
      obtain ⟨a0, a1, a2, i0, i1, i2, hi, hB⟩ := hM.blk
      exact (hB.cell 2).trans rfl
    have c4 := hM.regs.1
    clear hx hpc hlt hcase hz hok hrun hdf hnf hM hown hT
    go_upto_region 1 with (fail)
    go_region_held3 (fun w' => w'.cell? ⟨mB, 2, none⟩ = some (.slice (some ad) L cI) ∧ w'.cell? ⟨mB, 4, none⟩ = some (vi (fv s1.pc))) (exact ⟨c2, c4⟩) ((go_at_call 104; refine (must_yes _).mono ?_; rintro _ _ ⟨rfl, rfl⟩))
    obtain ⟨y0, y1, y2, y3⟩ := KC.out _ HT.out
    have KR : Hid (∀ W, Tn [] w1 W → W.cell? ⟨mB, 2, none⟩ = some (.slice (some ad) L cI) ∧ W.cell? ⟨mB, 4, none⟩ = some (vi (fv s1.pc)) ∧ W.cell? (ad.add ((fv s1.pc).toNat * 4)) = some (vi op) ∧ W.cell? ⟨(ad.add ((fv s1.pc).toNat * 4)).block, (ad.add ((fv s1.pc).toNat * 4)).off + 1, none⟩ = some (vi ia) ∧ W.cell? ⟨(ad.add ((fv s1.pc).toNat * 4)).block, (ad.add ((fv s1.pc).toNat * 4)).off + 2, none⟩ = some (vi ib) ∧ W.cell? ⟨(ad.add ((fv s1.pc).toNat * 4)).block, (ad.add ((fv s1.pc).toNat * 4)).off + 3, none⟩ = some (vi ic)) := Lib.hid fun W hW => ⟨hW.cell c2 (by simp), hW.cell c4 (by simp), hW.cell y0 (by simp), hW.cell y1 (by simp), hW.cell y2 (by simp), hW.cell y3 (by simp)⟩
    go_wp2
    go_region_held3 (fun w' => w'.cell? ⟨mB, 2, none⟩ = some (.slice (some ad) L cI) ∧ w'.cell? ⟨mB, 4, none⟩ = some (vi (fv s1.pc)) ∧ w'.cell? (ad.add ((fv s1.pc).toNat * 4)) = some (vi op) ∧ w'.cell? ⟨(ad.add ((fv s1.pc).toNat * 4)).block, (ad.add ((fv s1.pc).toNat * 4)).off + 1, none⟩ = some (vi ia) ∧ w'.cell? ⟨(ad.add ((fv s1.pc).toNat * 4)).block, (ad.add ((fv s1.pc).toNat * 4)).off + 2, none⟩ = some (vi ib) ∧ w'.cell? ⟨(ad.add ((fv s1.pc).toNat * 4)).block, (ad.add ((fv s1.pc).toNat * 4)).off + 3, none⟩ = some (vi ic)) (first | exact ⟨c2, c4, y0, y1, y2, y3⟩ | (refine KR.out _ ?_; repeat (first | exact Tn.refl _ _ | with_reducible apply Tn.alloc | with_reducible refine Tn.setCell ?_ (Or.inr (Nat.le_refl _)) _ | with_reducible apply Tn.drew | with_reducible apply Tn.drewN))) (fail)
    obtain ⟨W2, hW2⟩ : ∃ W2, W2 = (w1.alloc (.cells #[vi op, vi ia, vi ib, vi ic] 121)).drew.drew := ⟨_, rfl⟩
    rw [← hW2]
    have hT2 : Tn [] w1 W2 := by rw [hW2]; exact (((Tn.refl _ _).alloc _).drew).drew
    have hB2 : Blk W2 w1.heap.size 121 #[vi op, vi ia, vi ib, vi ic] := by rw [hW2]; exact Blk.new w1 _ _
    obtain ⟨b1, hb1⟩ : ∃ b1, b1 = w1.heap.size := ⟨_, rfl⟩
    rw [← hb1] at hB2 ⊢
    have hM2 := HM.out.tn hT2 (by simp) (by simp) (by simp)
    have HM2 := Lib.hid hM2
    have HT2 := Lib.hid hT2
    have HB2 := Lib.hid hB2
    have HB1 := Lib.hid hb1
    clear hW2 hT2 y0 y1 y2 y3 c0 c2 c4 KR hb1
    have x0 := (hB2.cell 0).trans (show _ = some (vi op) from rfl)
    obtain ⟨c4, c5, c6, c7⟩ := hM2.regs
    have c16 : W2.cell? ⟨mB, 16, none⟩ = some (vi d1) := by
      obtain ⟨a0, a1, a2, i0, i1, i2, hi, hB⟩ := hM2.blk
      exact (hB.cell 16).trans rfl
    clear hM2 hB2
    have KR : Hid (∀ W, Tn [] W2 W → W.cell? ⟨mB, 4, none⟩ = some (vi (fv s1.pc)) ∧ W.cell? ⟨mB, 5, none⟩ = some (vi (fv s1.fp)) ∧ W.cell? ⟨mB, 6, none⟩ = some (vi (fv s1.ap)) ∧ W.cell? ⟨mB, 7, none⟩ = some (vi (fv s1.rv))) := Lib.hid fun W hW => ⟨hW.cell c4 (by simp), hW.cell c5 (by simp), hW.cell c6 (by simp), hW.cell c7 (by simp)⟩
    by_cases h0 : op = 0
    · have t2 : (op != 0) = false := by simp [h0]
      have t3 : (op == 0) = true := by simp [h0]
      have H0 := Lib.hid h0
      clear h0
      go_wp2
      go_region_held3 (fun W => W.cell? ⟨mB, 4, none⟩ = some (vi (fv s1.pc)) ∧ W.cell? ⟨mB, 5, none⟩ = some (vi (fv s1.fp)) ∧ W.cell? ⟨mB, 6, none⟩ = some (vi (fv s1.ap)) ∧ W.cell? ⟨mB, 7, none⟩ = some (vi (fv s1.rv))) (first | exact ⟨c4, c5, c6, c7⟩ | (refine KR.out _ ?_; repeat (first | exact Tn.refl _ _ | with_reducible apply Tn.alloc | with_reducible refine Tn.setCell ?_ (Or.inr (Nat.le_refl _)) _ | with_reducible apply Tn.drew | with_reducible apply Tn.drewN))) (fail)
      obtain ⟨W3, hW3⟩ : ∃ W3, W3 = (W2.alloc (.cells #[vi (fv s1.pc), vi (fv s1.fp), vi (fv s1.ap), vi (fv s1.rv), vi 0, vi 0, vi 0, vi 0, vi 0, vi 0] 172)).drew := ⟨_, rfl⟩
      rw [← hW3]
      have hT3 : Tn [] W2 W3 := by rw [hW3]; exact ((Tn.refl _ _).alloc _).drew
      have hB3 : Blk W3 W2.heap.size 172 #[vi (fv s1.pc), vi (fv s1.fp), vi (fv s1.ap), vi (fv s1.rv), vi 0, vi 0, vi 0, vi 0, vi 0, vi 0] := by rw [hW3]; exact Blk.new W2 _ _
      obtain ⟨b2, hb2⟩ : ∃ b2, b2 = W2.heap.size := ⟨_, rfl⟩
      rw [← hb2] at hB3 ⊢
      have HT3 := Lib.hid hT3
      have HB3 := Lib.hid hB3
      have HZ2 := Lib.hid hb2
      have hM3 := HM2.out.tn hT3 (by simp) (by simp) (by simp)
      have HM3 := Lib.hid hM3
      obtain ⟨a0, a1, a2, i0, i1, i2, hi, hB⟩ := hM3.blk
      have HQ := Lib.hid hB
      have HI := Lib.hid hi
      have g8 := (hB.cell 8).trans (show _ = some (vi a0) from rfl)
      have g9 := (hB.cell 9).trans (show _ = some (vi a1) from rfl)
      have g10 := (hB.cell 10).trans (show _ = some (vi a2) from rfl)
      have g11 := (hB.cell 11).trans (show _ = some (vi i0) from rfl)
      have g12 := (hB.cell 12).trans (show _ = some (vi i1) from rfl)
      have g13 := (hB.cell 13).trans (show _ = some (vi i2) from rfl)
      have g14 := (hB.cell 14).trans (show _ = some (vi u1) from rfl)
      have f8 := hB.frozen 8
      have f9 := hB.frozen 9
      have f10 := hB.frozen 10
      have f11 := hB.frozen 11
      have f12 := hB.frozen 12
      have f13 := hB.frozen 13
      have f14 := hB.frozen 14
      clear hW3 hT3 hB3 hM3 hB hi x0 c4 c5 c6 c7 c16 KR hb2
      go_upto_region 7 with (fail)
      obtain ⟨hM4, hT4⟩ := HM3.out.reset
      have hO4 := row_tn (row_tn (row_tn HO.out HT2.out (by simp)) HT3.out (by simp)) hT4 (fun g hg h => HM.out.row_ne HO.out g hg (by simp only [List.mem_singleton] at h; simp [h]))
      obtain ⟨W4, hW4⟩ : ∃ W4, W4 = ((((((W3.setCell ⟨mB, 8, none⟩ (vi 0)).setCell ⟨mB, 9, none⟩ (vi 0)).setCell ⟨mB, 10, none⟩ (vi 0)).setCell ⟨mB, 11, none⟩ (vi 0)).setCell ⟨mB, 12, none⟩ (vi 0)).setCell ⟨mB, 13, none⟩ (vi 0)).setCell ⟨mB, 14, none⟩ (vi 0) := ⟨_, rfl⟩
      rw [← hW4] at hM4 hT4 hO4 ⊢
      have hmb := HM.out.lt
      have hb14 := (HB2.out.tn HT3.out (by simp)).tn hT4 (by have := HB1.out; simp; omega)
      have hb24 := HB3.out.tn hT4 (by have := HZ2.out; have := HT2.out.size; simp; omega)
      have HM4 := Lib.hid hM4
      have HT4 := Lib.hid (((HT.out.trans (HT2.out.more (by simp))).trans (HT3.out.more (by simp))).trans (hT4.more (Y := [mB, gm]) (by simp)))
      have HO4 := Lib.hid hO4
      have HB14 := Lib.hid hb14
      have HB24 := Lib.hid hb24
      have x0 := (hb14.cell 0).trans (show _ = some (vi op) from rfl)
      have x1 := (hb14.cell 1).trans (show _ = some (vi ia) from rfl)
      have x2 := (hb14.cell 2).trans (show _ = some (vi ib) from rfl)
      have x3 := (hb14.cell 3).trans (show _ = some (vi ic) from rfl)
      clear hM4 hT4 hO4 hW4 hmb hb14 hb24 g8 g9 g10 g11 g12 g13 g14 f8 f9 f10 f11 f12 f13 f14
      have hc0 : (s1.mem (s1.fp + el p ia) = none ∧ R = .blank) ∨ ∃ v, s1.mem (s1.fp + el p ia) = some v ∧ R = .out v := by
        have h := HC.out
        have e : oneM s1 ⟨op, ia, ib, ic⟩ = lookM s1 (s1.fp + el p ia) fun v => .halt v := by unfold oneM; rw [if_pos H0.out]
        rw [e] at h
        rcases h with ⟨h, hr⟩ | ⟨v, h, hr⟩ | ⟨s', g, _, h, _⟩
        · rcases lookM_blank h with h | ⟨v, _, h⟩
          · exact .inl ⟨h, hr⟩
          · cases h
        · unfold lookM at h
          rcases e : s1.mem (s1.fp + el p ia) with _ | u
          · simp [e] at h
          · simp only [e] at h
            injection h with h
            exact .inr ⟨v, by rw [h], hr⟩
        · obtain ⟨v, _, h⟩ := lookM_next h
          cases h
      rcases hc0 with ⟨hv, hr⟩ | ⟨v, hv, hr⟩
      · have HV := Lib.hid (And.intro hv hr)
        clear hv hr
        go_wp2_with fail
        refine (own_cell p hp2 ia HOK.out.a _ HM4.out).mono ?_
        rintro _ _ ⟨rfl, k1, rfl⟩
        go_wp2_with fail
        refine (look_no hp2 _ HV.out.1 _ (HM4.out.drewN k1)).mono ?_
        rintro _ _ ⟨rfl, rfl⟩
        exact ⟨rfl, HT4.out.drewN k1, .inl ⟨HV.out.2, rfl⟩⟩
      · have HV := Lib.hid (And.intro hv hr)
        clear hv hr
        go_wp2_with fail
        refine (own_cell p hp2 ia HOK.out.a _ HM4.out).mono ?_
        rintro _ _ ⟨rfl, k1, rfl⟩
        go_wp2_with fail
        refine (look_yes hp2 _ v HV.out.1 (by omega) _ (HM4.out.drewN k1)).mono ?_
        rintro _ W5 ⟨rfl, hM5, hT5⟩
        have hT5 : Tn [mB, gm] W4 W5 := ((Tn.refl _ _).drewN k1).trans hT5
        obtain ⟨s', hs'⟩ : ∃ s', s' = s1 := ⟨_, rfl⟩
        obtain ⟨u', hu⟩ : ∃ u', u' = 0 + 1 := ⟨_, rfl⟩
        obtain ⟨n', hn'⟩ : ∃ n', n' = n1 := ⟨_, rfl⟩
        rw [← hs', ← hu, ← hn'] at hM5
        have hu' : u' ≤ 3 := by omega
        have HN := Lib.hid (show n' ≤ n1 + 2 by omega)
        clear hs' hu hn'
        have hm1 := HM.out.lt
        have hg1 := HM.out.map.lt
        have HM5 := Lib.hid hM5
        have HT5 := Lib.hid (HT4.out.trans hT5)
        have HO5 := Lib.hid (row_tn HO4.out hT5 (HM4.out.row_ne HO4.out))
        have HB15 := Lib.hid (HB14.out.tn hT5 (by have := HB1.out; simp; omega))
        have HB25 := Lib.hid (HB24.out.tn hT5 (by have := HZ2.out; have := HT2.out.size; simp; omega))
        have c14 : W5.cell? ⟨mB, 14, none⟩ = some (vi u') := by
          obtain ⟨a0, a1, a2, i0, i1, i2, hy, hB⟩ := hM5.blk
          exact (hB.cell 14).trans rfl
        clear hM5 hT5 x0 x1 x2 x3 hm1 hg1
        go_wp2
        go_loopw [89] (fun i wr => ∃ k : Nat, k ≤ u' ∧ i = vi k ∧ Mac wr mB b gm n' size (some ad) L cI s' u' SV d1 ∧ Tn [mB] W5 wr) (fun i _ => u' - (intOf i).toNat)
        case atStart => exact ⟨0, Nat.zero_le _, rfl, HM5.out, Tn.refl _ _⟩
        case round =>
          rename World => w6
          obtain ⟨k, hk, rfl, hM6, hT6⟩ := hrel
          by_cases hlt : k < u'
          · obtain ⟨a0, a1, a2, i0, i1, i2, hy, hB⟩ := hM6.blk
            obtain ⟨D, hD, hD1, hD2⟩ := hM6.map
            obtain ⟨z0, r0, _, _⟩ := (hD.drew).lookup_int keyed_i Tryz.underlying83 Tryz.underlying3 (zero_i w6.drew) (Go.Maps.keyOf_int_mk Tryz.underlying3 (wf_of_i64 hy.1))
            obtain ⟨z1, r1, _, _⟩ := (hD.drew).lookup_int keyed_i Tryz.underlying83 Tryz.underlying3 (zero_i w6.drew) (Go.Maps.keyOf_int_mk Tryz.underlying3 (wf_of_i64 hy.2.1))
            obtain ⟨z2, r2, _, _⟩ := (hD.drew).lookup_int keyed_i Tryz.underlying83 Tryz.underlying3 (zero_i w6.drew) (Go.Maps.keyOf_int_mk Tryz.underlying3 (wf_of_i64 hy.2.2))
            have c3 := (hB.cell 3).trans (show _ = some (.map (some gm)) from rfl)
            have g8 := (hB.cell 8).trans (show _ = some (vi a0) from rfl)
            have g9 := (hB.cell 9).trans (show _ = some (vi a1) from rfl)
            have g10 := (hB.cell 10).trans (show _ = some (vi a2) from rfl)
            have g11 := (hB.cell 11).trans (show _ = some (vi i0) from rfl)
            have g12 := (hB.cell 12).trans (show _ = some (vi i1) from rfl)
            have g13 := (hB.cell 13).trans (show _ = some (vi i2) from rfl)
            have f11 := hB.frozen 11
            have f12 := hB.frozen 12
            have f13 := hB.frozen 13
            have HU0 := Lib.hid (hM6.told 0 (by omega) z0)
            have HU1 := Lib.hid (hM6.told 1 (by omega) z1)
            have HU2 := Lib.hid (hM6.told 2 (by omega) z2)
            have HT6 := Lib.hid hT6
            clear hM6 hT6 hB hD hD1 hD2 hy
            obtain rfl | rfl | rfl : k = 0 ∨ k = 1 ∨ k = 2 := by omega
            all_goals
              go_wp2
              go_region
              go_wp2
              go_roundw
              case rel => first | exact ⟨0 + 1, by omega, by go_num, HU0.out.1.drewN 1, HT6.out.trans (HU0.out.2.drewN 1)⟩ | exact ⟨1 + 1, by omega, by go_num, HU1.out.1.drewN 1, HT6.out.trans (HU1.out.2.drewN 1)⟩ | exact ⟨2 + 1, by omega, by go_num, HU2.out.1.drewN 1, HT6.out.trans (HU2.out.2.drewN 1)⟩
              case measure => simp [intOf]; omega
          · obtain rfl : k = u' := by omega
            obtain ⟨a0, a1, a2, i0, i1, i2, hy, hB⟩ := hM6.blk
            have g8 := (hB.cell 8).trans (show _ = some (vi a0) from rfl)
            have g9 := (hB.cell 9).trans (show _ = some (vi a1) from rfl)
            have g10 := (hB.cell 10).trans (show _ = some (vi a2) from rfl)
            have g11 := (hB.cell 11).trans (show _ = some (vi i0) from rfl)
            have g12 := (hB.cell 12).trans (show _ = some (vi i1) from rfl)
            have g13 := (hB.cell 13).trans (show _ = some (vi i2) from rfl)
            have hne2 : ¬ b2 = mB := by have := HZ2.out; have := HT2.out.size; have := HM.out.lt; omega
            have hne1 : ¬ b1 = mB := by have := HB1.out; have := HM.out.lt; omega
            have hne21 : ¬ b1 = b2 := by have := HZ2.out; have := HB2.out.lt; omega
            have hB26 := HB25.out.tn hT6 (by simp; exact hne2)
            have hB16 := HB15.out.tn hT6 (by simp; exact hne1)
            have q4 := (hB26.cell 4).trans (show _ = some (vi 0) from rfl)
            have q5 := (hB26.cell 5).trans (show _ = some (vi 0) from rfl)
            have q6 := (hB26.cell 6).trans (show _ = some (vi 0) from rfl)
            have q7 := (hB26.cell 7).trans (show _ = some (vi 0) from rfl)
            have q8 := (hB26.cell 8).trans (show _ = some (vi 0) from rfl)
            have q9 := (hB26.cell 9).trans (show _ = some (vi 0) from rfl)
            have f4 := hB26.frozen 4
            have f5 := hB26.frozen 5
            have f6 := hB26.frozen 6
            have f7 := hB26.frozen 7
            have f8 := hB26.frozen 8
            have f9 := hB26.frozen 9
            have HM6 := Lib.hid hM6
            have HT6 := Lib.hid hT6
            have HB26 := Lib.hid hB26
            have HB16 := Lib.hid hB16
            have HNE := Lib.hid (And.intro hne2 (And.intro hne1 hne21))
            clear hM6 hT6 hB hy hB26 hB16 hne21 hne1 hne2
            go_wp2
            go_region
            obtain ⟨W7, hW7⟩ : ∃ W7, W7 = ((((((w6.setCell ⟨b2, 4, none⟩ (vi a0)).setCell ⟨b2, 5, none⟩ (vi a1)).setCell ⟨b2, 6, none⟩ (vi a2)).setCell ⟨b2, 7, none⟩ (vi i0)).setCell ⟨b2, 8, none⟩ (vi i1)).setCell ⟨b2, 9, none⟩ (vi i2)).drew := ⟨_, rfl⟩
            rw [← hW7]
            have hst := step_laid HB26.out a0 a1 a2 i0 i1 i2
            rw [← hW7] at hst
            obtain ⟨hB27, hT7⟩ := hst
            clear hW7 q4 q5 q6 q7 q8 q9 f4 f5 f6 f7 f8 f9 g8 g9 g10 g11 g12 g13
            have hb2b := HM6.out.bne
            have hM7 := HM6.out.tn hT7 (by simp; exact fun e => HNE.out.1 e.symm) (by simp; exact fun e => by have := HZ2.out; have := HT2.out.size; have := HM.out.map.lt; omega) (by simp; exact fun e => by have := HZ2.out; have := HT2.out.size; have := block_lt_of_cell HM.out.fld; simp only at this; omega)
            have hO7 := row_tn (row_tn HO5.out HT6.out (fun g hg h => HM5.out.row_ne HO5.out g hg (by simp only [List.mem_singleton] at h; simp [h]))) hT7 (fun g hg h => by
              simp only [List.mem_singleton] at h
              have := (World.ownsRow.lt HO.out g hg).2
              have := HZ2.out
              have := HT2.out.size
              omega)
            have HB17 := Lib.hid (HB16.out.tn hT7 (by simp; exact HNE.out.2.2))
            have HM7 := Lib.hid hM7
            have HO7 := Lib.hid hO7
            have HB27 := Lib.hid hB27
            have HT7 := Lib.hid ((((HT5.out.more (Y := [mB, gm, b2]) (by simp)).trans (HT6.out.more (by simp))).trans (hT7.more (by simp))).more (Y := [mB, gm]) (fun g hg => by
              simp only [List.mem_cons, List.not_mem_nil, or_false] at hg
              rcases hg with h | h | h
              · exact .inl (by simp [h])
              · exact .inl (by simp [h])
              · exact .inr (by have := HZ2.out; have := HT2.out.size; have := HT.out.size; omega)))
            have c15 : W7.cell? ⟨mB, 15, none⟩ = some SV := by
              obtain ⟨a0, a1, a2, i0, i1, i2, hy, hB⟩ := hM7.blk
              exact (hB.cell 15).trans rfl
            have KX : Hid (∀ X W, ¬ mB ∈ X → ¬ b2 ∈ X → Tn X W7 W → W.cell? ⟨mB, 15, none⟩ = some SV ∧ W.cell? ⟨b2, 0, none⟩ = some (vi (fv s1.pc)) ∧ W.cell? ⟨b2, 1, none⟩ = some (vi (fv s1.fp)) ∧ W.cell? ⟨b2, 2, none⟩ = some (vi (fv s1.ap)) ∧ W.cell? ⟨b2, 3, none⟩ = some (vi (fv s1.rv)) ∧ W.cell? ⟨b2, 4, none⟩ = some (vi a0) ∧ W.cell? ⟨b2, 5, none⟩ = some (vi a1) ∧ W.cell? ⟨b2, 6, none⟩ = some (vi a2) ∧ W.cell? ⟨b2, 7, none⟩ = some (vi i0) ∧ W.cell? ⟨b2, 8, none⟩ = some (vi i1) ∧ W.cell? ⟨b2, 9, none⟩ = some (vi i2)) := Lib.hid fun X W hx1 hx2 hW => by
              have hB := HB27.out.tn hW hx2
              exact ⟨hW.cell c15 hx1, (hB.cell 0).trans rfl, (hB.cell 1).trans rfl, (hB.cell 2).trans rfl, (hB.cell 3).trans rfl, (hB.cell 4).trans rfl, (hB.cell 5).trans rfl, (hB.cell 6).trans rfl, (hB.cell 7).trans rfl, (hB.cell 8).trans rfl, (hB.cell 9).trans rfl⟩
            clear hB27 hT7 hM7 hO7 c15 hb2b
            go_upto_region 17 with (fail)
            refine wp_region_M (C := fun W => W.cell? ⟨mB, 15, none⟩ = some SV ∧ W.cell? ⟨b2, 0, none⟩ = some (vi (fv s1.pc)) ∧ W.cell? ⟨b2, 1, none⟩ = some (vi (fv s1.fp)) ∧ W.cell? ⟨b2, 2, none⟩ = some (vi (fv s1.ap)) ∧ W.cell? ⟨b2, 3, none⟩ = some (vi (fv s1.rv)) ∧ W.cell? ⟨b2, 4, none⟩ = some (vi a0) ∧ W.cell? ⟨b2, 5, none⟩ = some (vi a1) ∧ W.cell? ⟨b2, 6, none⟩ = some (vi a2) ∧ W.cell? ⟨b2, 7, none⟩ = some (vi i0) ∧ W.cell? ⟨b2, 8, none⟩ = some (vi i1) ∧ W.cell? ⟨b2, 9, none⟩ = some (vi i2)) 10 (by kernel_rfl) ?_
            have xx := KX.out [] _ (by simp) (by simp) ((Tn.refl [] W7).drew)
            refine wpAnyM_takeT (i := 0) rfl rfl (by kernel_rfl) (by kernel_rfl) (by kernel_rfl) (fun _ _ _ h => h) (by decide) (Or.inl ⟨by rfl, by (intro w hSw; go_simp; try with_reducible rfl)⟩) (by first | exact fun _ => by assumption | exact fun h => absurd h (by decide)) ?_
            (try simp only [Act.put, List.setIfInBounds_toArray, List.set_cons_zero, List.set_cons_succ])
            refine wpAnyM_takeT (i := 1) rfl rfl (by kernel_rfl) (by kernel_rfl) (by kernel_rfl) (fun _ _ _ h => h) (by decide) (Or.inl ⟨by rfl, by (intro w hSw; go_simp; try with_reducible rfl)⟩) (by first | exact fun _ => by assumption | exact fun h => absurd h (by decide)) ?_
            (try simp only [Act.put, List.setIfInBounds_toArray, List.set_cons_zero, List.set_cons_succ])
            refine wpAnyM_takeT (i := 2) rfl rfl (by kernel_rfl) (by kernel_rfl) (by kernel_rfl) (fun _ _ _ h => h) (by decide) (Or.inl ⟨by rfl, by (intro w hSw; go_simp; try with_reducible rfl)⟩) (by first | exact fun _ => by assumption | exact fun h => absurd h (by decide)) ?_
            (try simp only [Act.put, List.setIfInBounds_toArray, List.set_cons_zero, List.set_cons_succ])
            refine wpAnyM_takeT (i := 3) rfl rfl (by kernel_rfl) (by kernel_rfl) (by kernel_rfl) (fun _ _ _ h => h) (by decide) (Or.inl ⟨by rfl, by (intro w hSw; go_simp; try with_reducible rfl)⟩) (by first | exact fun _ => by assumption | exact fun h => absurd h (by decide)) ?_
            (try simp only [Act.put, List.setIfInBounds_toArray, List.set_cons_zero, List.set_cons_succ])
            refine wpAnyM_take (i := 4) rfl rfl (by kernel_rfl) (by kernel_rfl) (by kernel_rfl) (fun _ _ _ h => h) (by decide) (by kernel_rfl) (by kernel_rfl) (Or.inl ⟨by rfl, by (intro w hSw; (try dsimp only at hSw); go_simp; try with_reducible rfl)⟩) (by assumption) ?_
            (try simp only [Act.put, List.setIfInBounds_toArray, List.set_cons_zero, List.set_cons_succ])
            refine wpAnyM_take (i := 5) rfl rfl (by kernel_rfl) (by kernel_rfl) (by kernel_rfl) (fun _ _ _ h => h) (by decide) (by kernel_rfl) (by kernel_rfl) (Or.inl ⟨by rfl, by (intro w hSw; (try dsimp only at hSw); go_simp; try with_reducible rfl)⟩) (by assumption) ?_
            (try simp only [Act.put, List.setIfInBounds_toArray, List.set_cons_zero, List.set_cons_succ])
            refine wpAnyM_ready (rs := [6]) (by kernel_rfl) (by simp) ?_
            refine AllReadyM.cons rfl (fun K hK => ?_) AllReadyM.nil
            go_simp
            refine hK.out _ _ (fun _ => KX.out [] _ (by simp) (by simp) (by repeat (first | exact Tn.refl _ _ | with_reducible apply Tn.alloc | with_reducible apply Tn.drew | with_reducible apply Tn.drewN))) ?_
            clear hK K
            (try simp only [Act.put, List.setIfInBounds_toArray, List.set_cons_zero, List.set_cons_succ])
            clear xx
            have hSV : ∀ g, SV.ownBlock = some g → ¬ mB = g ∧ ¬ b2 = g ∧ ¬ gm = g ∧ w.heap.size ≤ g := fun g hg => by
              have h1 := HM.out.row_ne HO.out g hg
              simp only [List.mem_cons, List.not_mem_nil, or_false, not_or] at h1
              have h2 := World.ownsRow.lt HO.out g hg
              have := HZ2.out
              have := HT2.out.size
              exact ⟨fun e => h1.1 e.symm, by omega, fun e => h1.2 e.symm, h2.1⟩
            have HSV := Lib.hid hSV
            have HTA := Lib.hid (((Tn.refl [] W7).alloc (.cells (([fv s1.pc, fv s1.fp, fv s1.ap, fv s1.rv, a0, a1, a2, i0, i1, i2] : List Int).map vi).toArray 172)).drew)
            clear hSV
            refine wpAnyM_ready (rs := [7]) (by kernel_rfl) (by simp) ?_
            refine AllReadyM.cons rfl (fun K hK => ?_) AllReadyM.nil
            refine step_appSG 85 172 _ 10 80 Tryz.underlying85 info_step (by rfl) (by omega) _ W7.heap.size (([fv s1.pc, fv s1.fp, fv s1.ap, fv s1.rv, a0, a1, a2, i0, i1, i2] : List Int).map vi) (by rfl) (fun u hu => by obtain ⟨x, _, rfl⟩ := List.mem_map.1 hu; rfl) (by rfl) _ _ (by rfl) w.heap.size SV d1 xs (by rfl) (by rfl) (fun j u hj => (((Blk.new W7 172 (([fv s1.pc, fv s1.fp, fv s1.ap, fv s1.rv, a0, a1, a2, i0, i1, i2] : List Int).map vi).toArray).drew).cell j).trans (by rw [List.getElem?_toArray]; exact hj)) (row_tn HO7.out HTA.out (by simp)) (by have := HF.out.2.1; simp only [maxLen]; omega) (by have := HF.out.2.1; omega) (Nat.le_trans HT7.out.size HTA.out.size) ?_
            intro v8 W8 hO8 hg8 hv8
            obtain ⟨A8, c8, rfl⟩ := row_form hO8
            have hT8 : Tn SV.ownBlock.toList W7 W8 := (HTA.out.more (by simp)).trans ((Tn.refl _ _).grown hg8 (fun k hk => .inl (by rw [hk]; simp)))
            have hx1 : ¬ mB ∈ SV.ownBlock.toList := fun h => by
              simp only [Option.mem_toList, Option.mem_def] at h
              exact (HSV.out _ h).1 rfl
            have hx2 : ¬ b2 ∈ SV.ownBlock.toList := fun h => by
              simp only [Option.mem_toList, Option.mem_def] at h
              exact (HSV.out _ h).2.1 rfl
            have hx3 : ¬ gm ∈ SV.ownBlock.toList := fun h => by
              simp only [Option.mem_toList, Option.mem_def] at h
              exact (HSV.out _ h).2.2.1 rfl
            have hx4 : ¬ b ∈ SV.ownBlock.toList := fun h => by
              simp only [Option.mem_toList, Option.mem_def] at h
              have h1 := (HSV.out _ h).2.2.2
              have h2 := HBW.out
              omega
            have hM8 := HM7.out.tn hT8 hx1 hx3 hx4
            have e15 := (KX.out _ _ hx1 hx2 hT8).1
            have f15 := hM8.thaw 15
            have hb1n : ¬ b1 ∈ SV.ownBlock.toList := fun h => by
              simp only [Option.mem_toList, Option.mem_def] at h
              exact row_blk_ne HO7.out HB17.out (by decide) h
            have HB18 := Lib.hid (HB17.out.tn hT8 hb1n)
            have HT8 := Lib.hid ((HT7.out.more (Y := mB :: gm :: SV.ownBlock.toList) (by simp)).trans (hT8.more (by simp; exact fun k hk => .inl (.inr (.inr hk)))))
            refine hK.out _ _ (fun _ => KX.out _ _ hx1 hx2 hT8) ?_
            clear hK K
            (try simp only [Act.put, List.setIfInBounds_toArray, List.set_cons_zero, List.set_cons_succ])
            have HM8 := Lib.hid hM8
            have HO8 := Lib.hid hO8
            have xx := KX.out _ _ hx1 hx2 hT8
            clear hM8 hO8 hg8 hv8 hT8 hx1 hx2 hx3 hx4 hb1n
            refine wpAnyM_takeT (i := 8) rfl rfl (by kernel_rfl) (by kernel_rfl) (by kernel_rfl) (fun _ _ _ h => h) (by decide) (Or.inl ⟨by rfl, by (intro w hSw; go_simp; try with_reducible rfl)⟩) (by first | exact fun _ => by assumption | exact fun h => absurd h (by decide)) ?_
            (try simp only [Act.put, List.setIfInBounds_toArray, List.set_cons_zero, List.set_cons_succ])
            refine wpAnyM_takeT (i := 9) rfl rfl (by kernel_rfl) (by kernel_rfl) (by kernel_rfl) (fun _ _ _ h => h) (by decide) (Or.inl ⟨by rfl, by (intro w hSw; go_simp; try with_reducible rfl)⟩) (by first | exact fun _ => by assumption | exact fun h => absurd h (by decide)) ?_
            (try simp only [Act.put, List.setIfInBounds_toArray, List.set_cons_zero, List.set_cons_succ])
            clear xx
            refine wpAnyM_ready (rs := [10]) (by kernel_rfl) (by simp) ?_
            refine AllReadyM.cons rfl (fun K hK => ?_) AllReadyM.nil
            go_simp
            refine hK.out _ _ (fun h => absurd h (by decide)) ?_
            clear hK K
            (try simp only [Act.put, List.setIfInBounds_toArray, List.set_cons_zero, List.set_cons_succ])
            refine wpAnyM_done (by kernel_rfl) ?_ _
            obtain ⟨W9, hW9⟩ : ∃ W9, W9 = W8.setCell ⟨mB, 15, none⟩ (.slice A8 (d1 + 1) c8) := ⟨_, rfl⟩
            rw [← hW9]
            have hT9 : Tn [mB] W8 W9 := by rw [hW9]; exact (Tn.refl _ _).setCell (.inl (by simp)) _
            have hM9 := HM8.out.lay s' (.slice A8 (d1 + 1) c8) d1 rfl (fun _ _ _ _ _ _ hB => by rw [hW9]; exact hB.set_ 15 _) hT9
            have HO9 := Lib.hid (row_tn HO8.out hT9 (fun g hg h => HM8.out.row_ne HO8.out g hg (by simp only [List.mem_singleton] at h; simp [h])))
            have hB19 := HB18.out.tn hT9 (by simp; exact HNE.out.2.1)
            have HT9 := Lib.hid ((HT8.out.more (Y := [mB, gm]) (fun g hg => by
              simp only [List.mem_cons, Option.mem_toList, Option.mem_def] at hg
              rcases hg with h | h | h
              · exact .inl (by simp [h])
              · exact .inl (by simp [h])
              · exact .inr (HSV.out _ h).2.2.2)).trans (hT9.more (by simp)))
            have HM9 := Lib.hid hM9
            have x0 := (hB19.cell 0).trans (show _ = some (vi op) from rfl)
            have c16 : W9.cell? ⟨mB, 16, none⟩ = some (vi d1) := by
              obtain ⟨a0, a1, a2, i0, i1, i2, hy, hB⟩ := hM9.blk
              exact (hB.cell 16).trans rfl
            have f16 := hM9.thaw 16
            clear hW9 hT9 hM9 hB19 e15 f15
            go_wp2
            go_ret
            exact ⟨HT9.out, .inr ⟨v, HV.out.2, rfl, s', n', k, _, d1, by have := HF.out.2.2; have := HN.out; omega, HM9.out⟩⟩
    · have t2 : (op != 0) = true := by simp [h0]
      have t3 : (op == 0) = false := by simp [h0]
      have t4 : ((d1 : Int) == (limit : Int)) = false := by
        have h1 := HF.out.2.1
        have h2 := HZ.out
        simp only [beq_eq_false_iff_ne, ne_eq, Int.natCast_inj]
        intro e
        exact h0 (h2 (by omega))
      have H0 := Lib.hid h0
      clear h0
      go_wp2
      go_region_held3 (fun W => W.cell? ⟨mB, 4, none⟩ = some (vi (fv s1.pc)) ∧ W.cell? ⟨mB, 5, none⟩ = some (vi (fv s1.fp)) ∧ W.cell? ⟨mB, 6, none⟩ = some (vi (fv s1.ap)) ∧ W.cell? ⟨mB, 7, none⟩ = some (vi (fv s1.rv))) (first | exact ⟨c4, c5, c6, c7⟩ | (refine KR.out _ ?_; repeat (first | exact Tn.refl _ _ | with_reducible apply Tn.alloc | with_reducible refine Tn.setCell ?_ (Or.inr (Nat.le_refl _)) _ | with_reducible apply Tn.drew | with_reducible apply Tn.drewN))) (fail)
      obtain ⟨W3, hW3⟩ : ∃ W3, W3 = (W2.alloc (.cells #[vi (fv s1.pc), vi (fv s1.fp), vi (fv s1.ap), vi (fv s1.rv), vi 0, vi 0, vi 0, vi 0, vi 0, vi 0] 172)).drew := ⟨_, rfl⟩
      rw [← hW3]
      have hT3 : Tn [] W2 W3 := by rw [hW3]; exact ((Tn.refl _ _).alloc _).drew
      have hB3 : Blk W3 W2.heap.size 172 #[vi (fv s1.pc), vi (fv s1.fp), vi (fv s1.ap), vi (fv s1.rv), vi 0, vi 0, vi 0, vi 0, vi 0, vi 0] := by rw [hW3]; exact Blk.new W2 _ _
      obtain ⟨b2, hb2⟩ : ∃ b2, b2 = W2.heap.size := ⟨_, rfl⟩
      rw [← hb2] at hB3 ⊢
      have HT3 := Lib.hid hT3
      have HB3 := Lib.hid hB3
      have HZ2 := Lib.hid hb2
      have hM3 := HM2.out.tn hT3 (by simp) (by simp) (by simp)
      have HM3 := Lib.hid hM3
      obtain ⟨a0, a1, a2, i0, i1, i2, hi, hB⟩ := hM3.blk
      have HQ := Lib.hid hB
      have HI := Lib.hid hi
      have g8 := (hB.cell 8).trans (show _ = some (vi a0) from rfl)
      have g9 := (hB.cell 9).trans (show _ = some (vi a1) from rfl)
      have g10 := (hB.cell 10).trans (show _ = some (vi a2) from rfl)
      have g11 := (hB.cell 11).trans (show _ = some (vi i0) from rfl)
      have g12 := (hB.cell 12).trans (show _ = some (vi i1) from rfl)
      have g13 := (hB.cell 13).trans (show _ = some (vi i2) from rfl)
      have g14 := (hB.cell 14).trans (show _ = some (vi u1) from rfl)
      have f8 := hB.frozen 8
      have f9 := hB.frozen 9
      have f10 := hB.frozen 10
      have f11 := hB.frozen 11
      have f12 := hB.frozen 12
      have f13 := hB.frozen 13
      have f14 := hB.frozen 14
      clear hW3 hT3 hB3 hM3 hB hi x0 c4 c5 c6 c7 c16 KR hb2
      go_upto_region 7 with (fail)
      obtain ⟨hM4, hT4⟩ := HM3.out.reset
      have hO4 := row_tn (row_tn (row_tn HO.out HT2.out (by simp)) HT3.out (by simp)) hT4 (fun g hg h => HM.out.row_ne HO.out g hg (by simp only [List.mem_singleton] at h; simp [h]))
      obtain ⟨W4, hW4⟩ : ∃ W4, W4 = ((((((W3.setCell ⟨mB, 8, none⟩ (vi 0)).setCell ⟨mB, 9, none⟩ (vi 0)).setCell ⟨mB, 10, none⟩ (vi 0)).setCell ⟨mB, 11, none⟩ (vi 0)).setCell ⟨mB, 12, none⟩ (vi 0)).setCell ⟨mB, 13, none⟩ (vi 0)).setCell ⟨mB, 14, none⟩ (vi 0) := ⟨_, rfl⟩
      rw [← hW4] at hM4 hT4 hO4 ⊢
      have hmb := HM.out.lt
      have hb14 := (HB2.out.tn HT3.out (by simp)).tn hT4 (by have := HB1.out; simp; omega)
      have hb24 := HB3.out.tn hT4 (by have := HZ2.out; have := HT2.out.size; simp; omega)
      have HM4 := Lib.hid hM4
      have HT4 := Lib.hid (((HT.out.trans (HT2.out.more (by simp))).trans (HT3.out.more (by simp))).trans (hT4.more (Y := [mB, gm]) (by simp)))
      have HO4 := Lib.hid hO4
      have HB14 := Lib.hid hb14
      have HB24 := Lib.hid hb24
      have x0 := (hb14.cell 0).trans (show _ = some (vi op) from rfl)
      have x1 := (hb14.cell 1).trans (show _ = some (vi ia) from rfl)
      have x2 := (hb14.cell 2).trans (show _ = some (vi ib) from rfl)
      have x3 := (hb14.cell 3).trans (show _ = some (vi ic) from rfl)
      clear hM4 hT4 hO4 hW4 hmb hb14 hb24 g8 g9 g10 g11 g12 g13 g14 f8 f9 f10 f11 f12 f13 f14
      rcases HC.out with ⟨ho, hr⟩ | ⟨v, ho, _⟩ | ⟨s', g, hg, ho, hr⟩
      · have HV := Lib.hid (And.intro ho hr)
        clear ho hr
        go_wp2_with fail
        refine (one_blank hp2 ⟨op, ia, ib, ic⟩ HOK.out H0.out HV.out.1 _ HM4.out).mono ?_
        rintro _ W5 ⟨rfl, hT5⟩
        exact ⟨rfl, HT4.out.trans hT5, .inl ⟨HV.out.2, rfl⟩⟩
      · exfalso
        exact no_halt H0.out ho
      · have HV := Lib.hid (And.intro ho (And.intro hr hg))
        clear ho hr hg
        go_wp2_with fail
        refine (one_next hp1 hp2 ⟨op, ia, ib, ic⟩ HOK.out s' HV.out.1 (by have := HF.out.2.2; omega) _ HM4.out).mono ?_
        rintro _ W5 ⟨rfl, ⟨n', u', hn', hu', hM5⟩, hT5⟩
        have HN := Lib.hid hn'
        clear hn'
        have hm1 := HM.out.lt
        have hg1 := HM.out.map.lt
        have HM5 := Lib.hid hM5
        have HT5 := Lib.hid (HT4.out.trans hT5)
        have HO5 := Lib.hid (row_tn HO4.out hT5 (HM4.out.row_ne HO4.out))
        have HB15 := Lib.hid (HB14.out.tn hT5 (by have := HB1.out; simp; omega))
        have HB25 := Lib.hid (HB24.out.tn hT5 (by have := HZ2.out; have := HT2.out.size; simp; omega))
        have c14 : W5.cell? ⟨mB, 14, none⟩ = some (vi u') := by
          obtain ⟨a0, a1, a2, i0, i1, i2, hy, hB⟩ := hM5.blk
          exact (hB.cell 14).trans rfl
        clear hM5 hT5 x0 x1 x2 x3 hm1 hg1
        go_wp2
        go_loopw [89] (fun i wr => ∃ k : Nat, k ≤ u' ∧ i = vi k ∧ Mac wr mB b gm n' size (some ad) L cI s' u' SV d1 ∧ Tn [mB] W5 wr) (fun i _ => u' - (intOf i).toNat)
        case atStart => exact ⟨0, Nat.zero_le _, rfl, HM5.out, Tn.refl _ _⟩
        case round =>
          rename World => w6
          obtain ⟨k, hk, rfl, hM6, hT6⟩ := hrel
          by_cases hlt : k < u'
          · obtain ⟨a0, a1, a2, i0, i1, i2, hy, hB⟩ := hM6.blk
            obtain ⟨D, hD, hD1, hD2⟩ := hM6.map
            obtain ⟨z0, r0, _, _⟩ := (hD.drew).lookup_int keyed_i Tryz.underlying83 Tryz.underlying3 (zero_i w6.drew) (Go.Maps.keyOf_int_mk Tryz.underlying3 (wf_of_i64 hy.1))
            obtain ⟨z1, r1, _, _⟩ := (hD.drew).lookup_int keyed_i Tryz.underlying83 Tryz.underlying3 (zero_i w6.drew) (Go.Maps.keyOf_int_mk Tryz.underlying3 (wf_of_i64 hy.2.1))
            obtain ⟨z2, r2, _, _⟩ := (hD.drew).lookup_int keyed_i Tryz.underlying83 Tryz.underlying3 (zero_i w6.drew) (Go.Maps.keyOf_int_mk Tryz.underlying3 (wf_of_i64 hy.2.2))
            have c3 := (hB.cell 3).trans (show _ = some (.map (some gm)) from rfl)
            have g8 := (hB.cell 8).trans (show _ = some (vi a0) from rfl)
            have g9 := (hB.cell 9).trans (show _ = some (vi a1) from rfl)
            have g10 := (hB.cell 10).trans (show _ = some (vi a2) from rfl)
            have g11 := (hB.cell 11).trans (show _ = some (vi i0) from rfl)
            have g12 := (hB.cell 12).trans (show _ = some (vi i1) from rfl)
            have g13 := (hB.cell 13).trans (show _ = some (vi i2) from rfl)
            have f11 := hB.frozen 11
            have f12 := hB.frozen 12
            have f13 := hB.frozen 13
            have HU0 := Lib.hid (hM6.told 0 (by omega) z0)
            have HU1 := Lib.hid (hM6.told 1 (by omega) z1)
            have HU2 := Lib.hid (hM6.told 2 (by omega) z2)
            have HT6 := Lib.hid hT6
            clear hM6 hT6 hB hD hD1 hD2 hy
            obtain rfl | rfl | rfl : k = 0 ∨ k = 1 ∨ k = 2 := by omega
            all_goals
              go_wp2
              go_region
              go_wp2
              go_roundw
              case rel => first | exact ⟨0 + 1, by omega, by go_num, HU0.out.1.drewN 1, HT6.out.trans (HU0.out.2.drewN 1)⟩ | exact ⟨1 + 1, by omega, by go_num, HU1.out.1.drewN 1, HT6.out.trans (HU1.out.2.drewN 1)⟩ | exact ⟨2 + 1, by omega, by go_num, HU2.out.1.drewN 1, HT6.out.trans (HU2.out.2.drewN 1)⟩
              case measure => simp [intOf]; omega
          · obtain rfl : k = u' := by omega
            obtain ⟨a0, a1, a2, i0, i1, i2, hy, hB⟩ := hM6.blk
            have g8 := (hB.cell 8).trans (show _ = some (vi a0) from rfl)
            have g9 := (hB.cell 9).trans (show _ = some (vi a1) from rfl)
            have g10 := (hB.cell 10).trans (show _ = some (vi a2) from rfl)
            have g11 := (hB.cell 11).trans (show _ = some (vi i0) from rfl)
            have g12 := (hB.cell 12).trans (show _ = some (vi i1) from rfl)
            have g13 := (hB.cell 13).trans (show _ = some (vi i2) from rfl)
            have hne2 : ¬ b2 = mB := by have := HZ2.out; have := HT2.out.size; have := HM.out.lt; omega
            have hne1 : ¬ b1 = mB := by have := HB1.out; have := HM.out.lt; omega
            have hne21 : ¬ b1 = b2 := by have := HZ2.out; have := HB2.out.lt; omega
            have hB26 := HB25.out.tn hT6 (by simp; exact hne2)
            have hB16 := HB15.out.tn hT6 (by simp; exact hne1)
            have q4 := (hB26.cell 4).trans (show _ = some (vi 0) from rfl)
            have q5 := (hB26.cell 5).trans (show _ = some (vi 0) from rfl)
            have q6 := (hB26.cell 6).trans (show _ = some (vi 0) from rfl)
            have q7 := (hB26.cell 7).trans (show _ = some (vi 0) from rfl)
            have q8 := (hB26.cell 8).trans (show _ = some (vi 0) from rfl)
            have q9 := (hB26.cell 9).trans (show _ = some (vi 0) from rfl)
            have f4 := hB26.frozen 4
            have f5 := hB26.frozen 5
            have f6 := hB26.frozen 6
            have f7 := hB26.frozen 7
            have f8 := hB26.frozen 8
            have f9 := hB26.frozen 9
            have HM6 := Lib.hid hM6
            have HT6 := Lib.hid hT6
            have HB26 := Lib.hid hB26
            have HB16 := Lib.hid hB16
            have HNE := Lib.hid (And.intro hne2 (And.intro hne1 hne21))
            clear hM6 hT6 hB hy hB26 hB16 hne21 hne1 hne2
            go_wp2
            go_region
            obtain ⟨W7, hW7⟩ : ∃ W7, W7 = ((((((w6.setCell ⟨b2, 4, none⟩ (vi a0)).setCell ⟨b2, 5, none⟩ (vi a1)).setCell ⟨b2, 6, none⟩ (vi a2)).setCell ⟨b2, 7, none⟩ (vi i0)).setCell ⟨b2, 8, none⟩ (vi i1)).setCell ⟨b2, 9, none⟩ (vi i2)).drew := ⟨_, rfl⟩
            rw [← hW7]
            have hst := step_laid HB26.out a0 a1 a2 i0 i1 i2
            rw [← hW7] at hst
            obtain ⟨hB27, hT7⟩ := hst
            clear hW7 q4 q5 q6 q7 q8 q9 f4 f5 f6 f7 f8 f9 g8 g9 g10 g11 g12 g13
            have hb2b := HM6.out.bne
            have hM7 := HM6.out.tn hT7 (by simp; exact fun e => HNE.out.1 e.symm) (by simp; exact fun e => by have := HZ2.out; have := HT2.out.size; have := HM.out.map.lt; omega) (by simp; exact fun e => by have := HZ2.out; have := HT2.out.size; have := block_lt_of_cell HM.out.fld; simp only at this; omega)
            have hO7 := row_tn (row_tn HO5.out HT6.out (fun g hg h => HM5.out.row_ne HO5.out g hg (by simp only [List.mem_singleton] at h; simp [h]))) hT7 (fun g hg h => by
              simp only [List.mem_singleton] at h
              have := (World.ownsRow.lt HO.out g hg).2
              have := HZ2.out
              have := HT2.out.size
              omega)
            have HB17 := Lib.hid (HB16.out.tn hT7 (by simp; exact HNE.out.2.2))
            have HM7 := Lib.hid hM7
            have HO7 := Lib.hid hO7
            have HB27 := Lib.hid hB27
            have HT7 := Lib.hid ((((HT5.out.more (Y := [mB, gm, b2]) (by simp)).trans (HT6.out.more (by simp))).trans (hT7.more (by simp))).more (Y := [mB, gm]) (fun g hg => by
              simp only [List.mem_cons, List.not_mem_nil, or_false] at hg
              rcases hg with h | h | h
              · exact .inl (by simp [h])
              · exact .inl (by simp [h])
              · exact .inr (by have := HZ2.out; have := HT2.out.size; have := HT.out.size; omega)))
            have c15 : W7.cell? ⟨mB, 15, none⟩ = some SV := by
              obtain ⟨a0, a1, a2, i0, i1, i2, hy, hB⟩ := hM7.blk
              exact (hB.cell 15).trans rfl
            have KX : Hid (∀ X W, ¬ mB ∈ X → ¬ b2 ∈ X → Tn X W7 W → W.cell? ⟨mB, 15, none⟩ = some SV ∧ W.cell? ⟨b2, 0, none⟩ = some (vi (fv s1.pc)) ∧ W.cell? ⟨b2, 1, none⟩ = some (vi (fv s1.fp)) ∧ W.cell? ⟨b2, 2, none⟩ = some (vi (fv s1.ap)) ∧ W.cell? ⟨b2, 3, none⟩ = some (vi (fv s1.rv)) ∧ W.cell? ⟨b2, 4, none⟩ = some (vi a0) ∧ W.cell? ⟨b2, 5, none⟩ = some (vi a1) ∧ W.cell? ⟨b2, 6, none⟩ = some (vi a2) ∧ W.cell? ⟨b2, 7, none⟩ = some (vi i0) ∧ W.cell? ⟨b2, 8, none⟩ = some (vi i1) ∧ W.cell? ⟨b2, 9, none⟩ = some (vi i2)) := Lib.hid fun X W hx1 hx2 hW => by
              have hB := HB27.out.tn hW hx2
              exact ⟨hW.cell c15 hx1, (hB.cell 0).trans rfl, (hB.cell 1).trans rfl, (hB.cell 2).trans rfl, (hB.cell 3).trans rfl, (hB.cell 4).trans rfl, (hB.cell 5).trans rfl, (hB.cell 6).trans rfl, (hB.cell 7).trans rfl, (hB.cell 8).trans rfl, (hB.cell 9).trans rfl⟩
            clear hB27 hT7 hM7 hO7 c15 hb2b
            go_upto_region 17 with (fail)
            refine wp_region_M (C := fun W => W.cell? ⟨mB, 15, none⟩ = some SV ∧ W.cell? ⟨b2, 0, none⟩ = some (vi (fv s1.pc)) ∧ W.cell? ⟨b2, 1, none⟩ = some (vi (fv s1.fp)) ∧ W.cell? ⟨b2, 2, none⟩ = some (vi (fv s1.ap)) ∧ W.cell? ⟨b2, 3, none⟩ = some (vi (fv s1.rv)) ∧ W.cell? ⟨b2, 4, none⟩ = some (vi a0) ∧ W.cell? ⟨b2, 5, none⟩ = some (vi a1) ∧ W.cell? ⟨b2, 6, none⟩ = some (vi a2) ∧ W.cell? ⟨b2, 7, none⟩ = some (vi i0) ∧ W.cell? ⟨b2, 8, none⟩ = some (vi i1) ∧ W.cell? ⟨b2, 9, none⟩ = some (vi i2)) 10 (by kernel_rfl) ?_
            have xx := KX.out [] _ (by simp) (by simp) ((Tn.refl [] W7).drew)
            refine wpAnyM_takeT (i := 0) rfl rfl (by kernel_rfl) (by kernel_rfl) (by kernel_rfl) (fun _ _ _ h => h) (by decide) (Or.inl ⟨by rfl, by (intro w hSw; go_simp; try with_reducible rfl)⟩) (by first | exact fun _ => by assumption | exact fun h => absurd h (by decide)) ?_
            (try simp only [Act.put, List.setIfInBounds_toArray, List.set_cons_zero, List.set_cons_succ])
            refine wpAnyM_takeT (i := 1) rfl rfl (by kernel_rfl) (by kernel_rfl) (by kernel_rfl) (fun _ _ _ h => h) (by decide) (Or.inl ⟨by rfl, by (intro w hSw; go_simp; try with_reducible rfl)⟩) (by first | exact fun _ => by assumption | exact fun h => absurd h (by decide)) ?_
            (try simp only [Act.put, List.setIfInBounds_toArray, List.set_cons_zero, List.set_cons_succ])
            refine wpAnyM_takeT (i := 2) rfl rfl (by kernel_rfl) (by kernel_rfl) (by kernel_rfl) (fun _ _ _ h => h) (by decide) (Or.inl ⟨by rfl, by (intro w hSw; go_simp; try with_reducible rfl)⟩) (by first | exact fun _ => by assumption | exact fun h => absurd h (by decide)) ?_
            (try simp only [Act.put, List.setIfInBounds_toArray, List.set_cons_zero, List.set_cons_succ])
            refine wpAnyM_takeT (i := 3) rfl rfl (by kernel_rfl) (by kernel_rfl) (by kernel_rfl) (fun _ _ _ h => h) (by decide) (Or.inl ⟨by rfl, by (intro w hSw; go_simp; try with_reducible rfl)⟩) (by first | exact fun _ => by assumption | exact fun h => absurd h (by decide)) ?_
            (try simp only [Act.put, List.setIfInBounds_toArray, List.set_cons_zero, List.set_cons_succ])
            refine wpAnyM_take (i := 4) rfl rfl (by kernel_rfl) (by kernel_rfl) (by kernel_rfl) (fun _ _ _ h => h) (by decide) (by kernel_rfl) (by kernel_rfl) (Or.inl ⟨by rfl, by (intro w hSw; (try dsimp only at hSw); go_simp; try with_reducible rfl)⟩) (by assumption) ?_
            (try simp only [Act.put, List.setIfInBounds_toArray, List.set_cons_zero, List.set_cons_succ])
            refine wpAnyM_take (i := 5) rfl rfl (by kernel_rfl) (by kernel_rfl) (by kernel_rfl) (fun _ _ _ h => h) (by decide) (by kernel_rfl) (by kernel_rfl) (Or.inl ⟨by rfl, by (intro w hSw; (try dsimp only at hSw); go_simp; try with_reducible rfl)⟩) (by assumption) ?_
            (try simp only [Act.put, List.setIfInBounds_toArray, List.set_cons_zero, List.set_cons_succ])
            refine wpAnyM_ready (rs := [6]) (by kernel_rfl) (by simp) ?_
            refine AllReadyM.cons rfl (fun K hK => ?_) AllReadyM.nil
            go_simp
            refine hK.out _ _ (fun _ => KX.out [] _ (by simp) (by simp) (by repeat (first | exact Tn.refl _ _ | with_reducible apply Tn.alloc | with_reducible apply Tn.drew | with_reducible apply Tn.drewN))) ?_
            clear hK K
            (try simp only [Act.put, List.setIfInBounds_toArray, List.set_cons_zero, List.set_cons_succ])
            clear xx
            have hSV : ∀ g, SV.ownBlock = some g → ¬ mB = g ∧ ¬ b2 = g ∧ ¬ gm = g ∧ w.heap.size ≤ g := fun g hg => by
              have h1 := HM.out.row_ne HO.out g hg
              simp only [List.mem_cons, List.not_mem_nil, or_false, not_or] at h1
              have h2 := World.ownsRow.lt HO.out g hg
              have := HZ2.out
              have := HT2.out.size
              exact ⟨fun e => h1.1 e.symm, by omega, fun e => h1.2 e.symm, h2.1⟩
            have HSV := Lib.hid hSV
            have HTA := Lib.hid (((Tn.refl [] W7).alloc (.cells (([fv s1.pc, fv s1.fp, fv s1.ap, fv s1.rv, a0, a1, a2, i0, i1, i2] : List Int).map vi).toArray 172)).drew)
            clear hSV
            refine wpAnyM_ready (rs := [7]) (by kernel_rfl) (by simp) ?_
            refine AllReadyM.cons rfl (fun K hK => ?_) AllReadyM.nil
            refine step_appSG 85 172 _ 10 80 Tryz.underlying85 info_step (by rfl) (by omega) _ W7.heap.size (([fv s1.pc, fv s1.fp, fv s1.ap, fv s1.rv, a0, a1, a2, i0, i1, i2] : List Int).map vi) (by rfl) (fun u hu => by obtain ⟨x, _, rfl⟩ := List.mem_map.1 hu; rfl) (by rfl) _ _ (by rfl) w.heap.size SV d1 xs (by rfl) (by rfl) (fun j u hj => (((Blk.new W7 172 (([fv s1.pc, fv s1.fp, fv s1.ap, fv s1.rv, a0, a1, a2, i0, i1, i2] : List Int).map vi).toArray).drew).cell j).trans (by rw [List.getElem?_toArray]; exact hj)) (row_tn HO7.out HTA.out (by simp)) (by have := HF.out.2.1; simp only [maxLen]; omega) (by have := HF.out.2.1; omega) (Nat.le_trans HT7.out.size HTA.out.size) ?_
            intro v8 W8 hO8 hg8 hv8
            obtain ⟨A8, c8, rfl⟩ := row_form hO8
            have hT8 : Tn SV.ownBlock.toList W7 W8 := (HTA.out.more (by simp)).trans ((Tn.refl _ _).grown hg8 (fun k hk => .inl (by rw [hk]; simp)))
            have hx1 : ¬ mB ∈ SV.ownBlock.toList := fun h => by
              simp only [Option.mem_toList, Option.mem_def] at h
              exact (HSV.out _ h).1 rfl
            have hx2 : ¬ b2 ∈ SV.ownBlock.toList := fun h => by
              simp only [Option.mem_toList, Option.mem_def] at h
              exact (HSV.out _ h).2.1 rfl
            have hx3 : ¬ gm ∈ SV.ownBlock.toList := fun h => by
              simp only [Option.mem_toList, Option.mem_def] at h
              exact (HSV.out _ h).2.2.1 rfl
            have hx4 : ¬ b ∈ SV.ownBlock.toList := fun h => by
              simp only [Option.mem_toList, Option.mem_def] at h
              have h1 := (HSV.out _ h).2.2.2
              have h2 := HBW.out
              omega
            have hM8 := HM7.out.tn hT8 hx1 hx3 hx4
            have e15 := (KX.out _ _ hx1 hx2 hT8).1
            have f15 := hM8.thaw 15
            have hb1n : ¬ b1 ∈ SV.ownBlock.toList := fun h => by
              simp only [Option.mem_toList, Option.mem_def] at h
              exact row_blk_ne HO7.out HB17.out (by decide) h
            have HB18 := Lib.hid (HB17.out.tn hT8 hb1n)
            have HT8 := Lib.hid ((HT7.out.more (Y := mB :: gm :: SV.ownBlock.toList) (by simp)).trans (hT8.more (by simp; exact fun k hk => .inl (.inr (.inr hk)))))
            refine hK.out _ _ (fun _ => KX.out _ _ hx1 hx2 hT8) ?_
            clear hK K
            (try simp only [Act.put, List.setIfInBounds_toArray, List.set_cons_zero, List.set_cons_succ])
            have HM8 := Lib.hid hM8
            have HO8 := Lib.hid hO8
            have xx := KX.out _ _ hx1 hx2 hT8
            clear hM8 hO8 hg8 hv8 hT8 hx1 hx2 hx3 hx4 hb1n
            refine wpAnyM_takeT (i := 8) rfl rfl (by kernel_rfl) (by kernel_rfl) (by kernel_rfl) (fun _ _ _ h => h) (by decide) (Or.inl ⟨by rfl, by (intro w hSw; go_simp; try with_reducible rfl)⟩) (by first | exact fun _ => by assumption | exact fun h => absurd h (by decide)) ?_
            (try simp only [Act.put, List.setIfInBounds_toArray, List.set_cons_zero, List.set_cons_succ])
            refine wpAnyM_takeT (i := 9) rfl rfl (by kernel_rfl) (by kernel_rfl) (by kernel_rfl) (fun _ _ _ h => h) (by decide) (Or.inl ⟨by rfl, by (intro w hSw; go_simp; try with_reducible rfl)⟩) (by first | exact fun _ => by assumption | exact fun h => absurd h (by decide)) ?_
            (try simp only [Act.put, List.setIfInBounds_toArray, List.set_cons_zero, List.set_cons_succ])
            clear xx
            refine wpAnyM_ready (rs := [10]) (by kernel_rfl) (by simp) ?_
            refine AllReadyM.cons rfl (fun K hK => ?_) AllReadyM.nil
            go_simp
            refine hK.out _ _ (fun h => absurd h (by decide)) ?_
            clear hK K
            (try simp only [Act.put, List.setIfInBounds_toArray, List.set_cons_zero, List.set_cons_succ])
            refine wpAnyM_done (by kernel_rfl) ?_ _
            obtain ⟨W9, hW9⟩ : ∃ W9, W9 = W8.setCell ⟨mB, 15, none⟩ (.slice A8 (d1 + 1) c8) := ⟨_, rfl⟩
            rw [← hW9]
            have hT9 : Tn [mB] W8 W9 := by rw [hW9]; exact (Tn.refl _ _).setCell (.inl (by simp)) _
            have hM9 := HM8.out.lay s' (.slice A8 (d1 + 1) c8) d1 rfl (fun _ _ _ _ _ _ hB => by rw [hW9]; exact hB.set_ 15 _) hT9
            have HO9 := Lib.hid (row_tn HO8.out hT9 (fun g hg h => HM8.out.row_ne HO8.out g hg (by simp only [List.mem_singleton] at h; simp [h])))
            have hB19 := HB18.out.tn hT9 (by simp; exact HNE.out.2.1)
            have HT9 := Lib.hid ((HT8.out.more (Y := [mB, gm]) (fun g hg => by
              simp only [List.mem_cons, Option.mem_toList, Option.mem_def] at hg
              rcases hg with h | h | h
              · exact .inl (by simp [h])
              · exact .inl (by simp [h])
              · exact .inr (HSV.out _ h).2.2.2)).trans (hT9.more (by simp)))
            have HM9 := Lib.hid hM9
            have x0 := (hB19.cell 0).trans (show _ = some (vi op) from rfl)
            have c16 : W9.cell? ⟨mB, 16, none⟩ = some (vi d1) := by
              obtain ⟨a0, a1, a2, i0, i1, i2, hy, hB⟩ := hM9.blk
              exact (hB.cell 16).trans rfl
            have f16 := hM9.thaw 16
            clear hW9 hT9 hM9 hB19 e15 f15
            have w16 : IntKind.i64.wrap ((d1 : Int) + 1) = (d1 : Int) + 1 := IntWalk.i64_in _ (by have := HF.out.2.1; constructor <;> omega)
            go_wp2
            go_roundg g
            case measure => have := HV.out.2.2; omega
            case rel =>
              have hT : Tn [mB] W9 (W9.setCell ⟨mB, 16, none⟩ (vi ((d1 : Int) + 1))) := (Tn.refl _ _).setCell (.inl (by simp)) _
              have hM := HM9.out.lay s' (.slice A8 (d1 + 1) c8) (d1 + 1) rfl (fun _ _ _ _ _ _ hB => by exact hB.set_ 16 (vi ((d1 : Int) + 1))) hT
              have hO := row_tn HO9.out hT (fun g hg h => HM9.out.row_ne HO9.out g hg (by simp only [List.mem_singleton] at h; simp [h]))
              exact ⟨s', n', k, _, d1 + 1, _, HV.out.2.1, by have := HF.out.2.1; have := HV.out.2.2; omega, by have := HF.out.2.2; have := HN.out; have := HV.out.2.2; omega, hM, hO, HT9.out.trans (hT.more (by simp))⟩
end
end Go.Proofs.YtpkhcncempoohaaGreatDoor

namespace Go.Proofs.YtpkhcncempoohaaGreatDoor
open Go.RowKit Zp
theorem begun_idle (p6 p7 p8 : Addr) (w : World) :
    CallsD Tryz.prog 71 #[.pointer (some p6), .pointer (some p7), .pointer (some p8)] .returning w fun e u' w' => e = .returned (.tuple #[]) ∧ u' = .returning ∧ w' = w := by
  refine callsD_of_wpS Tryz.func71 rfl fun c₀ cs hu => ?_
  apply wpS_seq
  apply wpS_region
  simp [wpOpsS, go_sem, recoverD, hu, Tryz.ntmps71, Exit.thenS]
  refine wpS_of_wp ?_
  rw [show (#[.pointer (some p6), .pointer (some p7), .pointer (some p8)] ++ (Array.replicate 12 undef).setIfInBounds 3 Value.nilIface : Array Value) = #[.pointer (some p6), .pointer (some p7), .pointer (some p8), undef, undef, undef, Value.nilIface, undef, undef, undef, undef, undef, undef, undef, undef] from rfl]
  go_wp2
  cases c₀
  simp_all [bodyPostS, results, Tryz.results71]
def DoorIs (k : Int) (g6 g7 g8 : Nat) (w : World) (u' : FrameMode) (w' : World) : Prop := u' = .panicking [{ v := .iface 137 (.agg #[vi k]), recovered := true }] ∧ Blk w' g6 80 #[.pointer none] ∧ Blk w' g7 3 #[vi 0] ∧ Blk w' g8 36 #[.iface 64 (vi k)] ∧ Tn [g6, g7, g8] w w'
set_option maxRecDepth 20000 in
theorem begun_panic (g6 g7 g8 : Nat) (x6 x7 x8 : Value) (k : Int) (w : World) (h6 : Blk w g6 80 #[x6]) (h7 : Blk w g7 3 #[x7]) (h8 : Blk w g8 36 #[x8]) :
    CallsD Tryz.prog 71 #[.pointer (some ⟨g6, 0, none⟩), .pointer (some ⟨g7, 0, none⟩), .pointer (some ⟨g8, 0, none⟩)] (.panicking (stopM k)) w fun e u' w' => e = .returned (.tuple #[]) ∧ DoorIs k g6 g7 g8 w u' w' := by
  have hta : ∀ w, (Instr.typeAssert (.iface 137 (.agg #[vi k])) 20 137 true).run Tryz.prog w = .ok (.tuple #[.agg #[vi k], .bool true]) w := fun _ => by kernel_rfl
  have n67 := h6.ne_ h7 (by decide)
  have n68 := h6.ne_ h8 (by decide)
  have n78 := h7.ne_ h8 (by decide)
  have b6 := h6.lt
  have b7 := h7.lt
  have b8 := h8.lt
  obtain ⟨W, hW⟩ : ∃ W, W = w.alloc (.cells #[vi k] 137) := ⟨_, rfl⟩
  have hT : Tn [g6, g7, g8] w W := by rw [hW]; exact (Tn.refl _ _).alloc _
  have k6 := h6.alloc (.cells #[vi k] 137)
  have k7 := h7.alloc (.cells #[vi k] 137)
  have k8 := h8.alloc (.cells #[vi k] 137)
  have k9 := Blk.new w 137 #[vi k]
  rw [← hW] at k6 k7 k8 k9
  have c6 := (k6.cell 0).trans (show _ = some x6 from rfl)
  have c7 := (k7.cell 0).trans (show _ = some x7 from rfl)
  have c8 := (k8.cell 0).trans (show _ = some x8 from rfl)
  have c9 := (k9.cell 0).trans (show _ = some (vi k) from rfl)
  have f6 := k6.frozen 0
  have f7 := k7.frozen 0
  have f8 := k8.frozen 0
  have m6 : ¬ g6 = w.heap.size := by omega
  have m7 : ¬ g7 = w.heap.size := by omega
  have m8 : ¬ g8 = w.heap.size := by omega
  have HW := Lib.hid hW
  have HT := Lib.hid hT
  have H6 := Lib.hid k6
  have H7 := Lib.hid k7
  have H8 := Lib.hid k8
  clear h6 h7 h8 hW hT k6 k7 k8 k9
  refine callsD_of_wpS Tryz.func71 rfl fun c₀ cs hu => ?_
  apply wpS_seq
  apply wpS_region
  simp [wpOpsS, go_sem, recoverD, hu, stopM, Tryz.ntmps71, Exit.thenS]
  refine wpS_of_wp ?_
  rw [show (#[.pointer (some ⟨g6, 0, none⟩), .pointer (some ⟨g7, 0, none⟩), .pointer (some ⟨g8, 0, none⟩)] ++ (Array.replicate 12 undef).setIfInBounds 3 (Value.iface 137 (.agg #[vi k])) : Array Value) = #[.pointer (some ⟨g6, 0, none⟩), .pointer (some ⟨g7, 0, none⟩), .pointer (some ⟨g8, 0, none⟩), undef, undef, undef, .iface 137 (.agg #[vi k]), undef, undef, undef, undef, undef, undef, undef, undef] from rfl]
  have HU := Lib.hid hu
  clear hu
  go_upto_region 7 with (fail)
  rw [← HW.out]
  go_region
  have e6 := (((H6.out.set_ 0 (.pointer none)).far (p := ⟨g7, 0, none⟩) n67 (vi 0)).far (p := ⟨g8, 0, none⟩) n68 (.iface 64 (vi k))).drew
  have e7 := (((H7.out.far (p := ⟨g6, 0, none⟩) (Ne.symm n67) (.pointer none)).set_ 0 (vi 0)).far (p := ⟨g8, 0, none⟩) n78 (.iface 64 (vi k))).drew
  have e8 := (((H8.out.far (p := ⟨g6, 0, none⟩) (Ne.symm n68) (.pointer none)).far (p := ⟨g7, 0, none⟩) (Ne.symm n78) (vi 0)).set_ 0 (.iface 64 (vi k))).drew
  have eT := (((HT.out.setCell (q := ⟨g6, 0, none⟩) (.inl (by simp)) (.pointer none)).setCell (q := ⟨g7, 0, none⟩) (.inl (by simp)) (vi 0)).setCell (q := ⟨g8, 0, none⟩) (.inl (by simp)) (.iface 64 (vi k))).drew
  exact ⟨rfl, _, rfl, _, results_none rfl _ _ _, rfl, rfl, e6, e7, e8, eT⟩
end Go.Proofs.YtpkhcncempoohaaGreatDoor
