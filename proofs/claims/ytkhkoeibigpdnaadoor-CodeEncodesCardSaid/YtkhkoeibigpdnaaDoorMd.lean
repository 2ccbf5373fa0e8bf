/- Walk: law2.made. -/
import Derived.Test.YtkhkoeibigpdnaaDoorQd
import Derived.Test.YtkhkoeibigpdnaaDoorLv2
import Derived.RegionTactic
import Derived.ChangeAlike
set_option linter.unusedVariables false
namespace Go.Proofs.YtkhkoeibigpdnaaDoor
open Go.RowKit Zp

abbrev NoMade : Value := .tuple #[.pointer none, .agg #[vi 0, vi 0, vi 0, vi 0], .bool true]
theorem blk4 {w w1 : World} {t : TypeId} {a b c d : Value} (hb : Below (w.alloc (.cells #[a, b, c, d] t)).heap.size (w.alloc (.cells #[a, b, c, d] t)) w1) :
    w1.cell? ⟨w.heap.size, 0, none⟩ = some a ∧ w1.cell? ⟨w.heap.size, 1, none⟩ = some b ∧ w1.cell? ⟨w.heap.size, 2, none⟩ = some c ∧ w1.cell? ⟨w.heap.size, 3, none⟩ = some d ∧ ∀ i, w1.frozen? ⟨w.heap.size, i, none⟩ = false := by
  have h := (Blk.new w t #[a, b, c, d]).below hb (by simp)
  exact ⟨(h.cell 0).trans rfl, (h.cell 1).trans rfl, (h.cell 2).trans rfl, (h.cell 3).trans rfl, fun i => h.frozen i⟩
/-- a block of zeros -/
def ZeroBlk (w : World) (B : Nat) : Prop := ∀ a : Addr, a.block = B → ∀ v, w.cell? a = some v → v = vi 0
theorem zeroBlk {w : World} {B : Nat} {t : TypeId} (h : Blk w B t #[vi 0, vi 0, vi 0, vi 0]) : ZeroBlk w B := fun a ha v hv => by
  unfold Blk at h
  subst ha
  unfold World.cell? at hv
  rw [h] at hv
  simp only at hv
  split at hv
  · cases hv
  · have : a.off < 4 := by
      false_or_by_contra
      rename_i hge
      rw [Array.getElem?_eq_none (by simpa using hge)] at hv
      cases hv
    match a.off, hv, this with
    | 0, hv, _ => simpa using hv.symm
    | 1, hv, _ => simpa using hv.symm
    | 2, hv, _ => simpa using hv.symm
    | 3, hv, _ => simpa using hv.symm
theorem Fld.keepZ {w w' : World} {S b p B : Nat} [NeZero p] (h : Fld w S b p) (hz : ZeroBlk w B) (hk : ∀ q : Addr, q.block < S → q.block ≠ B → w'.cell? q = w.cell? q) (hs : w.heap.size ≤ w'.heap.size) : Fld w' S b p := by
  have h3 := h.three
  have hb : b ≠ B := fun e => by
    have := hz ⟨b, 0, none⟩ e _ h.c0
    injection this with _ h1
    omega
  obtain ⟨A, c, fs, a1, a2, a3, a4⟩ := h.c1
  refine ⟨h.prime, h.three, h.max, h.lt, Nat.le_trans h.le hs, (hk _ h.lt hb).trans h.c0, ⟨A, c, fs, (hk _ h.lt hb).trans a1, a2, a3, a4.1, fun hn => ?_⟩, (hk _ h.lt hb).trans h.c2⟩
  obtain ⟨ad, e, hlt, hc⟩ := a4.2 hn
  refine ⟨ad, e, hlt, fun j u hu => ?_⟩
  have hcj := hc j u hu
  have hne : ad.block ≠ B := fun e2 => by
    have h1 := hz (ad.add j) (by rw [block_of_add]; exact e2) _ hcj
    rw [List.getElem?_map, List.getElem?_map] at hu
    cases hq : fs[j]? with
    | none => rw [hq] at hu; cases hu
    | some q =>
      rw [hq] at hu
      have h2 := a3.two q (List.mem_of_getElem? hq)
      simp only [Option.map_some, Option.some.injEq] at hu
      rw [← hu] at h1
      injection h1 with _ h4
      omega
  exact (hk _ (by rw [block_of_add]; exact hlt) (by rw [block_of_add]; exact hne)).trans hcj
theorem Dom.keepZ {w w' : World} {S D b p n B : Nat} [NeZero p] {s : Fin p} (h : Dom w S D b p n s) (hz : ZeroBlk w B) (hk : ∀ q : Addr, q.block < S → q.block ≠ B → w'.cell? q = w.cell? q) (hs : w.heap.size ≤ w'.heap.size) : Dom w' S D b p n s := by
  have hD : D ≠ B := fun e => by have := hz ⟨D, 0, none⟩ e _ h.c0; cases this
  exact ⟨h.fld.keepZ hz hk hs, h.lt, (hk _ h.lt hD).trans h.c0, (hk _ h.lt hD).trans h.c1, (hk _ h.lt hD).trans h.c2, (hk _ h.lt hD).trans h.c3, h.s0, h.size⟩

theorem Dom.upS {w : World} {S S' D b p n : Nat} [NeZero p] {s : Fin p} (h : Dom w S D b p n s) (h1 : S ≤ S') (h2 : S' ≤ w.heap.size) : Dom w S' D b p n s :=
  ⟨h.fld.moreS h1 h2, Nat.lt_of_lt_of_le h.lt h1, h.c0, h.c1, h.c2, h.c3, h.s0, h.size⟩
theorem errNil (w : World) (hg : Typed w) : Calls Tryd.prog 28 #[.nilIface, vi 0] w fun x w' => SaysW (.bool true) w x w' := error_any 0 0 w hg
theorem errIs (k : Int) (h : k ≠ 0) (w : World) (hg : Typed w) : Calls Tryd.prog 28 #[.iface 107 (.int .i64 k), vi k] w fun x w' => SaysW (.bool true) w x w' := by
  have h1 := error_any k k w hg
  rw [errV_ne h, show (k == k) = true from by simp] at h1
  exact h1

/-- there is no domain of this field: both sides say why -/
theorem dnew_fault (q S b : Nat) [NeZero q] (size t : Int) (ht : I64 t) (w : World) (F : Fld w S b q) (h : ¬ ∃ n : Nat, size = n ∧ SizeOk q n ∧ ¬ t % (q : Int) = 0) :
    ∃ k : Int, k ≠ 0 ∧ faultI q size t = k ∧ Calls Tryd.prog 65 #[.pointer (some ⟨b, 0, none⟩), vi size, vi t] w fun e w' => e = NoDom k ∧ w = w' := by
  have hc := F.c0
  by_cases h1 : size < 1 ∨ 65536 < size
  · exact ⟨2, by decide, faultI_size (fun ⟨n, e, hn⟩ => by have := hn.pos; have := hn.le; omega), dnew_size1 b size t h1 w⟩
  · obtain ⟨n, rfl⟩ := Int.eq_ofNat_of_zero_le (a := size) (by omega)
    by_cases h2 : SizeOk q n
    · have h3 : t % (q : Int) = 0 := by
        false_or_by_contra
        rename_i h3
        exact h ⟨n, rfl, h2, h3⟩
      exact ⟨3, by decide, faultI_shift h2 h3, dnew_shift q b n t ht F.two F.max h2 (el_eq_zero.2 h3) w hc⟩
    · have h4 : faultI q n t = 2 := faultI_size (by
        rintro ⟨m, e, hm⟩
        have e2 : n = m := by omega
        exact h2 (e2 ▸ hm))
      exact ⟨2, by decide, h4, dnew_size2 q b n t (by omega) (by omega) F.two F.max h2 w hc⟩

set_option maxRecDepth 100000 in
set_option maxHeartbeats 1000000 in
theorem made2_nof (p size t : Int) (hp : I64 p) (h : ¬ HasField p) (w : World) (hT : Typed w) :
    Calls Tryd.prog 18 #[vi p, vi size, vi t] w fun e w' => SaysW NoMade w e w' := by
  have hbA : Below w.heap.size w (w.alloc (.cells #[vi 0, vi 0, vi 0, vi 0] 31)) := (Below.refl _ _).alloc (Nat.le_refl _) _
  have HN := Lib.hid (sfield_no p hp h _ (hT.below hbA))
  clear h
  go_enter Tryd.func18, Tryd.ntmps18
  go_wp2_with fail
  refine (HN.out).mono ?_
  rintro e w1 ⟨rfl, hb1⟩
  obtain ⟨c0, c1, c2, c3, hfz⟩ := blk4 hb1
  have f0 := hfz 0
  have f1 := hfz 1
  have f2 := hfz 2
  have f3 := hfz 3
  clear hfz
  go_wp2
  refine bodyPost_ret (v := NoMade) (by simp [results, Tryd.results18, go_sem, c0, c1, c2, c3]) rfl ⟨rfl, ?_⟩
  exact ((((hbA.trans (hb1.mono hbA.size)).setCell (by simp) _).setCell (by simp) _).setCell (by simp) _).setCell (by simp) _

set_option maxRecDepth 100000 in
set_option maxHeartbeats 1000000 in
theorem made2_nod (q : Nat) [NeZero q] (h3 : 3 ≤ q) (hqm : q ≤ 2147483647) (hpr : IsPrime q) (size t : Int) (hs : I64 size) (ht : I64 t) (h : ¬ ∃ n : Nat, size = n ∧ SizeOk q n ∧ ¬ t % (q : Int) = 0) (w : World) (hT : Typed w) :
    Calls Tryd.prog 18 #[vi q, vi size, vi t] w fun e w' => SaysW NoMade w e w' := by
  have hbA : Below w.heap.size w (w.alloc (.cells #[vi 0, vi 0, vi 0, vi 0] 31)) := (Below.refl _ _).alloc (Nat.le_refl _) _
  have HF := Lib.hid (sfield_yes q h3 hqm hpr _ (hT.below hbA))
  have hTA := hT.below hbA
  have HD := Lib.hid (fun b S W F => dnew_fault q S b size t ht W F h)
  have HR := Lib.hid (fun W => rfault_any q (by omega) hqm size t hs ht W)
  clear h hpr
  go_enter Tryd.func18, Tryd.ntmps18
  go_wp2_with fail
  refine (HF.out).mono ?_
  rintro e w1 ⟨b, rfl, F, hb1⟩
  obtain ⟨k, hk0, hfk, hnew⟩ := HD.out b _ w1 F
  rw [hfk] at HR
  have HN := Lib.hid hnew
  have hT1 := hTA.below hb1
  have t1 : (k != 0) = true := by rw [bne_iff_ne]; exact hk0
  have HE := Lib.hid (fun W hg => errIs k hk0 W hg)
  clear hnew hfk hk0
  go_wp2_with fail
  refine (HN.out).mono ?_
  rintro e w' ⟨rfl, rfl⟩
  go_wp2_with fail
  refine (HR.out _).mono ?_
  rintro e w' ⟨rfl, rfl⟩
  go_wp2_with fail
  refine (HE.out _ hT1).mono ?_
  rintro e w2 ⟨rfl, hb2⟩
  have hb12 := hb1.trans (hb2.mono hb1.size)
  obtain ⟨c0, c1, c2, c3, hfz⟩ := blk4 hb12
  have f0 := hfz 0
  have f1 := hfz 1
  have f2 := hfz 2
  have f3 := hfz 3
  clear hfz
  go_wp2
  refine bodyPost_ret (v := NoMade) (by simp [results, Tryd.results18, go_sem, c0, c1, c2, c3]) rfl ⟨rfl, ?_⟩
  exact ((((hbA.trans (hb12.mono hbA.size)).setCell (by simp) _).setCell (by simp) _).setCell (by simp) _).setCell (by simp) _

/-- a domain on both sides -/
def MadeTwo (q n : Nat) [NeZero q] (t : Int) (w : World) (e : Ending) (w' : World) : Prop :=
  ∃ b D : Nat, e = .returned (.tuple #[.pointer (some ⟨D, 0, none⟩), RDom q n (fv (el q t)) (fv (rootI q n)), .bool true]) ∧ Dom w' w'.heap.size D b q n (el q t) ∧ Below w.heap.size w w'
set_option maxRecDepth 100000 in
set_option maxHeartbeats 2000000 in
theorem made2_yes (q n : Nat) [NeZero q] (h3 : 3 ≤ q) (hqm : q ≤ 2147483647) (hpr : IsPrime q) (t : Int) (ht : I64 t) (hsz : SizeOk q n) (h0 : ¬ t % (q : Int) = 0) (w : World) (hT : Typed w) :
    Calls Tryd.prog 18 #[vi q, vi n, vi t] w fun e w' => MadeTwo q n t w e w' := by
  have hbA : Below w.heap.size w (w.alloc (.cells #[vi 0, vi 0, vi 0, vi 0] 31)) := (Below.refl _ _).alloc (Nat.le_refl _) _
  have HF := Lib.hid (sfield_yes q h3 hqm hpr _ (hT.below hbA))
  have hTA := hT.below hbA
  have hn := hsz.le
  have HD := Lib.hid (fun b S W F => dnew_ok q S b n t ht hsz (fun h => h0 (el_eq_zero.1 h)) W F)
  have hr := fun W => rfault_any q (by omega) hqm n t (by constructor <;> omega) ht W
  rw [faultI_ok hsz h0] at hr
  have HR := Lib.hid hr
  have HW := Lib.hid (fun W => rnew_any q hpr h3 hqm n hn t ht W)
  clear h0 hpr hsz hr
  go_enter Tryd.func18, Tryd.ntmps18
  go_wp2_with fail
  refine (HF.out).mono ?_
  rintro e w1 ⟨b, rfl, F, hb1⟩
  go_wp2_with fail
  refine (HD.out b _ w1 F).mono ?_
  rintro e w2 ⟨D, rfl, hD, hb2, _⟩
  have hb12 := hb1.trans (hb2.mono hb1.size)
  have hT2 := hTA.below hb12
  go_wp2_with fail
  refine (HR.out _).mono ?_
  rintro e w' ⟨rfl, rfl⟩
  go_wp2_with fail
  refine (errNil _ hT2).mono ?_
  rintro e w3 ⟨rfl, hb3⟩
  have hb13 := hb12.trans (hb3.mono hb12.size)
  have hD3 := hD.below hb3 (Nat.le_refl _)
  go_wp2_with fail
  refine (HW.out _).mono ?_
  rintro e w4 ⟨rfl, hb4⟩
  have hb14 := hb13.trans (hb4.mono hb13.size)
  have hD4 := hD3.below hb4 hD3.fld.le
  have hB14 := (Blk.new w 31 #[vi 0, vi 0, vi 0, vi 0]).below hb14 (by simp)
  have hz := zeroBlk hB14
  obtain ⟨c0, c1, c2, c3, hfz⟩ := blk4 hb14
  have f0 := hfz 0
  have f1 := hfz 1
  have f2 := hfz 2
  have f3 := hfz 3
  have hsz4 : w.heap.size < w4.heap.size := by have := hb14.size; simp at this; omega
  clear hfz
  go_wp2
  have hB5 := ((((hB14.set_ 0 (vi q)).set_ 1 (vi n)).set_ 2 (vi (fv (el q t)))).set_ 3 (vi (fv (rootI q n)))).alloc (.cells #[vi q, vi n, vi (fv (el q t)), vi (fv (rootI q n))] 31)
  have e0 := (hB5.cell 0).trans (show _ = some (vi q) from rfl)
  have e1 := (hB5.cell 1).trans (show _ = some (vi n) from rfl)
  have e2 := (hB5.cell 2).trans (show _ = some (vi (fv (el q t))) from rfl)
  have e3 := (hB5.cell 3).trans (show _ = some (vi (fv (rootI q n))) from rfl)
  have hbw := hbA.trans (hb14.mono hbA.size)
  go_region
  go_wp2
  refine bodyPost_ret (v := .tuple #[.pointer (some ⟨D, 0, none⟩), RDom q n (fv (el q t)) (fv (rootI q n)), .bool true]) (by simp [results, Tryd.results18, go_sem, e0, e1, e2, e3]) rfl ⟨b, D, rfl, ?_, ?_⟩
  · refine Dom.upS (hD4.keepZ hz (fun a ha hne => ?_) ?_) ?_ ?_
    · have hlt : a.block < w4.heap.size := Nat.lt_of_lt_of_le ha hD4.fld.le
      show (World.alloc _ _).cell? a = _
      rw [World.cell?_alloc_lt _ _ a (by simpa using hlt), World.cell?_setCell_other _ _ _ _ (fun e => hne (by rw [← e])), World.cell?_setCell_other _ _ _ _ (fun e => hne (by rw [← e])), World.cell?_setCell_other _ _ _ _ (fun e => hne (by rw [← e])), World.cell?_setCell_other _ _ _ _ (fun e => hne (by rw [← e]))]
    · show w4.heap.size ≤ (World.alloc _ _).heap.size
      simp
    · show w2.heap.size ≤ (World.alloc _ _).heap.size
      have := hD4.fld.le
      simp; omega
    · exact Nat.le_refl _
  · exact below_drewN ((((((hbw.setCell (by simp) _).setCell (by simp) _).setCell (by simp) _).setCell (by simp) _).alloc (by simp; omega) _)) 1
end Go.Proofs.YtkhkoeibigpdnaaDoor
