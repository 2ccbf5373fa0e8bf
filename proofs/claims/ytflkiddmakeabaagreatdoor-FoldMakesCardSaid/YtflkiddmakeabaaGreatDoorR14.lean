/- A bundle of texts: Md5, LawO1. -/
import Derived.Test.YtflkiddmakeabaaGreatDoorR10
import Derived.Test.YtflkiddmakeabaaGreatDoorR09
import Derived.Test.YtflkiddmakeabaaGreatDoorR03
import Derived.Test.YtflkiddmakeabaaGreatDoorR12
import Derived.Test.YtflkiddmakeabaaGreatDoorR13
import Derived.Test.YtflkiddmakeabaaGreatDoorR11
import Derived.Test.YtflkiddmakeabaaGreatDoorR08
/- Walk: law5.made. -/
set_option linter.unusedVariables false
namespace Go.Proofs.YtflkiddmakeabaaGreatDoor
open Go.RowKit Zp

theorem Spg.keepB {p : Nat} [NeZero p] {w w' : World} {s b k z : Nat} {oo : Nat → Nat → Fin p} (h : Spg w s b k z oo) (hk : ∀ q : Addr, q.block = s → w'.cell? q = w.cell? q) : Spg w' s b k z oo :=
  ⟨(hk ⟨s, 0, none⟩ rfl).trans h.c0, (hk ⟨s, 1, none⟩ rfl).trans h.c1, (hk ⟨s, 2, none⟩ rfl).trans h.c2, h.k2, h.kp, h.least, h.cop, h.zp, h.root,
   h.mat.keep fun q hq => hk q hq, h.oth.keep fun q hq => hk q hq, h.undo⟩
abbrev NoMade5 : Value := .tuple #[.pointer none, .pointer none, .agg #[vi 0, vi 0, vi 0, vi 0], .bool true]
set_option maxRecDepth 100000 in
set_option maxHeartbeats 1000000 in
theorem made5_nof (p size t : Int) (hp : I64 p) (h : ¬ HasField p) (w : World) (hT : Typed w) :
    Calls Tryz.prog 5 #[vi p, vi size, vi t] w fun e w' => SaysW NoMade5 w e w' := by
  have hbA : Below w.heap.size w (w.alloc (.cells #[vi 0, vi 0, vi 0, vi 0] 30)) := (Below.refl _ _).alloc (Nat.le_refl _) _
  have HN := Lib.hid (sfield_no p hp h _ (hT.below hbA))
  clear h
  go_enter Tryz.func5, Tryz.ntmps5
  go_wp2_with fail
  refine (HN.out).mono ?_
  rintro e w1 ⟨rfl, hb1⟩
  obtain ⟨c0, c1, c2, c3, hfz⟩ := blk4 hb1
  have f0 := hfz 0
  have f1 := hfz 1
  have f2 := hfz 2
  have f3 := hfz 3
  clear hfz
  go_wp2
  refine bodyPost_ret (v := NoMade5) (by simp [results, Tryz.results5, go_sem, c0, c1, c2, c3]) rfl ⟨rfl, ?_⟩
  exact ((((hbA.trans (hb1.mono hbA.size)).setCell (by simp) _).setCell (by simp) _).setCell (by simp) _).setCell (by simp) _

set_option maxRecDepth 100000 in
set_option maxHeartbeats 1000000 in
theorem made5_nod (q : Nat) [NeZero q] (h3 : 3 ≤ q) (hqm : q ≤ 2147483647) (hpr : IsPrime q) (size t : Int) (hs : I64 size) (ht : I64 t) (h : ¬ ∃ n : Nat, size = n ∧ SizeOk q n ∧ ¬ t % (q : Int) = 0) (w : World) (hT : Typed w) :
    Calls Tryz.prog 5 #[vi q, vi size, vi t] w fun e w' => SaysW NoMade5 w e w' := by
  have hbA : Below w.heap.size w (w.alloc (.cells #[vi 0, vi 0, vi 0, vi 0] 30)) := (Below.refl _ _).alloc (Nat.le_refl _) _
  have HF := Lib.hid (sfield_yes q h3 hqm hpr _ (hT.below hbA))
  have hTA := hT.below hbA
  have HD := Lib.hid (fun b S W F => dnew_fault q S b size t ht W F h)
  have HR := Lib.hid (fun W => rfault_any q (by omega) hqm size t hs ht W)
  clear h hpr
  go_enter Tryz.func5, Tryz.ntmps5
  go_wp2_with fail
  refine (HF.out).mono ?_
  rintro e w1 ⟨b, rfl, F, hb1⟩
  obtain ⟨k, hk0, hfk, hnew⟩ := HD.out b _ w1 F
  rw [hfk] at HR
  have HN := Lib.hid hnew
  have hT1 := hTA.below hb1
  have t1 : (k != 0) = true := by rw [bne_iff_ne]; exact hk0
  have HE := Lib.hid (fun W hg => errIs k hk0 W hg)
  clear hnew hfk hk0
  go_wp2_with fail
  refine (HN.out).mono ?_
  rintro e w' ⟨rfl, rfl⟩
  go_wp2_with fail
  refine (HR.out _).mono ?_
  rintro e w' ⟨rfl, rfl⟩
  go_wp2_with fail
  refine (HE.out _ hT1).mono ?_
  rintro e w2 ⟨rfl, hb2⟩
  have hb12 := hb1.trans (hb2.mono hb1.size)
  obtain ⟨c0, c1, c2, c3, hfz⟩ := blk4 hb12
  have f0 := hfz 0
  have f1 := hfz 1
  have f2 := hfz 2
  have f3 := hfz 3
  clear hfz
  go_wp2
  refine bodyPost_ret (v := NoMade5) (by simp [results, Tryz.results5, go_sem, c0, c1, c2, c3]) rfl ⟨rfl, ?_⟩
  exact ((((hbA.trans (hb12.mono hbA.size)).setCell (by simp) _).setCell (by simp) _).setCell (by simp) _).setCell (by simp) _

/-- the sponge that stands beside a domain, if there is one -/
def SpgIf (q : Nat) [NeZero q] (sp : Value) (w : World) : Prop :=
  (q < 23 ∧ sp = .pointer none) ∨ (23 ≤ q ∧ ∃ (s b k z : Nat) (oo : Nat → Nat → Fin q), sp = .pointer (some ⟨s, 0, none⟩) ∧ s < w.heap.size ∧ Fld w w.heap.size b q ∧ Spg w s b k z oo)
/-- a domain on both sides, and a sponge -/
def MadeFive (q n : Nat) [NeZero q] (t : Int) (w : World) (e : Ending) (w' : World) : Prop :=
  ∃ (b D : Nat) (sp : Value), e = .returned (.tuple #[.pointer (some ⟨D, 0, none⟩), sp, RDom q n (fv (el q t)) (fv (rootI q n)), .bool true]) ∧ Dom w' w'.heap.size D b q n (el q t) ∧ SpgIf q sp w' ∧ Below w.heap.size w w'
/-- the sponge, or none -/
def SpgOr (q : Nat) [NeZero q] (w : World) (e : Ending) (w' : World) : Prop :=
  ∃ sp, e = .returned (.tuple #[sp, .bool true]) ∧ ((q < 23 ∧ sp = .pointer none) ∨ (23 ≤ q ∧ ∃ (s b k z : Nat) (oo : Nat → Nat → Fin q), sp = .pointer (some ⟨s, 0, none⟩) ∧ w.heap.size ≤ s ∧ s < w'.heap.size ∧ Fld w' w'.heap.size b q ∧ Spg w' s b k z oo)) ∧ Below w.heap.size w w'
theorem spgOr (q : Nat) [NeZero q] (h3 : 3 ≤ q) (hqm : q ≤ 2147483647) (hpr : IsPrime q) (w : World) (hT : Typed w) :
    Calls Tryz.prog 21 #[vi q] w fun e w' => SpgOr q w e w' := by
  by_cases h23 : 23 ≤ q
  · refine (ssponge_yes q h23 hqm hpr w hT).mono fun e w' h => ?_
    obtain ⟨s, b, k, z, oo, h1, h2, h3, h4, h5, h6⟩ := h
    exact ⟨_, h1, .inr ⟨h23, s, b, k, z, oo, rfl, h4, h5, h2, h3⟩, h6⟩
  · refine (ssponge_no q ⟨by omega, by omega⟩ (fun h => h23 (by have := h.2; omega)) w hT).mono fun e w' h => ?_
    exact ⟨_, h.1, .inl ⟨by omega, rfl⟩, h.2⟩
set_option maxRecDepth 100000 in
set_option maxHeartbeats 2000000 in
theorem made5_yes (q n : Nat) [NeZero q] (h3 : 3 ≤ q) (hqm : q ≤ 2147483647) (hpr : IsPrime q) (t : Int) (ht : I64 t) (hsz : SizeOk q n) (h0 : ¬ t % (q : Int) = 0) (w : World) (hT : Typed w) :
    Calls Tryz.prog 5 #[vi q, vi n, vi t] w fun e w' => MadeFive q n t w e w' := by
  have hbA : Below w.heap.size w (w.alloc (.cells #[vi 0, vi 0, vi 0, vi 0] 30)) := (Below.refl _ _).alloc (Nat.le_refl _) _
  have HF := Lib.hid (sfield_yes q h3 hqm hpr _ (hT.below hbA))
  have hTA := hT.below hbA
  have hn := hsz.le
  have HD := Lib.hid (fun b S W F => dnew_ok q S b n t ht hsz (fun h => h0 (el_eq_zero.1 h)) W F)
  have hr := fun W => rfault_any q (by omega) hqm n t (by constructor <;> omega) ht W
  rw [faultI_ok hsz h0] at hr
  have HR := Lib.hid hr
  have HW := Lib.hid (fun W => rnew_any q hpr h3 hqm n hn t ht W)
  have HSP := Lib.hid (fun W hT => spgOr q h3 hqm hpr W hT)
  clear h0 hpr hsz hr
  go_enter Tryz.func5, Tryz.ntmps5
  go_wp2_with fail
  refine (HF.out).mono ?_
  rintro e w1 ⟨b, rfl, F, hb1⟩
  go_wp2_with fail
  refine (HD.out b _ w1 F).mono ?_
  rintro e w2 ⟨D, rfl, hD, hb2, _⟩
  have hb12 := hb1.trans (hb2.mono hb1.size)
  have hT2 := hTA.below hb12
  go_wp2_with fail
  refine (HR.out _).mono ?_
  rintro e w' ⟨rfl, rfl⟩
  go_wp2_with fail
  refine (errNil _ hT2).mono ?_
  rintro e w3 ⟨rfl, hb3⟩
  have hb13 := hb12.trans (hb3.mono hb12.size)
  have hD3 := hD.below hb3 (Nat.le_refl _)
  have hT3 := hTA.below hb13
  go_wp2_with fail
  refine (HSP.out _ hT3).mono ?_
  rintro e w3s ⟨sp, rfl, hsp, hb3s⟩
  have hb13s := hb13.trans (hb3s.mono hb13.size)
  have hD3s := hD3.below hb3s hD3.fld.le
  have HSPI := Lib.hid hsp
  clear hsp
  go_wp2_with fail
  refine (HW.out _).mono ?_
  rintro e w4 ⟨rfl, hb4⟩
  have hb14 := hb13s.trans (hb4.mono hb13s.size)
  have hD4 := hD3s.below hb4 hD3s.fld.le
  have hB14 := (Blk.new w 30 #[vi 0, vi 0, vi 0, vi 0]).below hb14 (by simp)
  have hz := zeroBlk hB14
  obtain ⟨c0, c1, c2, c3, hfz⟩ := blk4 hb14
  have f0 := hfz 0
  have f1 := hfz 1
  have f2 := hfz 2
  have f3 := hfz 3
  have hsz4 : w.heap.size < w4.heap.size := by have := hb14.size; simp at this; omega
  have hsz3 : w.heap.size < w3.heap.size := by have := hb13.size; simp at this; omega
  clear hfz
  go_wp2
  have hB5 := ((((hB14.set_ 0 (vi q)).set_ 1 (vi n)).set_ 2 (vi (fv (el q t)))).set_ 3 (vi (fv (rootI q n)))).alloc (.cells #[vi q, vi n, vi (fv (el q t)), vi (fv (rootI q n))] 30)
  have e0 := (hB5.cell 0).trans (show _ = some (vi q) from rfl)
  have e1 := (hB5.cell 1).trans (show _ = some (vi n) from rfl)
  have e2 := (hB5.cell 2).trans (show _ = some (vi (fv (el q t))) from rfl)
  have e3 := (hB5.cell 3).trans (show _ = some (vi (fv (rootI q n))) from rfl)
  have hbw := hbA.trans (hb14.mono hbA.size)
  go_region
  go_wp2
  refine bodyPost_ret (v := .tuple #[.pointer (some ⟨D, 0, none⟩), sp, RDom q n (fv (el q t)) (fv (rootI q n)), .bool true]) (by simp [results, Tryz.results5, go_sem, e0, e1, e2, e3]) rfl ⟨b, D, sp, rfl, ?_, ?_, ?_⟩
  · refine Dom.upS (hD4.keepZ hz (fun a ha hne => ?_) ?_) ?_ ?_
    · have hlt : a.block < w4.heap.size := Nat.lt_of_lt_of_le ha hD4.fld.le
      show (World.alloc _ _).cell? a = _
      rw [World.cell?_alloc_lt _ _ a (by simpa using hlt), World.cell?_setCell_other _ _ _ _ (fun e => hne (by rw [← e])), World.cell?_setCell_other _ _ _ _ (fun e => hne (by rw [← e])), World.cell?_setCell_other _ _ _ _ (fun e => hne (by rw [← e])), World.cell?_setCell_other _ _ _ _ (fun e => hne (by rw [← e]))]
    · show w4.heap.size ≤ (World.alloc _ _).heap.size
      simp
    · show w2.heap.size ≤ (World.alloc _ _).heap.size
      have := hD4.fld.le
      simp; omega
    · exact Nat.le_refl _
  · rcases HSPI.out with ⟨g1, g2⟩ | ⟨g1, s, b2, k, z, oo, g2, g3, g4, g5, g6⟩
    · exact .inl ⟨g1, g2⟩
    · refine .inr ⟨g1, s, b2, k, z, oo, g2, ?_, ?_, ?_⟩
      · show s < (World.alloc _ _).heap.size
        have := hb4.size
        simp; omega
      · have F4 := g5.below hb4 (Nat.le_refl _)
        refine Fld.moreS (F4.keepZ hz (fun a ha hne => ?_) ?_) ?_ ?_
        · have hlt : a.block < w4.heap.size := Nat.lt_of_lt_of_le ha F4.le
          show (World.alloc _ _).cell? a = _
          rw [World.cell?_alloc_lt _ _ a (by simpa using hlt), World.cell?_setCell_other _ _ _ _ (fun e => hne (by rw [← e])), World.cell?_setCell_other _ _ _ _ (fun e => hne (by rw [← e])), World.cell?_setCell_other _ _ _ _ (fun e => hne (by rw [← e])), World.cell?_setCell_other _ _ _ _ (fun e => hne (by rw [← e]))]
        · show w4.heap.size ≤ (World.alloc _ _).heap.size
          simp
        · show w3s.heap.size ≤ (World.alloc _ _).heap.size
          have := F4.le
          simp; omega
        · exact Nat.le_refl _
      · have G4 := g6.below hb4 g4
        refine G4.keepB fun a ha => ?_
        have hne : a.block ≠ w.heap.size := by omega
        have hlt : a.block < w4.heap.size := by have := hb4.size; omega
        show (World.alloc _ _).cell? a = _
        rw [World.cell?_alloc_lt _ _ a (by simpa using hlt), World.cell?_setCell_other _ _ _ _ (fun e => hne (by rw [← e])), World.cell?_setCell_other _ _ _ _ (fun e => hne (by rw [← e])), World.cell?_setCell_other _ _ _ _ (fun e => hne (by rw [← e])), World.cell?_setCell_other _ _ _ _ (fun e => hne (by rw [← e]))]
  · exact below_drewN ((((((hbw.setCell (by simp) _).setCell (by simp) _).setCell (by simp) _).setCell (by simp) _).alloc (by simp; omega) _)) 1
end Go.Proofs.YtflkiddmakeabaaGreatDoor

/- The law FoldChecks, ahead of its walk: what both checks come to. -/
set_option linter.unusedVariables false
namespace Go.Proofs.YtflkiddmakeabaaGreatDoor
open Go.RowKit Zp
theorem made5_nodom (p size t : Int) (hp : I64 p) (hs : I64 size) (ht : I64 t) (h : ¬ HasDom2 p size t) (w : World) (hT : Typed w) :
    Calls Tryz.prog 5 #[vi p, vi size, vi t] w fun e w' => SaysW NoMade5 w e w' := by
  by_cases hF : HasField p
  · obtain ⟨h3, hm, hpr⟩ := hF
    obtain ⟨q, rfl⟩ := Int.eq_ofNat_of_zero_le (a := p) (by omega)
    rw [Int.toNat_natCast] at hpr
    haveI := hpr.ne
    exact made5_nod q (by omega) (by omega) hpr size t hs ht (fun ⟨n, h1, h2, h3'⟩ => h ⟨⟨by omega, hm, by rw [Int.toNat_natCast]; exact hpr⟩, n, h1, by rw [Int.toNat_natCast]; exact h2, h3'⟩) w hT
  · exact made5_nof p size t hp hF w hT
theorem Chn.ne5 {w : World} {c s m : Nat} {D D' : List Int} {p : Int} (h : Chn w c s D) (h' : RCh w m p D') : c ≠ m := by
  obtain ⟨v, h1⟩ := h.obj
  obtain ⟨g, cap, cs, h2, _⟩ := h'
  exact Blk.ne_ h1 h2 (by decide)
theorem RCh.farC5 {w w' : World} {m c s : Nat} {p : Int} {D D' : List Int} (h : RCh w m p D) (hc : Chn w c s D') (hg : w.grownBy w' (some c)) : RCh w' m p D := by
  obtain ⟨v, h1⟩ := hc.obj
  exact h.far h1 (by decide) hg (fun e => hc.ne5 h e.symm)
/-- a chain is kept where only a block of another type is turned -/
theorem Chn.farM5 {w w' : World} {c s m : Nat} {D D' : List Int} {p : Int} (h : Chn w c s D) (hm : RCh w m p D') (hg : w.grownBy w' (some m)) : Chn w' c s D := by
  obtain ⟨g', cap', cs', hx, _⟩ := hm
  obtain ⟨g, cap, t', cs, h1, h2, h3, h4, h5, h6, h7, h8⟩ := h
  have hgx : g ≠ m := Blk.ne_ h2 hx (h3.ne (by decide) (by decide))
  have hne : c ≠ m := Blk.ne_ h1 hx (by decide)
  exact ⟨g, cap, t', cs, Blk.grown h1 hg (by intro e; injection e with e; exact hne e), h2.grown hg (by intro e; injection e with e; exact hgx e), h3, h4.far hg hgx, h5, h6, h7, h8⟩
/-- which degrees and places may be -/
theorem may_split {q n : Nat} {k asked : Int} (hs : SizeOk q n) (h : fmayB n k asked = true) : ∃ e j a : Nat, e ≤ 16 ∧ n = nI e 0 ∧ k = ((nI j 0 : Nat) : Int) ∧ j + 1 ≤ e ∧ asked = (a : Int) ∧ 1 ≤ a ∧ a ≤ 64 := by
  unfold fmayB at h
  obtain ⟨h1, h2, h3, h4, h5, h6⟩ := of_decide_eq_true h
  obtain ⟨⟨e, he, hn⟩, _⟩ := hs
  obtain ⟨j, hj⟩ := (two_pow_iff k.toNat (by omega)).1 h3
  refine ⟨e, j, asked.toNat, he, hn, by unfold nI; rw [Nat.sub_zero, ← hj]; omega, ?_, by omega, by omega, by omega⟩
  have h7 : 2 ^ (j + 1) ≤ 2 ^ e := by rw [Nat.pow_succ, ← hj, ← hn]; omega
  exact (Nat.pow_le_pow_iff_right (by omega)).1 h7
theorem grown_of_below0 {w w' : World} (h : Below w.heap.size w w') (row : Option Nat) : w.grownBy w' row := ⟨h.os, h.tape, h.output, h.size, fun x hx _ => h.block x hx⟩
end Go.Proofs.YtflkiddmakeabaaGreatDoor
