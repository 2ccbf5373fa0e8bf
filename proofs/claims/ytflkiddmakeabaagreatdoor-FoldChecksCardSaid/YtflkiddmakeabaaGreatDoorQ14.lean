/- A bundle of texts: Md5, LawO1, Ff, Of5, LawO2. -/
import Derived.Test.YtflkiddmakeabaaGreatDoorQ10
import Derived.Test.YtflkiddmakeabaaGreatDoorQ09
import Derived.Test.YtflkiddmakeabaaGreatDoorQ03
import Derived.Test.YtflkiddmakeabaaGreatDoorQ12
import Derived.Test.YtflkiddmakeabaaGreatDoorQ13
import Derived.Test.YtflkiddmakeabaaGreatDoorQ11
import Derived.Test.YtflkiddmakeabaaGreatDoorQ08
import Derived.Test.YtflkiddmakeabaaGreatDoorQ07
import Derived.Deep.Slices
import Derived.Deep.Fields
import Derived.ChangeSame
/- Walk: law5.made. -/
set_option linter.unusedVariables false
namespace Go.Proofs.YtflkiddmakeabaaGreatDoor
open Go.RowKit Zp

theorem Spg.keepB {p : Nat} [NeZero p] {w w' : World} {s b k z : Nat} {oo : Nat → Nat → Fin p} (h : Spg w s b k z oo) (hk : ∀ q : Addr, q.block = s → w'.cell? q = w.cell? q) : Spg w' s b k z oo :=
  ⟨(hk ⟨s, 0, none⟩ rfl).trans h.c0, (hk ⟨s, 1, none⟩ rfl).trans h.c1, (hk ⟨s, 2, none⟩ rfl).trans h.c2, h.k2, h.kp, h.least, h.cop, h.zp, h.root,
   h.mat.keep fun q hq => hk q hq, h.oth.keep fun q hq => hk q hq, h.undo⟩
abbrev NoMade5 : Value := .tuple #[.pointer none, .pointer none, .agg #[vi 0, vi 0, vi 0, vi 0], .bool true]
set_option maxRecDepth 100000 in
set_option maxHeartbeats 1000000 in
theorem made5_nof (p size t : Int) (hp : I64 p) (h : ¬ HasField p) (w : World) (hT : Typed w) :
    Calls Tryz.prog 5 #[vi p, vi size, vi t] w fun e w' => SaysW NoMade5 w e w' := by
  have hbA : Below w.heap.size w (w.alloc (.cells #[vi 0, vi 0, vi 0, vi 0] 30)) := (Below.refl _ _).alloc (Nat.le_refl _) _
  have HN := Lib.hid (sfield_no p hp h _ (hT.below hbA))
  clear h
  go_enter Tryz.func5, Tryz.ntmps5
  go_wp2_with fail
  refine (HN.out).mono ?_
  rintro e w1 ⟨rfl, hb1⟩
  obtain ⟨c0, c1, c2, c3, hfz⟩ := blk4 hb1
  have f0 := hfz 0
  have f1 := hfz 1
  have f2 := hfz 2
  have f3 := hfz 3
  clear hfz
  go_wp2
  refine bodyPost_ret (v := NoMade5) (by simp [results, Tryz.results5, go_sem, c0, c1, c2, c3]) rfl ⟨rfl, ?_⟩
  exact ((((hbA.trans (hb1.mono hbA.size)).setCell (by simp) _).setCell (by simp) _).setCell (by simp) _).setCell (by simp) _

set_option maxRecDepth 100000 in
set_option maxHeartbeats 1000000 in
theorem made5_nod (q : Nat) [NeZero q] (h3 : 3 ≤ q) (hqm : q ≤ 2147483647) (hpr : IsPrime q) (size t : Int) (hs : I64 size) (ht : I64 t) (h : ¬ ∃ n : Nat, size = n ∧ SizeOk q n ∧ ¬ t % (q : Int) = 0) (w : World) (hT : Typed w) :
    Calls Tryz.prog 5 #[vi q, vi size, vi t] w fun e w' => SaysW NoMade5 w e w' := by
  have hbA : Below w.heap.size w (w.alloc (.cells #[vi 0, vi 0, vi 0, vi 0] 30)) := (Below.refl _ _).alloc (Nat.le_refl _) _
  have HF := Lib.hid (sfield_yes q h3 hqm hpr _ (hT.below hbA))
  have hTA := hT.below hbA
  have HD := Lib.hid (fun b S W F => dnew_fault q S b size t ht W F h)
  have HR := Lib.hid (fun W => rfault_any q (by omega) hqm size t hs ht W)
  clear h hpr
  go_enter Tryz.func5, Tryz.ntmps5
  go_wp2_with fail
  refine (HF.out).mono ?_
  rintro e w1 ⟨b, rfl, F, hb1⟩
  obtain ⟨k, hk0, hfk, hnew⟩ := HD.out b _ w1 F
  rw [hfk] at HR
  have HN := Lib.hid hnew
  have hT1 := hTA.below hb1
  have t1 : (k != 0) = true := by rw [bne_iff_ne]; exact hk0
  have HE := Lib.hid (fun W hg => errIs k hk0 W hg)
  clear hnew hfk hk0
  go_wp2_with fail
  refine (HN.out).mono ?_
  rintro e w' ⟨rfl, rfl⟩
  go_wp2_with fail
  refine (HR.out _).mono ?_
  rintro e w' ⟨rfl, rfl⟩
  go_wp2_with fail
  refine (HE.out _ hT1).mono ?_
  rintro e w2 ⟨rfl, hb2⟩
  have hb12 := hb1.trans (hb2.mono hb1.size)
  obtain ⟨c0, c1, c2, c3, hfz⟩ := blk4 hb12
  have f0 := hfz 0
  have f1 := hfz 1
  have f2 := hfz 2
  have f3 := hfz 3
  clear hfz
  go_wp2
  refine bodyPost_ret (v := NoMade5) (by simp [results, Tryz.results5, go_sem, c0, c1, c2, c3]) rfl ⟨rfl, ?_⟩
  exact ((((hbA.trans (hb12.mono hbA.size)).setCell (by simp) _).setCell (by simp) _).setCell (by simp) _).setCell (by simp) _

/-- the sponge that stands beside a domain, if there is one -/
def SpgIf (q : Nat) [NeZero q] (sp : Value) (w : World) : Prop :=
  (q < 23 ∧ sp = .pointer none) ∨ (23 ≤ q ∧ ∃ (s b k z : Nat) (oo : Nat → Nat → Fin q), sp = .pointer (some ⟨s, 0, none⟩) ∧ s < w.heap.size ∧ Fld w w.heap.size b q ∧ Spg w s b k z oo)
/-- a domain on both sides, and a sponge -/
def MadeFive (q n : Nat) [NeZero q] (t : Int) (w : World) (e : Ending) (w' : World) : Prop :=
  ∃ (b D : Nat) (sp : Value), e = .returned (.tuple #[.pointer (some ⟨D, 0, none⟩), sp, RDom q n (fv (el q t)) (fv (rootI q n)), .bool true]) ∧ Dom w' w'.heap.size D b q n (el q t) ∧ SpgIf q sp w' ∧ Below w.heap.size w w'
/-- the sponge, or none -/
def SpgOr (q : Nat) [NeZero q] (w : World) (e : Ending) (w' : World) : Prop :=
  ∃ sp, e = .returned (.tuple #[sp, .bool true]) ∧ ((q < 23 ∧ sp = .pointer none) ∨ (23 ≤ q ∧ ∃ (s b k z : Nat) (oo : Nat → Nat → Fin q), sp = .pointer (some ⟨s, 0, none⟩) ∧ w.heap.size ≤ s ∧ s < w'.heap.size ∧ Fld w' w'.heap.size b q ∧ Spg w' s b k z oo)) ∧ Below w.heap.size w w'
theorem spgOr (q : Nat) [NeZero q] (h3 : 3 ≤ q) (hqm : q ≤ 2147483647) (hpr : IsPrime q) (w : World) (hT : Typed w) :
    Calls Tryz.prog 21 #[vi q] w fun e w' => SpgOr q w e w' := by
  by_cases h23 : 23 ≤ q
  · refine (ssponge_yes q h23 hqm hpr w hT).mono fun e w' h => ?_
    obtain ⟨s, b, k, z, oo, h1, h2, h3, h4, h5, h6⟩ := h
    exact ⟨_, h1, .inr ⟨h23, s, b, k, z, oo, rfl, h4, h5, h2, h3⟩, h6⟩
  · refine (ssponge_no q ⟨by omega, by omega⟩ (fun h => h23 (by have := h.2; omega)) w hT).mono fun e w' h => ?_
    exact ⟨_, h.1, .inl ⟨by omega, rfl⟩, h.2⟩
set_option maxRecDepth 100000 in
set_option maxHeartbeats 2000000 in
theorem made5_yes (q n : Nat) [NeZero q] (h3 : 3 ≤ q) (hqm : q ≤ 2147483647) (hpr : IsPrime q) (t : Int) (ht : I64 t) (hsz : SizeOk q n) (h0 : ¬ t % (q : Int) = 0) (w : World) (hT : Typed w) :
    Calls Tryz.prog 5 #[vi q, vi n, vi t] w fun e w' => MadeFive q n t w e w' := by
  have hbA : Below w.heap.size w (w.alloc (.cells #[vi 0, vi 0, vi 0, vi 0] 30)) := (Below.refl _ _).alloc (Nat.le_refl _) _
  have HF := Lib.hid (sfield_yes q h3 hqm hpr _ (hT.below hbA))
  have hTA := hT.below hbA
  have hn := hsz.le
  have HD := Lib.hid (fun b S W F => dnew_ok q S b n t ht hsz (fun h => h0 (el_eq_zero.1 h)) W F)
  have hr := fun W => rfault_any q (by omega) hqm n t (by constructor <;> omega) ht W
  rw [faultI_ok hsz h0] at hr
  have HR := Lib.hid hr
  have HW := Lib.hid (fun W => rnew_any q hpr h3 hqm n hn t ht W)
  have HSP := Lib.hid (fun W hT => spgOr q h3 hqm hpr W hT)
  clear h0 hpr hsz hr
  go_enter Tryz.func5, Tryz.ntmps5
  go_wp2_with fail
  refine (HF.out).mono ?_
  rintro e w1 ⟨b, rfl, F, hb1⟩
  go_wp2_with fail
  refine (HD.out b _ w1 F).mono ?_
  rintro e w2 ⟨D, rfl, hD, hb2, _⟩
  have hb12 := hb1.trans (hb2.mono hb1.size)
  have hT2 := hTA.below hb12
  go_wp2_with fail
  refine (HR.out _).mono ?_
  rintro e w' ⟨rfl, rfl⟩
  go_wp2_with fail
  refine (errNil _ hT2).mono ?_
  rintro e w3 ⟨rfl, hb3⟩
  have hb13 := hb12.trans (hb3.mono hb12.size)
  have hD3 := hD.below hb3 (Nat.le_refl _)
  have hT3 := hTA.below hb13
  go_wp2_with fail
  refine (HSP.out _ hT3).mono ?_
  rintro e w3s ⟨sp, rfl, hsp, hb3s⟩
  have hb13s := hb13.trans (hb3s.mono hb13.size)
  have hD3s := hD3.below hb3s hD3.fld.le
  have HSPI := Lib.hid hsp
  clear hsp
  go_wp2_with fail
  refine (HW.out _).mono ?_
  rintro e w4 ⟨rfl, hb4⟩
  have hb14 := hb13s.trans (hb4.mono hb13s.size)
  have hD4 := hD3s.below hb4 hD3s.fld.le
  have hB14 := (Blk.new w 30 #[vi 0, vi 0, vi 0, vi 0]).below hb14 (by simp)
  have hz := zeroBlk hB14
  obtain ⟨c0, c1, c2, c3, hfz⟩ := blk4 hb14
  have f0 := hfz 0
  have f1 := hfz 1
  have f2 := hfz 2
  have f3 := hfz 3
  have hsz4 : w.heap.size < w4.heap.size := by have := hb14.size; simp at this; omega
  have hsz3 : w.heap.size < w3.heap.size := by have := hb13.size; simp at this; omega
  clear hfz
  go_wp2
  have hB5 := ((((hB14.set_ 0 (vi q)).set_ 1 (vi n)).set_ 2 (vi (fv (el q t)))).set_ 3 (vi (fv (rootI q n)))).alloc (.cells #[vi q, vi n, vi (fv (el q t)), vi (fv (rootI q n))] 30)
  have e0 := (hB5.cell 0).trans (show _ = some (vi q) from rfl)
  have e1 := (hB5.cell 1).trans (show _ = some (vi n) from rfl)
  have e2 := (hB5.cell 2).trans (show _ = some (vi (fv (el q t))) from rfl)
  have e3 := (hB5.cell 3).trans (show _ = some (vi (fv (rootI q n))) from rfl)
  have hbw := hbA.trans (hb14.mono hbA.size)
  go_region
  go_wp2
  refine bodyPost_ret (v := .tuple #[.pointer (some ⟨D, 0, none⟩), sp, RDom q n (fv (el q t)) (fv (rootI q n)), .bool true]) (by simp [results, Tryz.results5, go_sem, e0, e1, e2, e3]) rfl ⟨b, D, sp, rfl, ?_, ?_, ?_⟩
  · refine Dom.upS (hD4.keepZ hz (fun a ha hne => ?_) ?_) ?_ ?_
    · have hlt : a.block < w4.heap.size := Nat.lt_of_lt_of_le ha hD4.fld.le
      show (World.alloc _ _).cell? a = _
      rw [World.cell?_alloc_lt _ _ a (by simpa using hlt), World.cell?_setCell_other _ _ _ _ (fun e => hne (by rw [← e])), World.cell?_setCell_other _ _ _ _ (fun e => hne (by rw [← e])), World.cell?_setCell_other _ _ _ _ (fun e => hne (by rw [← e])), World.cell?_setCell_other _ _ _ _ (fun e => hne (by rw [← e]))]
    · show w4.heap.size ≤ (World.alloc _ _).heap.size
      simp
    · show w2.heap.size ≤ (World.alloc _ _).heap.size
      have := hD4.fld.le
      simp; omega
    · exact Nat.le_refl _
  · rcases HSPI.out with ⟨g1, g2⟩ | ⟨g1, s, b2, k, z, oo, g2, g3, g4, g5, g6⟩
    · exact .inl ⟨g1, g2⟩
    · refine .inr ⟨g1, s, b2, k, z, oo, g2, ?_, ?_, ?_⟩
      · show s < (World.alloc _ _).heap.size
        have := hb4.size
        simp; omega
      · have F4 := g5.below hb4 (Nat.le_refl _)
        refine Fld.moreS (F4.keepZ hz (fun a ha hne => ?_) ?_) ?_ ?_
        · have hlt : a.block < w4.heap.size := Nat.lt_of_lt_of_le ha F4.le
          show (World.alloc _ _).cell? a = _
          rw [World.cell?_alloc_lt _ _ a (by simpa using hlt), World.cell?_setCell_other _ _ _ _ (fun e => hne (by rw [← e])), World.cell?_setCell_other _ _ _ _ (fun e => hne (by rw [← e])), World.cell?_setCell_other _ _ _ _ (fun e => hne (by rw [← e])), World.cell?_setCell_other _ _ _ _ (fun e => hne (by rw [← e]))]
        · show w4.heap.size ≤ (World.alloc _ _).heap.size
          simp
        · show w3s.heap.size ≤ (World.alloc _ _).heap.size
          have := F4.le
          simp; omega
        · exact Nat.le_refl _
      · have G4 := g6.below hb4 g4
        refine G4.keepB fun a ha => ?_
        have hne : a.block ≠ w.heap.size := by omega
        have hlt : a.block < w4.heap.size := by have := hb4.size; omega
        show (World.alloc _ _).cell? a = _
        rw [World.cell?_alloc_lt _ _ a (by simpa using hlt), World.cell?_setCell_other _ _ _ _ (fun e => hne (by rw [← e])), World.cell?_setCell_other _ _ _ _ (fun e => hne (by rw [← e])), World.cell?_setCell_other _ _ _ _ (fun e => hne (by rw [← e])), World.cell?_setCell_other _ _ _ _ (fun e => hne (by rw [← e]))]
  · exact below_drewN ((((((hbw.setCell (by simp) _).setCell (by simp) _).setCell (by simp) _).setCell (by simp) _).alloc (by simp; omega) _)) 1
end Go.Proofs.YtflkiddmakeabaaGreatDoor

/- The law FoldChecks, ahead of its walk: what both checks come to. -/
set_option linter.unusedVariables false
namespace Go.Proofs.YtflkiddmakeabaaGreatDoor
open Go.RowKit Zp
theorem made5_nodom (p size t : Int) (hp : I64 p) (hs : I64 size) (ht : I64 t) (h : ¬ HasDom2 p size t) (w : World) (hT : Typed w) :
    Calls Tryz.prog 5 #[vi p, vi size, vi t] w fun e w' => SaysW NoMade5 w e w' := by
  by_cases hF : HasField p
  · obtain ⟨h3, hm, hpr⟩ := hF
    obtain ⟨q, rfl⟩ := Int.eq_ofNat_of_zero_le (a := p) (by omega)
    rw [Int.toNat_natCast] at hpr
    haveI := hpr.ne
    exact made5_nod q (by omega) (by omega) hpr size t hs ht (fun ⟨n, h1, h2, h3'⟩ => h ⟨⟨by omega, hm, by rw [Int.toNat_natCast]; exact hpr⟩, n, h1, by rw [Int.toNat_natCast]; exact h2, h3'⟩) w hT
  · exact made5_nof p size t hp hF w hT
theorem Chn.ne5 {w : World} {c s m : Nat} {D D' : List Int} {p : Int} (h : Chn w c s D) (h' : RCh w m p D') : c ≠ m := by
  obtain ⟨v, h1⟩ := h.obj
  obtain ⟨g, cap, cs, h2, _⟩ := h'
  exact Blk.ne_ h1 h2 (by decide)
theorem RCh.farC5 {w w' : World} {m c s : Nat} {p : Int} {D D' : List Int} (h : RCh w m p D) (hc : Chn w c s D') (hg : w.grownBy w' (some c)) : RCh w' m p D := by
  obtain ⟨v, h1⟩ := hc.obj
  exact h.far h1 (by decide) hg (fun e => hc.ne5 h e.symm)
/-- a chain is kept where only a block of another type is turned -/
theorem Chn.farM5 {w w' : World} {c s m : Nat} {D D' : List Int} {p : Int} (h : Chn w c s D) (hm : RCh w m p D') (hg : w.grownBy w' (some m)) : Chn w' c s D := by
  obtain ⟨g', cap', cs', hx, _⟩ := hm
  obtain ⟨g, cap, t', cs, h1, h2, h3, h4, h5, h6, h7, h8⟩ := h
  have hgx : g ≠ m := Blk.ne_ h2 hx (h3.ne (by decide) (by decide))
  have hne : c ≠ m := Blk.ne_ h1 hx (by decide)
  exact ⟨g, cap, t', cs, Blk.grown h1 hg (by intro e; injection e with e; exact hne e), h2.grown hg (by intro e; injection e with e; exact hgx e), h3, h4.far hg hgx, h5, h6, h7, h8⟩
/-- which degrees and places may be -/
theorem may_split {q n : Nat} {k asked : Int} (hs : SizeOk q n) (h : fmayB n k asked = true) : ∃ e j a : Nat, e ≤ 16 ∧ n = nI e 0 ∧ k = ((nI j 0 : Nat) : Int) ∧ j + 1 ≤ e ∧ asked = (a : Int) ∧ 1 ≤ a ∧ a ≤ 64 := by
  unfold fmayB at h
  obtain ⟨h1, h2, h3, h4, h5, h6⟩ := of_decide_eq_true h
  obtain ⟨⟨e, he, hn⟩, _⟩ := hs
  obtain ⟨j, hj⟩ := (two_pow_iff k.toNat (by omega)).1 h3
  refine ⟨e, j, asked.toNat, he, hn, by unfold nI; rw [Nat.sub_zero, ← hj]; omega, ?_, by omega, by omega, by omega⟩
  have h7 : 2 ^ (j + 1) ≤ 2 ^ e := by rw [Nat.pow_succ, ← hj, ← hn]; omega
  exact (Nat.pow_le_pow_iff_right (by omega)).1 h7
/-- what the program's check leaves -/
def CkQ (ok : Bool) (l D' : List Int) (c sg : Nat) (w : World) (ee : Ending) (w' : World) : Prop := CkIs ok l w ee w' ∧ Chn w' c sg D' ∧ w.grownBy w' (some c)
/-- what the document's check leaves -/
def RkQ (ok : Bool) (l D' : List Int) (m : Nat) (q : Int) (w : World) (ee : Ending) (w' : World) : Prop := CkIs ok l w ee w' ∧ RCh w' m q D' ∧ w.grownBy w' (some m)
theorem grown_of_below0 {w w' : World} (h : Below w.heap.size w w') (row : Option Nat) : w.grownBy w' row := ⟨h.os, h.tape, h.output, h.size, fun x hx _ => h.block x hx⟩
def CkAll (q kk : Nat) [NeZero q] (n : Nat) (s : Fin q) (k asked : Int) (f : FldI) (D : List Int) (ok : Bool) (l D' : List Int) : Prop :=
  ∀ (S1 b1 sg z : Nat) (oo : Nat → Nat → Fin q) (c Dd b2 S2 : Nat) (AR : Option Addr) (nR cR : Nat) (AL : Option Addr) (nL cL : Nat) (AO : Option Addr) (nO cO : Nat) (w : World), Fld w S1 b1 q → Spg w sg b1 kk z oo → S1 ≤ c → sg < c → Chn w c sg D → Dom w S2 Dd b2 q n s → S2 ≤ c →
    (∀ w', w.grownBy w' (some c) → FAt w' AR nR cR AL nL cL AO nO cO f) → (∀ k, k < f.opens.length → OKeep w c AO k (opnO f.opens k)) →
    Calls Tryz.prog 8 #[.pointer (some ⟨sg, 0, none⟩), .pointer (some ⟨c, 0, none⟩), .pointer (some ⟨Dd, 0, none⟩), vi k, vi asked, .agg #[.slice AR nR cR, .slice AL nL cL, .slice AO nO cO]] w (CkQ ok l D' c sg w)
def RkAll (q : Nat) [NeZero q] (n : Nat) (s : Fin q) (k asked : Int) (f : FldI) (D : List Int) (ok : Bool) (l D' : List Int) : Prop :=
  ∀ (m : Nat) (AR : Option Addr) (nR cR : Nat) (AL : Option Addr) (nL cL : Nat) (AO : Option Addr) (nO cO : Nat) (w00 w : World), FAt w00 AR nR cR AL nL cL AO nO cO f → Below w00.heap.size w00 w → w00.heap.size ≤ m → RCh w m q D →
    Calls Tryz.prog 9 #[.pointer (some ⟨m, 0, none⟩), RDom q n (fv s) (fv (rootI q (n : Int))), vi k, vi asked, .agg #[.slice AR nR cR, .slice AL nL cL, .slice AO nO cO]] w (RkQ ok l D' m q w)
set_option maxHeartbeats 1000000 in
theorem checks5_both (q kk : Nat) [NeZero q] (K : Pk q kk) (n : Nat) (hsz : SizeOk q n) (s : Fin q) (k asked : Int) (hk : I64 k) (f : FldI) (D : List Int) : ∃ ok l D', CkAll q kk n s k asked f D ok l D' ∧ RkAll q n s k asked f D ok l D' := by
  by_cases hmay : fmayB n k asked = true
  · obtain ⟨e, j, a, he, rfl, rfl, hje, rfl, ha1, ha2⟩ := may_split hsz hmay
    by_cases hyes : f.roots.length = rndK j
    · refine ⟨okO q kk s e j f D a, if okO q kk s e j f D a then placesL q kk (dgL q kk D f.roots f.last) ((nI e 1 : Nat) : Int) a else [], iterP q kk (dgL q kk D f.roots f.last) a, ?_, ?_⟩
      · intro S1 b1 sg z oo c Dd b2 S2 AR nR cR AL nL cL AO nO cO w F G hS1 hsc hC hd hS2 hO hOE
        exact fck_yes q S1 b1 sg kk z oo c D Dd b2 S2 s e j he hje (by omega) a ha1 ha2 hmay f hyes w F G hS1 hsc hC hd hS2 hO hOE
      · intro m AR nR cR AL nL cL AO nO cO w00 w hF hb hm0 hm
        exact rck_yes q kk K m D s e j he hsz hje a ha1 ha2 hmay f hyes w00 w hF hb hm0 hm
    · refine ⟨false, [], D, ?_, ?_⟩
      · intro S1 b1 sg z oo c Dd b2 S2 AR nR cR AL nL cL AO nO cO w F G hS1 hsc hC hd hS2 hO hOE
        exact (fck_roots q c sg Dd b2 S2 s e j he hje (by omega) a hmay f ((hO w (World.grownBy.refl w _)).lR) hyes w hd).mono fun ee w' h => ⟨h.1, hC.below h.2, grown_of_below0 h.2 _⟩
      · intro m AR nR cR AL nL cL AO nO cO w00 w hF hb hm0 hm
        exact (rck_roots q kk K m D s e j he hsz hje a ha1 ha2 hmay f hyes w00 w hF hb hm0 hm).mono fun ee w' h => ⟨h.1, hm.below h.2, grown_of_below0 h.2 _⟩
  · have hno : fmayB n k asked = false := by cases h : fmayB n k asked <;> simp_all
    refine ⟨false, [], D, ?_, ?_⟩
    · intro S1 b1 sg z oo c Dd b2 S2 AR nR cR AL nL cL AO nO cO w F G hS1 hsc hC hd hS2 hO hOE
      exact (fck_may c sg Dd n k asked hk hsz.le _ _ _ hno w hd.c1).mono fun ee w' h => ⟨h.1, hC.below h.2, grown_of_below0 h.2 _⟩
    · intro m AR nR cR AL nL cL AO nO cO w00 w hF hb hm0 hm
      exact (rck_may q n (fv s) (fv (rootI q (n : Int))) k asked hsz.pos hsz.le m _ _ _ _ rfl hno w).mono fun ee w' h => ⟨h.1, hm.below h.2, grown_of_below0 h.2 _⟩
end Go.Proofs.YtflkiddmakeabaaGreatDoor

/- The walk of same.Foldeds. -/
set_option linter.unusedVariables false
namespace Go.Proofs.YtflkiddmakeabaaGreatDoor
open Go.RowKit Zp
theorem info_opening : (Tryz.prog.info? 70).map (fun i => (i.zero, i.size, i.bytes)) = some (some (.agg #[.slice none 0 0, .slice none 0 0, .slice none 0 0]), 3, 72) := by kernel_rfl
set_option maxRecDepth 100000 in
set_option maxHeartbeats 2000000 in
theorem foldeds_any {AR : Option Addr} {nR cR : Nat} {AL : Option Addr} {nL cL : Nat} {AO : Option Addr} {nO cO : Nat} {f : FldI} (w : World) (hF : FAt w AR nR cR AL nL cL AO nO cO f) :
    Calls Tryz.prog 7 #[.agg #[.slice AR nR cR, .slice AL nL cL, .slice AO nO cO]] w (FoldedsBig f w) := by
  obtain ⟨W, hW⟩ : ∃ W, W = ((w.alloc (.cells #[.slice AR nR cR, .slice AL nL cL, .slice AO nO cO] 26)).alloc (.cells #[.slice none 0 0, .slice none 0 0, .slice none 0 0] 26)).alloc (.cells #[.slice none 0 0, .slice none 0 0, .slice none 0 0] 26) := ⟨_, rfl⟩
  have hb0 : Below w.heap.size w W := by rw [hW]; exact (((Below.refl _ _).alloc (Nat.le_refl _) _).alloc (by simp) _).alloc (by simp; omega) _
  have hB1 : Blk W w.heap.size 26 #[.slice AR nR cR, .slice AL nL cL, .slice AO nO cO] := by rw [hW]; exact ((Blk.new w 26 _).alloc _).alloc _
  have hB3 : Blk W (w.heap.size + 2) 26 #[.slice none 0 0, .slice none 0 0, .slice none 0 0] := by
    rw [hW]
    have h1 := Blk.new ((w.alloc (.cells #[.slice AR nR cR, .slice AL nL cL, .slice AO nO cO] 26)).alloc (.cells #[.slice none 0 0, .slice none 0 0, .slice none 0 0] 26)) 26 #[.slice none 0 0, .slice none 0 0, .slice none 0 0]
    rw [show ((w.alloc (.cells #[.slice AR nR cR, .slice AL nL cL, .slice AO nO cO] 26)).alloc (.cells #[.slice none 0 0, .slice none 0 0, .slice none 0 0] 26)).heap.size = w.heap.size + 2 by simp] at h1
    exact h1
  have HWS := Lib.hid (show W.heap.size = w.heap.size + 3 by rw [hW]; simp)
  have hB2 : Blk W (w.heap.size + 1) 26 #[.slice none 0 0, .slice none 0 0, .slice none 0 0] := by
    rw [hW]
    have h1 := (Blk.new (w.alloc (.cells #[.slice AR nR cR, .slice AL nL cL, .slice AO nO cO] 26)) 26 #[.slice none 0 0, .slice none 0 0, .slice none 0 0]).alloc (.cells #[.slice none 0 0, .slice none 0 0, .slice none 0 0] 26)
    rw [show (w.alloc (.cells #[.slice AR nR cR, .slice AL nL cL, .slice AO nO cO] 26)).heap.size = w.heap.size + 1 by simp] at h1
    exact h1
  have HB2 := Lib.hid hB2
  have HW := Lib.hid hW
  have HB0 := Lib.hid hb0
  have HB1 := Lib.hid hB1
  have HB3 := Lib.hid hB3
  have HF := Lib.hid hF
  have HCR := Lib.hid (copied_any AR nR cR f.roots hF.lR hF.bR (fun t ht => by have := hF.rR t ht; omega) W (hF.tR.below hb0))
  have f0 := (hB1.cell 0).trans (show _ = some (.slice AR nR cR) from rfl)
  clear hW hb0 hB1 hB2 hB3 hF
  go_enter Tryz.func7, Tryz.ntmps7
  go_upto_region 2 with (fail)
  rw [← HW.out]
  go_wp2_with fail
  refine HCR.out.mono ?_
  rintro _ w3 ⟨v3, us3, rfl, ho3, hr3, hb3⟩
  obtain ⟨A3, n3, c3, rfl, hn3, hc3⟩ := ownR_shape ho3
  have hb31 := Blk.below HB1.out hb3 HB1.out.lt
  have hb33 := Blk.below HB3.out hb3 HB3.out.lt
  have y0 := (hb33.cell 0).trans (show _ = some (.slice none 0 0) from rfl)
  have z0 := hb33.frozen 0
  obtain ⟨w4, hw4⟩ : ∃ w4, w4 = w3.setCell ⟨w.heap.size + 2, 0, none⟩ (.slice A3 n3 c3) := ⟨_, rfl⟩
  have hg4 : w3.grownBy w4 (some (w.heap.size + 2)) := by rw [hw4]; exact blk_grown
  have hb43 : Blk w4 (w.heap.size + 2) 26 #[.slice A3 n3 c3, .slice none 0 0, .slice none 0 0] := by rw [hw4]; exact Blk.set_ hb33 0 _
  have hb41 : Blk w4 w.heap.size 26 #[.slice AR nR cR, .slice AL nL cL, .slice AO nO cO] := Blk.grown hb31 hg4 (fun e => by injection e with e; omega)
  have hW3 := HB0.out.trans (hb3.mono HB0.out.size)
  have HB4 := Lib.hid (hW3.grown hg4 hW3.size (fun x hx => by injection hx with hx; omega) : Below w.heap.size w w4)
  have HR3 := Lib.hid (And.intro ho3 (And.intro hr3 (And.intro hn3 hc3)))
  have HB3S := Lib.hid hb3.size
  have HB42 := Lib.hid (Blk.grown (Blk.below HB2.out hb3 HB2.out.lt) hg4 (fun e => by injection e with e; omega))
  have HG4 := Lib.hid hg4
  have HW4 := Lib.hid hw4
  have HB43 := Lib.hid hb43
  have HB41 := Lib.hid hb41
  clear ho3 hr3 hn3 hc3 hb31 hb33 hg4 hb43 hb41 hW3 hw4 f0
  go_upto_region 3 with (fail)
  rw [← HW4.out]
  clear y0 z0
  have f1 := (HB41.out.cell 1).trans (show _ = some (.slice AL nL cL) from rfl)
  have HE := Lib.hid (own_empty w4 w4.heap.size (Nat.le_refl _))
  have hbe : Below w4.heap.size w4 (w4.alloc (.cells #[] 3)) := (Below.refl _ _).alloc (Nat.le_refl _) _
  have HBE := Lib.hid hbe
  have HSL := Lib.hid (HF.out.sL.below (HB4.out.trans (hbe.mono HB4.out.size)))
  have HB43e := Lib.hid (Blk.below HB43.out hbe HB43.out.lt)
  have HLB := Lib.hid (show ([] : List Int).length + nL ≤ 17592186044416 by have := HF.out.bL; simp; omega)
  have f1e := ((Blk.below HB41.out hbe HB41.out.lt).cell 1).trans (show _ = some (.slice AL nL cL) from rfl)
  clear hbe f1
  go_upto_region 4 with (at_builtin; refine wpList_appA _ rfl _ _ rfl w4.heap.size _ [] AL nL cL f.last rfl rfl HF.out.lL HE.out HSL.out HLB.out (by simp) ?_; intro v5 w5 hg5; have hb5 : Below w4.heap.size w4 w5 := hg5.below HBE.out HE.out (Nat.le_refl _) HBE.out.size; have hb53 := Blk.below HB43.out hb5 HB43.out.lt; have y1 := (hb53.cell 1).trans (show _ = some (.slice none 0 0) from rfl); have z1 := hb53.frozen 1; obtain ⟨A5, n5, c5, rfl, hl5, hc5, hm5, hs5⟩ := hg5.own.shapeN)
  have ho5 := hg5.own
  rw [List.nil_append] at ho5
  obtain ⟨w6, hw6⟩ : ∃ w6, w6 = w5.setCell ⟨w.heap.size + 2, 1, none⟩ (.slice A5 n5 c5) := ⟨_, rfl⟩
  have hg6 : w5.grownBy w6 (some (w.heap.size + 2)) := by rw [hw6]; exact blk_grown
  have hws := HWS.out
  have hs3 := (HB4.out).size
  have hw34 : w3.heap.size = w4.heap.size := by rw [HW4.out]; simp
  have hb3' : W.heap.size ≤ w3.heap.size := HB3S.out
  have o3 : OwnR w6 (w.heap.size + 3) (.slice A3 n3 c3) us3 := by
    have h1 := OwnR.below (ownR_past HR3.out.1 HG4.out (by omega)) hb5
    rw [hws] at h1
    exact ownR_past h1 hg6 (by omega)
  have r3 : RowsOwn w6 (w.heap.size + 3) us3 f.roots := by
    have h1 := RowsOwn.below (rowsOwn_past HR3.out.2.1 HG4.out (by omega)) hb5
    rw [hws] at h1
    exact rowsOwn_past h1 hg6 (by omega)
  have o5 : Own w6 (w.heap.size + 3) (.slice A5 n5 c5) f.last := row_mono (own_past ho5 hg6 (by omega)) (by omega)
  have hb05 : Below w.heap.size w w5 := HB4.out.trans (hb5.mono HB4.out.size)
  have hb06 : Below w.heap.size w w6 := hb05.grown hg6 hb05.size (fun x hx => by injection hx with hx; omega)
  have h63 : Blk w6 (w.heap.size + 2) 26 #[.slice A3 n3 c3, .slice A5 n5 c5, .slice none 0 0] := by rw [hw6]; exact Blk.set_ hb53 1 _
  have h61 : Blk w6 w.heap.size 26 #[.slice AR nR cR, .slice AL nL cL, .slice AO nO cO] := Blk.grown (Blk.below HB41.out hb5 HB41.out.lt) hg6 (fun e => by injection e with e; omega)
  have h62 : Blk w6 (w.heap.size + 1) 26 #[.slice none 0 0, .slice none 0 0, .slice none 0 0] := Blk.grown (Blk.below HB42.out hb5 HB42.out.lt) hg6 (fun e => by injection e with e; omega)
  have hs6 : w.heap.size + 3 ≤ w6.heap.size := by have := hb5.size; have := hg6.size; omega
  have HS6 := Lib.hid hs6
  have HO3 := Lib.hid o3
  have HR36 := Lib.hid r3
  have HO5 := Lib.hid o5
  have HB06 := Lib.hid hb06
  have H63 := Lib.hid h63
  have H61 := Lib.hid h61
  have H62 := Lib.hid h62
  have HW6 := Lib.hid hw6
  clear ho5 hw6 hg6 hws hs3 hw34 hb3' o3 r3 o5 hb05 hb06 h63 h61 h62 hs6 hg5 hs5 hm5 hl5 hc5 hb5 hb53
  rw [← HW6.out]
  clear y1 z1
  go_wp2
  go_loopw [4] (fun i wr => ∃ (t : Nat) (v : Value) (xs : List Value), t ≤ nO ∧ i = vi t ∧ Blk wr (w.heap.size + 2) 26 #[.slice A3 n3 c3, .slice A5 n5 c5, v] ∧ CopT w6.heap.size wr v t xs f.opens ∧ w6.grownBy wr (some (w.heap.size + 2))) (fun i _ => nO - (intOf i).toNat)
  case atStart => exact ⟨0, _, [], Nat.zero_le _, rfl, H63.out, CopT.zero _ _ _, World.grownBy.refl _ _⟩
  case round =>
    obtain ⟨t, v, xs, ht, rfl, h3, hc, hg⟩ := hrel
    have hgs := hg.size
    have h1 := Blk.grown H61.out hg (fun e => by injection e with e; omega)
    have f2 := (h1.cell 2).trans (show _ = some (.slice AO nO cO) from rfl)
    have hbw : Below w.heap.size w wr := HB06.out.grown hg HB06.out.size (fun x hx => by injection hx with hx; omega)
    have HBW := Lib.hid hbw
    have H3 := Lib.hid h3
    have HC := Lib.hid hc
    have HG := Lib.hid hg
    have HGS := Lib.hid hgs
    by_cases hlt : t < nO
    · have htl : t < f.opens.length := by rw [HF.out.lO]; exact hlt
      obtain ⟨ao, rfl, hE⟩ := HF.out.tO t htl
      obtain ⟨A0, n0, c0, BR, mR, dR, BN, mN, dN, q0, q1, q2, hop⟩ := (hE.below hbw).cells
      have eo : f.opens[t] = opnO f.opens t := by unfold opnO; rw [List.getD_eq_getElem?_getD, List.getElem?_eq_getElem htl, Option.getD_some]
      rw [eo] at hop
      have HOU := Lib.hid (opened_up wr hop)
      have i1 : (0 : Int) ≤ (t : Int) := by omega
      have i2 : (t : Int) < (nO : Int) := by omega
      have hwt : IntKind.i64.wrap ((t : Int) + 1) = (t : Int) + 1 := IntWalk.i64_in _ (by have := HF.out.bO; omega)
      have HTB := Lib.hid (show (t + 1) * 72 ≤ 140737488355328 ∧ t + 1 ≤ maxLen by have := HF.out.bO; simp only [maxLen]; omega)
      have HLT := Lib.hid hlt
      clear h3 hc hg hgs hbw h1 hE hop eo htl
      go_wp2_with fail
      refine HOU.out.mono ?_
      rintro _ w2 ⟨C0, k0, d0, CR, kR, eR, CN, kN, eN, rfl, hop2, hb2⟩
      obtain ⟨w2x, hw2x⟩ : ∃ w2x, w2x = w2.alloc (.cells #[.slice C0 k0 d0, .slice CR kR eR, .slice CN kN eN] 70) := ⟨_, rfl⟩
      have hbx : Below w2.heap.size w2 w2x := by rw [hw2x]; exact (Below.refl _ _).alloc (Nat.le_refl _) _
      have hBx : Blk w2x w2.heap.size 70 #[.slice C0 k0 d0, .slice CR kR eR, .slice CN kN eN] := by rw [hw2x]; exact Blk.new _ _ _
      have x0 := (hBx.cell 0).trans (show _ = some (.slice C0 k0 d0) from rfl)
      have x1 := (hBx.cell 1).trans (show _ = some (.slice CR kR eR) from rfl)
      have x2 := (hBx.cell 2).trans (show _ = some (.slice CN kN eN) from rfl)
      have hb2x : Below wr.heap.size wr w2x := hb2.trans (hbx.mono hb2.size)
      have hB3x := Blk.below H3.out hb2x H3.out.lt
      have v2 := (hB3x.cell 2).trans (show _ = some v from rfl)
      have how : w2x.ownsRow w6.heap.size 70 3 v t xs := ownsRow_keep HC.out.own (fun g hg => hb2x.block g (World.ownsRow.lt HC.out.own g hg).2)
      have hopx : ∀ w'', KeepUp wr.heap.size w2x w'' → OpnAt w'' C0 k0 d0 (opnO f.opens t).l CR kR eR (opnO f.opens t).rs CN kN eN (opnO f.opens t).ns := fun w'' hk => hop2 w'' ⟨Nat.le_trans hbx.size hk.1, fun x h1 h2 => (hk.2 x h1 (Nat.lt_of_lt_of_le h2 hbx.size)).trans (hbx.block x h2)⟩
      have hbase : w6.heap.size ≤ w2x.heap.size := Nat.le_trans HGS.out hb2x.size
      have HW2X := Lib.hid hw2x
      have HB2X := Lib.hid hb2x
      have HB3X := Lib.hid hB3x
      have HOW := Lib.hid how
      have HOPX := Lib.hid hopx
      have HBASE := Lib.hid hbase
      clear hop2 hb2 hbx hBx hb2x hB3x how hopx hbase hw2x q0 q1 q2 f2
      go_upto_region 8 with (fail)
      rw [← HW2X.out]
      go_upto_region 6 with (at_builtin; refine wpList_appS 24 70 _ 3 72 Tryz.underlying24 info_opening (by rfl) (by omega) w2x _ [.slice C0 k0 d0, .slice CR kR eR, .slice CN kN eN] (by rfl) (by rfl) (by simp [Value.oneCell']) (by rfl) _ _ (by rfl) w6.heap.size v t xs (by rfl) (by rfl) HOW.out HTB.out.2 HTB.out.1 HBASE.out ?_; intro v' w3' p1 p2 p3; have hne2 : some (w.heap.size + 2) ≠ v.ownBlock := (fun hg => by have := (World.ownsRow.lt HC.out.own _ hg.symm).1; have := HS6.out; omega); have hB2 := Blk.grown HB3X.out p2 hne2; have y1 := (hB2.cell 2).trans (show _ = some v from rfl); have y2 := hB2.frozen 2; obtain ⟨A9, c9, hv9⟩ := row_form p1; subst hv9)
      obtain ⟨wn, hwn⟩ : ∃ wn, wn = w3'.setCell ⟨w.heap.size + 2, 2, none⟩ (.slice A9 (t + 1) c9) := ⟨_, rfl⟩
      have hgn : w3'.grownBy wn (some (w.heap.size + 2)) := by rw [hwn]; exact blk_grown
      have hs6' := HS6.out
      have hbn : Blk wn (w.heap.size + 2) 26 #[.slice A3 n3 c3, .slice A5 n5 c5, .slice A9 (t + 1) c9] := by rw [hwn]; exact Blk.set_ hB2 2 _
      have hcn : CopT w6.heap.size wn (.slice A9 (t + 1) c9) (t + 1) (xs ++ [.slice C0 k0 d0, .slice CR kR eR, .slice CN kN eN]) f.opens :=
        (CopT.step HC.out HGS.out HB2X.out HOPX.out p1 p2 p3).keep hgn.size (fun x h1 h2 => hgn.block x h2 (fun e => by injection e with e; omega))
      have hgg : w6.grownBy wn (some (w.heap.size + 2)) := by
        have g1 : w6.grownBy w2x (some (w.heap.size + 2)) := grown_any HG.out (grown_of_below HB2X.out none) (fun g hg => by simp at hg)
        have g2 : w6.grownBy w3' (some (w.heap.size + 2)) := grown_any g1 p2 (fun g hg => (World.ownsRow.lt HC.out.own g hg).1)
        exact ⟨hgn.os.trans g2.os, hgn.tape.trans g2.tape, hgn.output.trans g2.output, Nat.le_trans g2.size hgn.size, fun x hx hne => (hgn.block x (Nat.lt_of_lt_of_le hx g2.size) hne).trans (g2.block x hx hne)⟩
      have HN := Lib.hid (And.intro hbn (And.intro hcn hgg))
      have HWN := Lib.hid hwn
      clear hwn hgn hbn hcn hgg p1 p2 p3 hB2 hne2 hs6' x0 x1 x2 v2
      rw [← HWN.out]
      clear y1 y2
      go_wp2
      go_roundw
      case rel => exact ⟨t + 1, _, _, Nat.succ_le_of_lt HLT.out, by go_num, HN.out.1, HN.out.2.1, HN.out.2.2⟩
      case measure => simp [intOf]; omega
    · obtain rfl : t = nO := by omega
      obtain ⟨A9, c9, hv9⟩ := row_form hc.own
      subst hv9
      have h2 : Blk wr (w.heap.size + 1) 26 #[.slice none 0 0, .slice none 0 0, .slice none 0 0] := Blk.grown H62.out hg (fun e => by injection e with e; omega)
      have x0 := (h3.cell 0).trans (show _ = some (.slice A3 n3 c3) from rfl)
      have x1 := (h3.cell 1).trans (show _ = some (.slice A5 n5 c5) from rfl)
      have x2 := (h3.cell 2).trans (show _ = some (.slice A9 t c9) from rfl)
      have z0 := h2.frozen 0
      have z1 := h2.frozen 1
      have z2 := h2.frozen 2
      have k0 := (h2.cell 0).trans (show _ = some (.slice none 0 0) from rfl)
      have k1 := (h2.cell 1).trans (show _ = some (.slice none 0 0) from rfl)
      have k2 := (h2.cell 2).trans (show _ = some (.slice none 0 0) from rfl)
      obtain ⟨hset, hgr⟩ := blk_set3 h2 (.slice A3 n3 c3) (.slice A5 n5 c5) (.slice A9 t c9)
      have r0 := (hset.cell 0).trans (show _ = some (.slice A3 n3 c3) from rfl)
      have r1 := (hset.cell 1).trans (show _ = some (.slice A5 n5 c5) from rfl)
      have r2 := (hset.cell 2).trans (show _ = some (.slice A9 t c9) from rfl)
      have hbf := hbw.grown hgr hbw.size (fun x hx => by injection hx with hx; omega)
      have hfin := folded_fin (w := w) (w6 := w6) (wr := wr) HF.out HS6.out HO3.out HR36.out HO5.out hg (by rw [HF.out.lO]; exact hc) hgr hbf
      have HFIN := Lib.hid hfin
      clear hset hgr hbf hfin h1 h2 h3 hc hg hgs hbw
      go_wp2
      exact bodyPost_ret (v := .agg #[.slice A3 n3 c3, .slice A5 n5 c5, .slice A9 t c9]) (by simp [results, Tryz.results7, go_sem, r0, r1, r2]) rfl HFIN.out
end Go.Proofs.YtflkiddmakeabaaGreatDoor

/- An argument that is a slice of Openings, opened. -/
set_option linter.unusedVariables false
namespace Go.Proofs.YtflkiddmakeabaaGreatDoor
open Go.RowKit Go.ChangeShapes Go.WideShapes Go.ChangeAt Go.Deep
theorem bytesF : Tryz.prog.bytesOf 70 = 72 := by kernel_rfl
theorem cellsF : Tryz.prog.cellsOf 70 = 3 := by kernel_rfl
/-- what is inside an element weighs no more than memory holds -/
theorem sized_elemF {H : Type} {P : Program} {ts : List TypeId} {ds : List (DataW H)} (h : (DataW.weightsEach P ts ds).all (· ≤ reachBytes) = true) {j : Nat} {t e : TypeId} {fs : Array Field} {elems spare parts : List (DataW H)} (ht : ts[j]? = some t) (hd : ds[j]? = some (.slice elems spare)) (hu : P.underlying t = some (.slice e)) (hv : P.underlying e = some (.struct fs))
    (hm : .agg parts ∈ elems) : (DataW.weightsEach P (fs.toList.map (·.type)) parts).all (· ≤ reachBytes) = true := by
  rw [List.all_eq_true]
  intro n hn
  have h1 : n ∈ DataW.weights P e (.agg parts) := by simp only [DataW.weights, hv]; exact hn
  have h2 := weightsAll_mem hm h1
  exact List.all_eq_true.1 h n (DataW.weights_mem_each ht hd n (by simp only [DataW.weights, hu]; exact List.mem_cons_of_mem _ (List.mem_append_left _ h2)))
set_option maxRecDepth 100000 in
set_option maxHeartbeats 1000000 in
theorem arg_opens {H : Type} {enc : TypeId × Value → H} {tys : List TypeId} {ds : List (DataW H)} (hsz : (DataW.weightsEach Tryz.prog tys ds).all (· ≤ reachBytes) = true) {j : Nat} (ht : tys[j]? = some 24) {W : World} {n : Nat} {u : Value} {y : DataW H × List MemPlace} (hd : ds[j]? = some y.1)
    (hf : DataW.trod enc Tryz.prog W 0 (fun _ => true) true n 24 [u] = some y) : ∃ A len cap os, u = .slice A len cap ∧ os.length = len ∧ len ≤ 1954687338211 ∧ OT W A os := by
  rcases open_slice Tryz.underlying24 hf with ⟨hcs, hx⟩ | ⟨a, len, cap, m, n', D, Pl, hcs, _, hl, hm, hmm, hx, hi⟩
  · simp at hcs
    subst hcs
    exact ⟨none, 0, 0, [], rfl, rfl, by omega, OT.nil _ _⟩
  · simp at hcs
    subst hcs
    rw [hx] at hd
    simp only [if_true] at hmm
    subst hmm
    rw [cellsF] at hi
    have hmx : len ≤ 1954687338211 := by
      have h := sized_slice hsz (j := j) (t := 24) (e := 70) ht hd Tryz.underlying24
      rw [bytesF] at h
      simp only [List.length_map, List.length_range, reachBytes] at h
      omega
    have hel : ∀ k, k < len → ∃ o : OpnI, OTE W a k o := fun k hk => by
      obtain ⟨cs', hc, ht'⟩ := hi k (by omega)
      obtain ⟨ys, n2, _, hy, hlen, hyl, hg⟩ := DataW.trod_struct Tryz.underlying70 ht'
      obtain ⟨_, hcl, hat⟩ := World.cells?_some hc
      simp only [Prod.mk.injEq] at hy
      obtain ⟨hyD, _⟩ := hy
      have hin : DataW.agg (ys.map (·.1)) ∈ (List.range len).map D := List.mem_map.2 ⟨k, List.mem_range.2 hk, hyD⟩
      have hsz2 := sized_elemF hsz ht hd Tryz.underlying24 Tryz.underlying70 hin
      have hcl3 : cs'.length = 3 := hcl
      have hys3 : ys.length = 3 := hyl
      obtain ⟨c0, c1, c2, rfl⟩ : ∃ a b c, cs' = [a, b, c] := by
        match cs', hcl3 with
        | [a, b, c], _ => exact ⟨a, b, c, rfl⟩
      obtain ⟨y0, y1, y2, rfl⟩ : ∃ a b c, ys = [a, b, c] := by
        match ys, hys3 with
        | [a, b, c], _ => exact ⟨a, b, c, rfl⟩
      have k1 : Tryz.prog.cellsOf 22 = 1 := by kernel_rfl
      have k2 : Tryz.prog.cellsOf 23 = 1 := by kernel_rfl
      have g0 := hg 0 _ rfl
      have g1 := hg 1 _ rfl
      have g2 := hg 2 _ rfl
      change DataW.trod enc Tryz.prog W 0 (fun _ => true) true n2 22 ((([c0, c1, c2] : List Value).drop 0).take (Tryz.prog.cellsOf 22)) = some y0 at g0
      change DataW.trod enc Tryz.prog W 0 (fun _ => true) true n2 23 ((([c0, c1, c2] : List Value).drop 1).take (Tryz.prog.cellsOf 23)) = some y1 at g1
      change DataW.trod enc Tryz.prog W 0 (fun _ => true) true n2 23 ((([c0, c1, c2] : List Value).drop 2).take (Tryz.prog.cellsOf 23)) = some y2 at g2
      rw [k1] at g0
      rw [k2] at g1 g2
      obtain ⟨A0, l0, e0', zs, e0, hz⟩ := arg_ints hsz2 (j := 0) rfl rfl g0
      obtain ⟨A1, l1, e1', rs, e1, hr⟩ := arg_rows hsz2 (j := 1) rfl rfl g1
      obtain ⟨A2, l2, e2', ns, e2, hn⟩ := arg_rows hsz2 (j := 2) rfl rfl g2
      subst e0 e1 e2
      have h0 := hat 0 (by omega)
      have h1 := hat 1 (by omega)
      have h2 := hat 2 (by omega)
      rw [add_of_add] at h0 h1 h2
      exact ⟨⟨zs, rs, ns⟩, A0, l0, e0', A1, l1, e1', A2, l2, e2', h0, h1, h2, hz.len, hr.m.len, hn.m.len, by have := hz.reach; have := hz.cap; omega, hr.n24, hn.n24, hn.m.cap, hz.i64, hr.r8, hn.r8, hz.sl, hr.m.tb, hn.m.tb⟩
    have hex : ∃ os : List OpnI, os.length = len ∧ ∀ k (hk : k < os.length), OTE W a k os[k] := by
      have := hel
      clear hi hd hx hmx
      have key : ∀ n, n ≤ len → ∃ os : List OpnI, os.length = n ∧ ∀ k (hk : k < os.length), OTE W a k os[k] := fun n => by
        induction n with
        | zero => exact fun _ => ⟨[], rfl, fun k hk => by simp at hk⟩
        | succ n ih =>
          intro hn
          obtain ⟨os, h1, h2⟩ := ih (by omega)
          obtain ⟨o, ho⟩ := hel n (by omega)
          refine ⟨os ++ [o], by simp [h1], fun k hk => ?_⟩
          by_cases e : k < os.length
          · rw [List.getElem_append_left e]
            exact h2 k e
          · have ek : k = n := by simp at hk; omega
            subst ek
            rw [List.getElem_append_right (by omega)]
            simp only [h1, Nat.sub_self, List.getElem_singleton]
            exact ho
      exact key len (Nat.le_refl _)
    obtain ⟨os, h1, h2⟩ := hex
    exact ⟨some a, len, m, os, rfl, h1, hmx, fun k hk => ⟨a, rfl, h2 k hk⟩⟩
end Go.Proofs.YtflkiddmakeabaaGreatDoor

/- The walk of the law FoldChecks. -/
set_option linter.unusedVariables false
namespace Go.Proofs.YtflkiddmakeabaaGreatDoor
open Go.RowKit Zp
theorem sl_other {w w' : World} {A : Option Addr} {xs : List Int} {x : Nat} (h : SL w A xs) (hg : w.grownBy w' (some x)) (hne : ∀ ad, A = some ad → ad.block ≠ x) : SL w' A xs := by
  refine ⟨h.1, fun hn => ?_⟩
  obtain ⟨ad, e, hb, hc⟩ := h.2 hn
  exact ⟨ad, e, Nat.lt_of_lt_of_le hb hg.size, fun j u hu => (World.cell?_of_block (by rw [block_of_add]; exact hg.block _ hb (fun e' => by injection e' with e'; exact hne ad e e'))).trans (hc j u hu)⟩
theorem KeepUp.grown {B : Nat} {w' w2 w3 : World} {x : Nat} (h : KeepUp B w' w2) (hg : w2.grownBy w3 (some x)) (hx : x < B) : KeepUp B w' w3 :=
  ⟨Nat.le_trans h.1 hg.size, fun y h1 h2 => (hg.block y (Nat.lt_of_lt_of_le h2 h.1) (fun e => by injection e with e; omega)).trans (h.2 y h1 h2)⟩
theorem KeepUp.below {B : Nat} {w' w2 w3 : World} (h : KeepUp B w' w2) (hb : Below w2.heap.size w2 w3) : KeepUp B w' w3 :=
  ⟨Nat.le_trans h.1 hb.size, fun y h1 h2 => (hb.block y (Nat.lt_of_lt_of_le h2 h.1)).trans (h.2 y h1 h2)⟩
theorem KeepUp.refl (B : Nat) (w : World) : KeepUp B w w := ⟨Nat.le_refl _, fun _ _ _ => rfl⟩
theorem fold_args {w : World} {AR : Option Addr} {nR cR : Nat} {rs : List (List Int)} (hR : ArgMS w AR nR cR rs) {AL : Option Addr} {nL cL : Nat} {last : List Int} (hL : ArgS w AL nL cL last) {AO : Option Addr} {nO cO : Nat} {os : List OpnI} (hO : os.length = nO ∧ nO ≤ 1954687338211 ∧ OT w AO os) : FAt w AR nR cR AL nL cL AO nO cO ⟨rs, last, os⟩ :=
  ⟨hR.m.len, hL.len, hO.1, hR.n24, by have := hL.reach; have := hL.cap; omega, hO.2.1, hL.i64, hR.r8, hR.m.tb, hL.sl, hO.2.2⟩
set_option maxRecDepth 100000 in
set_option maxHeartbeats 4000000 in
theorem fchecks_walk (w : World) (p : Int) (hp : I64 p) (size : Int) (hs : I64 size) (t : Int) (ht : I64 t) (k : Int) (hk : I64 k) (asked : Int) (hka : I64 asked) (AB : Option Addr) (nB cB : Nat) (label : List Int) (hB : ArgS w AB nB cB label)
    (AR : Option Addr) (nR cR : Nat) (rs : List (List Int)) (hR : ArgMS w AR nR cR rs) (AL : Option Addr) (nL cL : Nat) (last : List Int) (hL : ArgS w AL nL cL last) (AO : Option Addr) (nO cO : Nat) (os : List OpnI) (hO : os.length = nO ∧ nO ≤ 1954687338211 ∧ OT w AO os) (hT : Typed w) :
    Calls Tryz.prog 3 #[vi p, vi size, vi t, vi k, vi asked, .slice AB nB cB, .agg #[.slice AR nR cR, .slice AL nL cL, .slice AO nO cO]] w fun e w' => SaysW (.bool true) w e w' := by
  have hb0 : Below w.heap.size w (w.alloc (.cells #[.slice AR nR cR, .slice AL nL cL, .slice AO nO cO] 26)) := (Below.refl _ _).alloc (Nat.le_refl _) _
  have hB0 := Blk.new w 26 #[.slice AR nR cR, .slice AL nL cL, .slice AO nO cO]
  obtain ⟨w0, hw0⟩ : ∃ w0, w0 = w.alloc (.cells #[.slice AR nR cR, .slice AL nL cL, .slice AO nO cO] 26) := ⟨_, rfl⟩
  rw [← hw0] at hb0 hB0
  have HW0 := Lib.hid hw0
  have HB0 := Lib.hid hb0
  have HBX := Lib.hid hB0
  have hT0 := hT.below hb0
  by_cases hD : HasDom2 p size t
  · obtain ⟨⟨h3, hm, hpr⟩, n, rfl, hsz, h0⟩ := hD
    obtain ⟨q, rfl⟩ := Int.eq_ofNat_of_zero_le (a := p) (by omega)
    rw [Int.toNat_natCast] at hpr hsz
    haveI := hpr.ne
    have hqm : q ≤ 2147483647 := by omega
    have HM := Lib.hid (made5_yes q n (by omega) hqm hpr t ht hsz h0 w0 hT0)
    have HF := Lib.hid (fold_args (cO := cO) hR hL hO)
    have HLB := Lib.hid hB
    have HSZ := Lib.hid hsz
    have HK := Lib.hid hk
    clear hw0 hb0 hB0 hT0 hT hp hs ht hk hka hpr hsz h0 h3 hm hR hL hO hB
    go_enter Tryz.func3, Tryz.ntmps3
    go_upto_region 1 with (fail)
    rw [← HW0.out]
    go_wp2_with fail
    refine HM.out.mono ?_
    rintro _ w1 ⟨b, Dd, sp, rfl, hDm, hsp, hb1⟩
    have hb01 := HB0.out.trans (hb1.mono HB0.out.size)
    rcases hsp with ⟨h23, rfl⟩ | ⟨h23, sg, b', kk, z, oo, rfl, hsl, F, G⟩
    · have hbf : Below w.heap.size w (w1.alloc (.cells #[vi q, vi n, vi (fv (el q t)), vi (fv (rootI q (n : Int)))] 30)) := hb01.alloc hb01.size _
      have HBF := Lib.hid hbf
      clear hbf hb01 hb1 hDm
      go_wp2
      go_ret
      exact ⟨rfl, HBF.out⟩
    · have hPK : Pk q kk := ⟨by omega, hqm, G.k2, G.klt (by omega), G.least, G.cop⟩
      obtain ⟨s, hsE⟩ : ∃ s, s = el q t := ⟨_, rfl⟩
      obtain ⟨rt, hrE⟩ : ∃ rt, rt = rootI q (n : Int) := ⟨_, rfl⟩
      rw [← hsE] at hDm
      rw [← hsE, ← hrE]
      obtain ⟨w2, hw2⟩ : ∃ w2, w2 = w1.alloc (.cells #[vi q, vi n, vi (fv s), vi (fv rt)] 30) := ⟨_, rfl⟩
      have hba : Below w1.heap.size w1 w2 := by rw [hw2]; exact (Below.refl _ _).alloc (Nat.le_refl _) _
      have hB2 : Blk w2 w1.heap.size 30 #[vi q, vi n, vi (fv s), vi (fv rt)] := by rw [hw2]; exact Blk.new _ _ _
      have hsz2 : w2.heap.size = w1.heap.size + 1 := by rw [hw2]; simp
      have hb02 := hb01.trans (hba.mono hb01.size)
      have HCN := Lib.hid (chains5_any q w1.heap.size b' sg kk z oo hPK AB nB cB label HLB.out.len HLB.out.i64 (by have := HLB.out.reach; have := HLB.out.cap; omega) w2 (F.below hba (Nat.le_refl _)) (G.below hba hsl) (HLB.out.sl.below hb02))
      have HD2 := Lib.hid (hDm.below hba hDm.fld.le)
      have HF2 := Lib.hid (F.below hba (Nat.le_refl _))
      have HG2 := Lib.hid (G.below hba hsl)
      have HPK := Lib.hid hPK
      have HW2 := Lib.hid hw2
      have HB2 := Lib.hid hB2
      have HS2 := Lib.hid hsz2
      have HB02 := Lib.hid hb02
      have HSL := Lib.hid hsl
      have HRT := Lib.hid hrE
      have hBX2 := Blk.below (Blk.below HBX.out hb1 HBX.out.lt) hba (Blk.below HBX.out hb1 HBX.out.lt).lt
      have HBX2 := Lib.hid hBX2
      have HB01 := Lib.hid hb01.size
      have HLC := checks5_both q kk hPK n HSZ.out s k asked HK.out ⟨rs, last, os⟩ (digL q kk (2 :: label))
      clear hb1 hDm hb01 F G hsl hPK hsE hrE hw2 hba hB2 hsz2 hb02 hBX2
      obtain ⟨ok, l, D', hCK, hRK⟩ := HLC
      have HCK := Lib.hid hCK
      have HRK := Lib.hid hRK
      clear hCK hRK
      go_upto_region 4 with (fail)
      rw [← HW2.out]
      go_wp2_with fail
      refine HCN.out.mono ?_
      rintro _ w3 ⟨m, rfl, hC, hM, hlt, hb3⟩
      have hb03 := HB02.out.trans (hb3.mono HB02.out.size)
      have hBX3 := Blk.below HBX2.out hb3 HBX2.out.lt
      have d0 := (hBX3.cell 0).trans (show _ = some (.slice AR nR cR) from rfl)
      have d1 := (hBX3.cell 1).trans (show _ = some (.slice AL nL cL) from rfl)
      have d2 := (hBX3.cell 2).trans (show _ = some (.slice AO nO cO) from rfl)
      have HFD := Lib.hid (foldeds_any w3 (HF.out.below hb03))
      have HD3 := Lib.hid (HD2.out.below hb3 HD2.out.fld.le)
      have HF3 := Lib.hid (HF2.out.below hb3 HF2.out.le)
      have HG3 := Lib.hid (HG2.out.below hb3 (block_lt_of_cell HG2.out.c0))
      have HC3 := Lib.hid hC
      have HM3 := Lib.hid hM
      have HLT := Lib.hid hlt
      have HB03 := Lib.hid hb03
      have HB23 := Lib.hid (Blk.below HB2.out hb3 HB2.out.lt)
      have HBX3 := Lib.hid hBX3
      have HS3 := Lib.hid hb3.size
      clear hb3 hb03 hBX3 hC hM hlt
      go_wp2_with fail
      refine HFD.out.mono ?_
      rintro _ w4 ⟨CR, kR, eR, CL, kL, eL, CO, kO, eO, rfl, hf4, he4, hb4⟩
      obtain ⟨w5, hw5⟩ : ∃ w5, w5 = w4.alloc (.cells #[.slice CR kR eR, .slice CL kL eL, .slice CO kO eO] 26) := ⟨_, rfl⟩
      have hb45 : Below w4.heap.size w4 w5 := by rw [hw5]; exact (Below.refl _ _).alloc (Nat.le_refl _) _
      have hBO : Blk w5 w4.heap.size 26 #[.slice CR kR eR, .slice CL kL eL, .slice CO kO eO] := by rw [hw5]; exact Blk.new _ _ _
      have hb35 := hb4.trans (hb45.mono hb4.size)
      have HW5 := Lib.hid hw5
      have HF4 := Lib.hid hf4
      have HE4 := Lib.hid he4
      have HKU := Lib.hid ((KeepUp.refl w3.heap.size w4).below hb45)
      have HBO := Lib.hid hBO
      have HB35 := Lib.hid hb35
      have HB4 := Lib.hid hb4
      have hclt : w2.heap.size < w3.heap.size := HC3.out.lt
      have HCL := Lib.hid hclt
      have hML : m < w3.heap.size := HM3.out.lt
      have HML := Lib.hid hML
      have HCKC := Lib.hid (HCK.out w1.heap.size b' sg z oo w2.heap.size Dd b w1.heap.size CR kR eR CL kL eL CO kO eO w5 (HF3.out.below HB35.out HF3.out.le) (HG3.out.below HB35.out (block_lt_of_cell HG3.out.c0)) (by have := HS2.out; omega) (by have := HSL.out; have := HS2.out; omega) (HC3.out.below HB35.out) (HD3.out.below HB35.out HD3.out.fld.le) (by have := HS2.out; omega)
        (fun w' hg => HF4.out w' (HKU.out.grown hg hclt)) (fun k hk => by
          obtain ⟨ao, A0, n0, c0, BR, mR, dR, BN, mN, dN, e1, e2⟩ := HE4.out k hk
          exact ⟨ao, A0, n0, c0, BR, mR, dR, BN, mN, dN, e1, fun w' hg => e2 w' (HKU.out.grown hg hclt)⟩))
      clear hf4 he4 hb4 hb45 hBO hb35 hw5 d0 d1 d2 hclt hML
      go_upto_region 8 with (fail)
      rw [← HW5.out]
      have x0 := (HBO.out.cell 0).trans (show _ = some (.slice CR kR eR) from rfl)
      have x1 := (HBO.out.cell 1).trans (show _ = some (.slice CL kL eL) from rfl)
      have x2 := (HBO.out.cell 2).trans (show _ = some (.slice CO kO eO) from rfl)
      go_wp2_with fail
      refine HCKC.out.mono ?_
      rintro _ w6 ⟨⟨B1, n1, c1, rfl, hl1, hr1, sl1, hi1, hlo1⟩, hC6, hg6⟩
      have hc0 : w.heap.size ≤ w2.heap.size := HB02.out.size
      have hb05 := HB03.out.trans (HB35.out.mono HB03.out.size)
      have hb06 : Below w.heap.size w w6 := hb05.grown hg6 hb05.size (fun x hx => by injection hx with hx; omega)
      have hBX5 := Blk.below HBX3.out HB35.out HBX3.out.lt
      have hBX6 := Blk.grown hBX5 hg6 (fun e => by injection e with e; have := HBX2.out.lt; omega)
      have hB26 := Blk.grown (Blk.below HB23.out HB35.out HB23.out.lt) hg6 (fun e => by injection e with e; have := HS2.out; omega)
      have hM6 := (HM3.out.below HB35.out).farC5 (HC3.out.below HB35.out) hg6
      have hs45 : w3.heap.size ≤ w4.heap.size := HB4.out.size
      have hBO6 := Blk.grown HBO.out hg6 (fun e => by injection e with e; have := HCL.out; omega)
      have HKU6 := Lib.hid (HKU.out.grown hg6 HCL.out)
      have hrk := HRK.out m AR nR cR AL nL cL AO nO cO w w6 HF.out hb06 (by have := HLT.out; omega) hM6
      rw [← HRT.out] at hrk
      have HRKC := Lib.hid hrk
      have HB06 := Lib.hid hb06
      have HBX6 := Lib.hid hBX6
      have HBO6 := Lib.hid hBO6
      have HM6 := Lib.hid hM6
      have HC6 := Lib.hid hC6
      have HL1 := Lib.hid (And.intro hl1 (And.intro hr1 (And.intro sl1 hlo1)))
      have HSW5 := Lib.hid HB35.out.size
      clear hc0 hb05 hb06 hBX5 hrk x0 x1 x2 hl1 hr1 sl1 hi1 hlo1 hg6 hC6 hM6 hs45 hBO6
      have d0 := (hBX6.cell 0).trans (show _ = some (.slice AR nR cR) from rfl)
      have d1 := (hBX6.cell 1).trans (show _ = some (.slice AL nL cL) from rfl)
      have d2 := (hBX6.cell 2).trans (show _ = some (.slice AO nO cO) from rfl)
      have r0 := (hB26.cell 0).trans (show _ = some (vi q) from rfl)
      have r1 := (hB26.cell 1).trans (show _ = some (vi n) from rfl)
      have r2 := (hB26.cell 2).trans (show _ = some (vi (fv s)) from rfl)
      have r3 := (hB26.cell 3).trans (show _ = some (vi (fv rt)) from rfl)
      clear hBX6 hB26
      go_wp2_with fail
      refine HRKC.out.mono ?_
      rintro _ w7 ⟨⟨B2, n2, c2, rfl, hl2, hr2, sl2, hi2, hlo2⟩, hM7, hg7⟩
      have hs5 := HSW5.out
      have sl17 : SL w7 B1 l := sl_other HL1.out.2.2.1 hg7 (fun ad e => by have := HL1.out.2.2.2 ad e; have := HML.out; omega)
      have hC7 := HC6.out.farM5 HM6.out hg7
      have hmw : w.heap.size ≤ m := by have := HLT.out; have := HB02.out.size; omega
      have hb07 : Below w.heap.size w w7 := HB06.out.grown hg7 HB06.out.size (fun x hx => by injection hx with hx; omega)
      have hBX7 := Blk.grown HBX6.out hg7 (fun e => by injection e with e; have := HLT.out; have := HBX2.out.lt; omega)
      have hBO7 := Blk.grown HBO6.out hg7 (fun e => by injection e with e; have := HML.out; have := HB4.out.size; omega)
      have HIS := Lib.hid (ints_sameH B1 B2 n1 c1 n2 c2 l l HL1.out.1 hl2 rfl (by have := HL1.out.2.1; omega) w7 sl17 sl2)
      have HKU7 := Lib.hid (HKU6.out.grown hg7 HML.out)
      have HB07 := Lib.hid hb07
      have HBX7 := Lib.hid hBX7
      have HBO7 := Lib.hid hBO7
      have HM7 := Lib.hid hM7
      have HC7 := Lib.hid hC7
      clear hs5 sl17 hC7 hmw hb07 hBX7 hBO7 d0 d1 d2 r0 r1 r2 r3 hl2 hr2 sl2 hi2 hlo2 hM7 hg7
      go_wp2_with fail
      refine HIS.out.mono ?_
      rintro _ _ ⟨rfl, k1, rfl⟩
      go_wp2_with fail
      refine (chdigest_any w2.heap.size sg D' (w7.drewN k1) (HC7.out.drewN k1)).mono ?_
      rintro _ w8 ⟨v8, rfl, ho8, hb8⟩
      obtain ⟨A8, n8, c8, rfl, hl8, _, hm8, sl8⟩ := ho8.shapeN
      have hb78 : Below w7.heap.size w7 w8 := (below_drewN (Below.refl _ _) k1).trans hb8
      obtain ⟨g, cap, cs, hRO, hbg, hslm, hDl, hcap, hcm, hDi⟩ := HM7.out.below hb78
      have m1 := (Blk.cell hRO 1).trans (show _ = some (.slice (some ⟨g, 0, none⟩) 4 cap) from rfl)
      have HIT := Lib.hid (ints_sameH A8 (some ⟨g, 0, none⟩) n8 c8 4 cap D' D' hl8 hDl rfl (by have := hl8; omega) w8 sl8 hslm)
      have HB78 := Lib.hid hb78
      clear hRO hbg hslm hDl hcap hcm hDi hl8 hm8 sl8 ho8 hb8 hb78
      go_wp2_with fail
      refine HIT.out.mono ?_
      rintro _ _ ⟨rfl, k3, rfl⟩
      have hb08 := HB07.out.trans (HB78.out.mono HB07.out.size)
      have hBX8 := Blk.below HBX7.out HB78.out HBX7.out.lt
      have hBO8 := Blk.below HBO7.out HB78.out HBO7.out.lt
      have d0 := (hBX8.cell 0).trans (show _ = some (.slice AR nR cR) from rfl)
      have d1 := (hBX8.cell 1).trans (show _ = some (.slice AL nL cL) from rfl)
      have d2 := (hBX8.cell 2).trans (show _ = some (.slice AO nO cO) from rfl)
      have x0 := (hBO8.cell 0).trans (show _ = some (.slice CR kR eR) from rfl)
      have x1 := (hBO8.cell 1).trans (show _ = some (.slice CL kL eL) from rfl)
      have x2 := (hBO8.cell 2).trans (show _ = some (.slice CO kO eO) from rfl)
      have HFS := Lib.hid (foldsame_any rfl (w8.drewN k3) (HF4.out _ (((HKU7.out.below HB78.out)).below (below_drewN (Below.refl _ _) k3))) (HF.out.below (below_drewN hb08 k3)))
      have HB09 := Lib.hid (below_drewN hb08 k3)
      clear hb08 hBX8 hBO8 m1
      go_wp2_with fail
      refine HFS.out.mono ?_
      rintro _ w9 ⟨rfl, hb9⟩
      have HBF := Lib.hid (HB09.out.trans (hb9.mono HB09.out.size))
      clear hb9 d0 d1 d2 x0 x1 x2
      cases ok <;> (go_wp2; go_ret; exact ⟨rfl, HBF.out⟩)
  · have HN := Lib.hid (made5_nodom p size t hp hs ht hD w0 hT0)
    clear hD hw0 hb0 hB0 hT0 hT hp hs ht hk hka hR hL hO hB
    go_enter Tryz.func3, Tryz.ntmps3
    go_upto_region 1 with (fail)
    rw [← HW0.out]
    go_wp2_with fail
    refine HN.out.mono ?_
    rintro _ w1 ⟨rfl, hb1⟩
    have hb01 := HB0.out.trans (hb1.mono HB0.out.size)
    have HBF := Lib.hid (hb01.alloc hb01.size (.cells #[vi 0, vi 0, vi 0, vi 0] 30))
    clear hb1 hb01
    go_wp2
    go_ret
    exact ⟨rfl, HBF.out⟩
end Go.Proofs.YtflkiddmakeabaaGreatDoor
