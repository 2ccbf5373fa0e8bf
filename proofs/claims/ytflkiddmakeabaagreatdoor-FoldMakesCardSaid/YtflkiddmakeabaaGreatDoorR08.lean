/- A bundle of texts: Rch, Fm, Nf, Ng, Fz, Pn, Tc, Rt1, Ru, Rw, Rx. -/
import Derived.Test.YtflkiddmakeabaaGreatDoorR07
import Derived.Test.YtflkiddmakeabaaGreatDoorR04
import Derived.BigQuiet
import Derived.Deep.DeepCutAuto
import Derived.Test.YtflkiddmakeabaaGreatDoorR01
import Derived.IntWalk
import Derived.Test.YtflkiddmakeabaaGreatDoorR00
import Derived.Deep.LoopGhost
import Derived.Deep.QuietTactic
import Derived.Test.YtflkiddmakeabaaGreatDoorR06
import Derived.Test.YtflkiddmakeabaaGreatDoorR05
/- The walks of the reference's chains: Step, Begin, Draw, Place. -/
set_option linter.unusedVariables false
namespace Go.Proofs.YtflkiddmakeabaaGreatDoor
open Go.RowKit Zp

/-- the reference's object of a chain -/
def RO (w : World) (m : Nat) (p : Int) (v : Value) : Prop := Blk w m 44 #[vi p, v]
/-- the reference's chain, by its digest -/
def RCh (w : World) (m : Nat) (p : Int) (D : List Int) : Prop :=
  ∃ (g cap : Nat) (cs : Array Value), RO w m p (.slice (some ⟨g, 0, none⟩) 4 cap) ∧ Blk w g 3 cs ∧ SL w (some ⟨g, 0, none⟩) D ∧ D.length = 4 ∧ 4 ≤ cap ∧ cap ≤ maxLen ∧ ∀ x ∈ D, I64 x
theorem RCh.lt {w : World} {m : Nat} {p : Int} {D : List Int} (h : RCh w m p D) : m < w.heap.size := by
  obtain ⟨g, cap, cs, h1, _⟩ := h
  exact Blk.lt h1
theorem RCh.below {w w' : World} {m : Nat} {p : Int} {D : List Int} (h : RCh w m p D) (hb : Below w.heap.size w w') : RCh w' m p D := by
  obtain ⟨g, cap, cs, h1, h2, h3, h4, h5, h6, h7⟩ := h
  exact ⟨g, cap, cs, Blk.below h1 hb (Blk.lt h1), h2.below hb h2.lt, h3.below hb, h4, h5, h6, h7⟩
/-- kept while another block, of another type than ints, is turned -/
theorem RCh.far {w w' : World} {m x : Nat} {p : Int} {D : List Int} {t : TypeId} {cx : Array Value} (h : RCh w m p D) (hx : Blk w x t cx) (ht : t ≠ 3) (hg : w.grownBy w' (some x)) (hne : m ≠ x) : RCh w' m p D := by
  obtain ⟨g, cap, cs, h1, h2, h3, h4, h5, h6, h7⟩ := h
  have hgx : g ≠ x := Blk.ne_ h2 hx (fun e => ht e.symm)
  exact ⟨g, cap, cs, Blk.grown h1 hg (by intro e; injection e with e; exact hne e), h2.grown hg (by intro e; injection e with e; exact hgx e), h3.far hg hgx, h4, h5, h6, h7⟩
/-- kept while other blocks are turned -/
theorem RCh.keepR {w w' : World} {m : Nat} {p : Int} {D : List Int} {row : Option Nat} (h : RCh w m p D) (hg : w.grownBy w' row) (hm : row ≠ some m) (hd : ∀ g cap, w.cell? ⟨m, 1, none⟩ = some (.slice (some ⟨g, 0, none⟩) 4 cap) → row ≠ some g) : RCh w' m p D := by
  obtain ⟨g, cap, cs, h1, h2, h3, h4, h5, h6, h7⟩ := h
  have hgx := hd g cap ((Blk.cell h1 1).trans rfl)
  refine ⟨g, cap, cs, Blk.grown h1 hg (fun e => hm e.symm), h2.grown hg (fun e => hgx e.symm), ?_, h4, h5, h6, h7⟩
  refine ⟨h3.1, fun hn => ?_⟩
  obtain ⟨ad, e, hb, hc⟩ := h3.2 hn
  injection e with e
  subst e
  exact ⟨_, rfl, Nat.lt_of_lt_of_le hb hg.size, fun j u hu => (World.cell?_of_block (by rw [block_of_add]; exact hg.block g h2.lt (fun e => hgx e.symm))).trans (hc j u hu)⟩
theorem grown_any {a b d : World} {c : Nat} {row : Option Nat} (h : a.grownBy b (some c)) (h' : b.grownBy d row) (hg : ∀ g, row = some g → a.heap.size ≤ g) : a.grownBy d (some c) :=
  ⟨h'.os.trans h.os, h'.tape.trans h.tape, h'.output.trans h.output, Nat.le_trans h.size h'.size, fun x hx hne => (h'.block x (Nat.lt_of_lt_of_le hx h.size) (fun e => by have := hg x e.symm; omega)).trans (h.block x hx hne)⟩
/-- what is left of a step -/
def RStepIs (m : Nat) (p : Int) (D : List Int) (w : World) (e : Ending) (w' : World) : Prop := (∃ r, e = .returned r) ∧ RCh w' m p D ∧ w.grownBy w' (some m) ∧ DigNew w' m w.heap.size
structure Pk (p k : Nat) : Prop where
  p3 : 3 ≤ p
  pm : p ≤ 2147483647
  k2 : 2 ≤ k
  kp : k < p
  least : ∀ j, 2 ≤ j → j < k → Nat.gcd j (p - 1) ≠ 1
  cop : Nat.gcd k (p - 1) = 1
set_option maxRecDepth 100000 in
set_option maxHeartbeats 2000000 in
theorem rstep_core (p k : Nat) [NeZero p] (K : Pk p k) (kind : Int) (hki : I64 kind) (m : Nat) (A : Option Addr) (nA cA : Nat) (D : List Int) (hD : D.length = nA) (hD4 : nA ≤ 4) (hDI : ∀ x ∈ D, I64 x) (B : Option Addr) (n cB : Nat) (l : List Int) (hl : l.length = n) (hlI : ∀ x ∈ l, I64 x) (hr : n * 8 ≤ 140737488351232) (w : World) (hm : RO w m p (.slice A nA cA)) (hsD : SL w A D) (hsl : SL w B l) :
    Calls Tryz.prog 39 #[.pointer (some ⟨m, 0, none⟩), vi kind, .slice B n cB] w fun e w' => RStepIs m p (digL p k (kind :: (D ++ l))) w e w' := by
  have hml := Blk.lt hm
  have hba : Below w.heap.size w (w.alloc (.cells #[vi kind] 3)) := (Below.refl _ _).alloc (Nat.le_refl _) _
  have ho1 : Own (w.alloc (.cells #[vi kind] 3)) w.heap.size (.slice (some ⟨w.heap.size, 0, none⟩) 1 1) [kind] := own_lit w w.heap.size [kind] (Nat.le_refl _) (by simp [maxLen])
  obtain ⟨W, hW⟩ : ∃ W, W = w.alloc (.cells #[vi kind] 3) := ⟨_, rfl⟩
  obtain ⟨b0, hb0⟩ : ∃ b0, b0 = w.heap.size := ⟨_, rfl⟩
  rw [← hW, ← hb0] at ho1
  rw [← hW] at hba
  have hWs : b0 < W.heap.size := by rw [hW, hb0]; simp
  have hmW := Blk.below hm hba hml
  have hm1 := (Blk.cell hmW 1).trans (show _ = some (Value.slice A nA cA) from rfl)
  have HSD := Lib.hid (hsD.below hba)
  have HSL := Lib.hid hsl
  have HMM := Lib.hid hm
  have HDL := Lib.hid hD
  have HLL := Lib.hid hl
  have HMW := Lib.hid hmW
  have HBA := Lib.hid hba
  have HH := Lib.hid (fun A n c (L : List Int) (h1 : L.length = n) h2 h3 W hs => rhash_dig p k K.p3 K.pm K.k2 K.kp K.least K.cop A n c L h1 h2 h3 W hs)
  have hI : ∀ x ∈ [kind] ++ D ++ l, I64 x := fun x hx => by
    simp at hx
    rcases hx with rfl | hx | hx
    · exact hki
    · exact hDI x hx
    · exact hlI x hx
  have HI := Lib.hid hI
  have HW := Lib.hid hW
  have HB0 := Lib.hid hb0
  have hWle : b0 ≤ W.heap.size := Nat.le_of_lt hWs
  clear hba hD hl hI hmW hm hsD hsl hW hb0 hDI hlI
  go_enter Tryz.func39, Tryz.ntmps39
  go_upto_region 1 with (fail)
  rw [← HW.out, ← HB0.out]
  go_wp2_with (first
    | (at_builtin; refine wpList_appA W rfl _ _ rfl b0 _ [kind] A nA cA D rfl rfl HDL.out ho1 HSD.out (by simp; omega) hWle ?_; intro v2 w2 hg2; have ho2 := hg2.own; have hb2 : Below w.heap.size w w2 := hg2.below HBA.out ho1 (by rw [HB0.out]; exact Nat.le_refl _) HBA.out.size; have hsl2 := HSL.out.below hb2; have hl2 : b0 ≤ w2.heap.size := (by rw [HB0.out]; exact hb2.size); have hmx : ([kind] ++ D).length + n ≤ 17592186044416 := (by simp [HDL.out]; omega); clear hg2)
    | (at_builtin; refine wpList_appA w2 rfl _ _ rfl b0 _ ([kind] ++ D) B n cB l rfl rfl HLL.out ho2 hsl2 hmx hl2 ?_; intro v3 w3 hg3; have ho3 := hg3.own; have hb3 : Below w.heap.size w w3 := hg3.below hb2 ho2 (by rw [HB0.out]; exact Nat.le_refl _) hb2.size; clear hg3; obtain ⟨A3, n3, c3, rfl, hl3, hc3, _, hs3⟩ := ho3.shapeN; have hm3 := Blk.below HMM.out hb3 hml; have cm0 := (Blk.cell hm3 0).trans (show _ = some (vi p) from rfl); have cm1 := (Blk.cell hm3 1).trans (show _ = some (Value.slice A nA cA) from rfl); have fm1 := Blk.frozen hm3 1))
  have hn3 : n3 = 1 + nA + n := by
    rw [← hl3]
    simp [HDL.out, HLL.out]
    omega
  have hh := HH.out A3 n3 c3 _ hl3 HI.out (by omega) w3 hs3
  have HHH := Lib.hid hh
  have HM3 := Lib.hid hm3
  have HB3 := Lib.hid hb3
  have hml3 := Blk.lt hm3
  clear hh hl3 hs3 ho3 hm3 hb3 hn3 ho2 hb2 hsl2 hl2 hmx
  refine (HHH.out).mono ?_
  rintro e w4 ⟨g, cap, cs, rfl, hcap, hcm, hsg, hbg, hgn, hb4⟩
  have hm4 := Blk.below HM3.out hb4 hml3
  have d1 := (Blk.cell hm4 1).trans (show _ = some (Value.slice A nA cA) from rfl)
  have f1 := Blk.frozen hm4 1
  have hset := Blk.set_ hm4 1 (.slice (some ⟨g, 0, none⟩) 4 cap)
  have hgm : g ≠ m := by omega
  have hbg' := hbg.far (p := ⟨m, 1, none⟩) hgm (.slice (some ⟨g, 0, none⟩) 4 cap)
  have hgr4 : w4.grownBy (w4.setCell ⟨m, 1, none⟩ (.slice (some ⟨g, 0, none⟩) 4 cap)) (some m) := ⟨rfl, rfl, rfl, by rw [World.size_setCell]; exact Nat.le_refl _, fun x hx hne => Below.heap_setCell w4 _ _ x (fun e => hne (by rw [e]))⟩
  have hsg' := hsg.far hgr4 hgm
  have hfin : RStepIs m p (digL p k (kind :: (D ++ l))) w (.returned undef) (w4.setCell ⟨m, 1, none⟩ (.slice (some ⟨g, 0, none⟩) 4 cap)) := by
    refine ⟨⟨_, rfl⟩, ⟨g, cap, cs, hset, hbg', ?_, digL_len _ _, hcap, hcm, i64_digL K.pm _⟩, ?_⟩
    · simpa using hsg'
    · have h := HB3.out.trans (hb4.mono HB3.out.size)
      refine ⟨⟨hgr4.os.trans h.os, hgr4.tape.trans h.tape, hgr4.output.trans h.output, Nat.le_trans h.size hgr4.size, fun x hx hne => (hgr4.block x (Nat.lt_of_lt_of_le hx h.size) hne).trans (h.block x hx)⟩, g, cap, (Blk.cell hset 1).trans rfl, Nat.le_trans HB3.out.size hgn⟩
  have HFIN := Lib.hid hfin
  clear hfin hset hbg' hgr4 hsg' hm4 hbg hsg
  go_wp2
  go_end0
  exact ⟨⟨_, rfl⟩, HFIN.out.2⟩
theorem rstep_any (p k : Nat) [NeZero p] (K : Pk p k) (kind : Int) (hki : I64 kind) (m : Nat) (D : List Int) (B : Option Addr) (n cB : Nat) (l : List Int) (hl : l.length = n) (hlI : ∀ x ∈ l, I64 x) (hr : n * 8 ≤ 140737488351232) (w : World) (hm : RCh w m p D) (hsl : SL w B l) :
    Calls Tryz.prog 39 #[.pointer (some ⟨m, 0, none⟩), vi kind, .slice B n cB] w fun e w' => RStepIs m p (digL p k (kind :: (D ++ l))) w e w' := by
  obtain ⟨g, cap, cs, h1, h2, h3, h4, h5, h6, h7⟩ := hm
  exact rstep_core p k K kind hki m _ 4 cap D h4 (Nat.le_refl _) h7 B n cB l hl hlI hr w h1 h3 hsl
set_option maxRecDepth 100000 in
set_option maxHeartbeats 2000000 in
theorem rbegin_any (p k : Nat) [NeZero p] (K : Pk p k) (B : Option Addr) (n cB : Nat) (l : List Int) (hl : l.length = n) (hlI : ∀ x ∈ l, I64 x) (hr : n * 8 ≤ 140737488351232) (w : World) (hsl : SL w B l) :
    Calls Tryz.prog 24 #[vi p, .slice B n cB] w fun e w' => e = .returned (.pointer (some ⟨w.heap.size, 0, none⟩)) ∧ RCh w' w.heap.size p (digL p k (2 :: l)) ∧ Below w.heap.size w w' := by
  have hba : Below w.heap.size w (w.alloc (.cells #[vi p, .slice none 0 0] 44)) := (Below.refl _ _).alloc (Nat.le_refl _) _
  have hO : RO (w.alloc (.cells #[vi p, .slice none 0 0] 44)) w.heap.size p (.slice none 0 0) := Blk.new w _ _
  have HS := Lib.hid (rstep_core p k K 2 ⟨by omega, by omega⟩ w.heap.size none 0 0 [] rfl (by omega) (by simp) B n cB l hl hlI hr _ hO SL.nil (hsl.below hba))
  have HB := Lib.hid hba
  clear hl hlI hO hba hsl K
  go_enter Tryz.func24, Tryz.ntmps24
  go_wp2_with fail
  refine (HS.out).mono ?_
  rintro e w2 ⟨⟨r, rfl⟩, hc, hg, hnew⟩
  have HC := Lib.hid hc
  have HG := Lib.hid (HB.out.grown hg HB.out.size (fun x hx => by injection hx with hx; omega))
  clear hc hg hnew
  go_wp2
  go_ret
  exact ⟨rfl, HC.out, HG.out⟩
def RDrawIs {p : Nat} [NeZero p] (k m : Nat) (D : List Int) (w : World) (e : Ending) (w' : World) : Prop := e = .returned (vi ((drawnL p k D).getD 0 0)) ∧ RCh w' m p (drawnL p k D) ∧ w.grownBy w' (some m) ∧ DigNew w' m w.heap.size
theorem RCh.dig {w : World} {m : Nat} {p : Int} {D : List Int} (h : RCh w m p D) : ∃ g cap, w.cell? ⟨m, 0, none⟩ = some (vi p) ∧ w.cell? ⟨m, 1, none⟩ = some (.slice (some ⟨g, 0, none⟩) 4 cap) ∧ w.cell? ⟨g, 0, none⟩ = some (vi (D.getD 0 0)) ∧ w.cell? ⟨g, 1, none⟩ = some (vi (D.getD 1 0)) := by
  obtain ⟨g, cap, cs, h1, h2, h3, h4, h5, h6, h7⟩ := h
  refine ⟨g, cap, (Blk.cell h1 0).trans rfl, (Blk.cell h1 1).trans rfl, ?_, ?_⟩
  · obtain ⟨ad, ea, _, hc⟩ := SL.at_ (k := 0) h3 (by rw [h4]; omega)
    injection ea with ea
    subst ea
    rw [Addr.add_mid] at hc
    rw [List.getD_eq_getElem?_getD, List.getElem?_eq_getElem (by omega), Option.getD_some]
    exact hc
  · obtain ⟨ad, ea, _, hc⟩ := SL.at_ (k := 1) h3 (by rw [h4]; omega)
    injection ea with ea
    subst ea
    rw [Addr.add_mid] at hc
    rw [List.getD_eq_getElem?_getD, List.getElem?_eq_getElem (by omega), Option.getD_some]
    exact hc
set_option maxRecDepth 100000 in
set_option maxHeartbeats 2000000 in
theorem rdraw_any (p k : Nat) [NeZero p] (K : Pk p k) (m : Nat) (D : List Int) (w : World) (hm : RCh w m p D) :
    Calls Tryz.prog 40 #[.pointer (some ⟨m, 0, none⟩)] w fun e w' => RDrawIs (p := p) k m D w e w' := by
  have hs := rstep_any p k K 4 ⟨by omega, by omega⟩ m D none 0 0 [] rfl (by simp) (by omega) w hm SL.nil
  rw [List.append_nil] at hs
  have HS := Lib.hid hs
  clear hs hm K
  go_enter Tryz.func40, Tryz.ntmps40
  go_wp2_with fail
  refine (HS.out).mono ?_
  rintro e w2 ⟨⟨r, rfl⟩, hc, hg, hnew⟩
  obtain ⟨g, cap, d0, d1, d2, d3⟩ := hc.dig
  have HC := Lib.hid hc
  have HG := Lib.hid hg
  have HR := Lib.hid (show RDrawIs (p := p) k m D w (.returned (vi ((digL p k (4 :: D)).getD 0 0))) w2 from ⟨rfl, hc, hg, hnew⟩)
  generalize (digL p k (4 :: D)).getD 0 0 = X at d2 HR
  clear hc hg d3 hnew
  go_wp2
  go_ret
  exact HR.out
end Go.Proofs.YtflkiddmakeabaaGreatDoor

/- Walks: fold.may, ref5.Fault. -/
set_option linter.unusedVariables false
namespace Go.Proofs.YtflkiddmakeabaaGreatDoor
open Go.RowKit Zp
/-- may a degree and a number of places be? -/
def fmayB (n : Nat) (k asked : Int) : Bool := decide (2 ≤ n ∧ 1 ≤ k ∧ (k.toNat &&& (k.toNat - 1)) = 0 ∧ k ≤ (n : Int) / 2 ∧ 1 ≤ asked ∧ asked ≤ 64)
set_option maxRecDepth 100000 in
set_option maxHeartbeats 1000000 in
theorem fmay_any (D n : Nat) (k asked : Int) (hk : I64 k) (hn : n ≤ 65536) (w : World) (hc : w.cell? ⟨D, 1, none⟩ = some (vi n)) :
    Calls Tryz.prog 27 #[.pointer (some ⟨D, 0, none⟩), vi k, vi asked] w fun e w' => e = .returned (.bool (fmayB n k asked)) ∧ w = w' := by
  have hq : wrap64 ((n : Int) / 2) = (n : Int) / 2 := IntWalk.wrap64_in _ (by omega)
  by_cases c1 : 2 ≤ n
  · have a1 : decide ((2 : Int) ≤ (n : Int)) = true := decide_eq_true (by omega)
    by_cases c2 : 1 ≤ k
    · have a2 : decide ((1 : Int) ≤ k) = true := decide_eq_true c2
      have hw : IntKind.i64.wrap (k - 1) = k - 1 := IntWalk.i64_in _ (by omega)
      have hand : bits .and .i64 k (k - 1) = ((k.toNat &&& (k.toNat - 1) : Nat) : Int) := by
        have h := i64_and_nat k.toNat (k.toNat - 1) (by omega) (by omega)
        rw [show ((k.toNat : Nat) : Int) = k by omega, show ((k.toNat - 1 : Nat) : Int) = k - 1 by omega] at h
        exact h
      by_cases c3 : (k.toNat &&& (k.toNat - 1)) = 0
      · have a3 : (bits .and .i64 k (k - 1) == 0) = true := by rw [hand, c3]; rfl
        by_cases c4 : k ≤ (n : Int) / 2
        · have a4 : decide (k ≤ (n : Int) / 2) = true := decide_eq_true c4
          by_cases c5 : 1 ≤ asked
          · have a5 : decide ((1 : Int) ≤ asked) = true := decide_eq_true c5
            by_cases c6 : asked ≤ 64
            · have a6 : decide (asked ≤ 64) = true := decide_eq_true c6
              have HR := Lib.hid (show fmayB n k asked = true from decide_eq_true ⟨c1, c2, c3, c4, c5, c6⟩)
              clear hand c3
              go_enter Tryz.func27, Tryz.ntmps27
              go_wp2_with (go_at_call 32; refine (size_any D n _ hc).mono ?_; rintro e w' ⟨rfl, rfl⟩)
              go_ret
              exact ⟨ret_bool HR.out.symm, rfl⟩
            · have a6 : decide (asked ≤ 64) = false := decide_eq_false c6
              have HR := Lib.hid (show fmayB n k asked = false from decide_eq_false (fun h => c6 h.2.2.2.2.2))
              clear hand c3
              go_enter Tryz.func27, Tryz.ntmps27
              go_wp2_with (go_at_call 32; refine (size_any D n _ hc).mono ?_; rintro e w' ⟨rfl, rfl⟩)
              go_ret
              exact ⟨ret_bool HR.out.symm, rfl⟩
          · have a5 : decide ((1 : Int) ≤ asked) = false := decide_eq_false c5
            have HR := Lib.hid (show fmayB n k asked = false from decide_eq_false (fun h => c5 h.2.2.2.2.1))
            clear hand c3
            go_enter Tryz.func27, Tryz.ntmps27
            go_wp2_with (go_at_call 32; refine (size_any D n _ hc).mono ?_; rintro e w' ⟨rfl, rfl⟩)
            go_ret
            exact ⟨ret_bool HR.out.symm, rfl⟩
        · have a4 : decide (k ≤ (n : Int) / 2) = false := decide_eq_false c4
          have HR := Lib.hid (show fmayB n k asked = false from decide_eq_false (fun h => c4 h.2.2.2.1))
          clear hand c3
          go_enter Tryz.func27, Tryz.ntmps27
          go_wp2_with (go_at_call 32; refine (size_any D n _ hc).mono ?_; rintro e w' ⟨rfl, rfl⟩)
          go_ret
          exact ⟨ret_bool HR.out.symm, rfl⟩
      · have a3 : (bits .and .i64 k (k - 1) == 0) = false := by rw [hand, beq_eq_false_iff_ne]; omega
        have HR := Lib.hid (show fmayB n k asked = false from decide_eq_false (fun h => c3 h.2.2.1))
        clear hand c3
        go_enter Tryz.func27, Tryz.ntmps27
        go_wp2_with (go_at_call 32; refine (size_any D n _ hc).mono ?_; rintro e w' ⟨rfl, rfl⟩)
        go_ret
        exact ⟨ret_bool HR.out.symm, rfl⟩
    · have a2 : decide ((1 : Int) ≤ k) = false := decide_eq_false c2
      have HR := Lib.hid (show fmayB n k asked = false from decide_eq_false (fun h => c2 h.2.1))
      go_enter Tryz.func27, Tryz.ntmps27
      go_wp2_with (go_at_call 32; refine (size_any D n _ hc).mono ?_; rintro e w' ⟨rfl, rfl⟩)
      go_ret
      exact ⟨ret_bool HR.out.symm, rfl⟩
  · have a1 : decide ((2 : Int) ≤ (n : Int)) = false := decide_eq_false (by omega)
    have HR := Lib.hid (show fmayB n k asked = false from decide_eq_false (fun h => c1 h.1))
    go_enter Tryz.func27, Tryz.ntmps27
    go_wp2_with (go_at_call 32; refine (size_any D n _ hc).mono ?_; rintro e w' ⟨rfl, rfl⟩)
    go_ret
    exact ⟨ret_bool HR.out.symm, rfl⟩
/-- is k one of the first t powers of two? -/
def twoB (t : Nat) (k : Int) : Bool := (List.range t).any fun i => decide (k = ((2 ^ i : Nat) : Int))
theorem twoB_succ (t : Nat) (k : Int) : twoB (t + 1) k = (twoB t k || decide (k = ((2 ^ t : Nat) : Int))) := by
  unfold twoB
  rw [List.range_succ, List.any_append]
  simp
theorem twoB_iff (t : Nat) (k : Int) : twoB t k = true ↔ ∃ i, i < t ∧ k = ((2 ^ i : Nat) : Int) := by
  unfold twoB
  rw [List.any_eq_true]
  constructor
  · rintro ⟨i, h1, h2⟩; exact ⟨i, List.mem_range.1 h1, of_decide_eq_true h2⟩
  · rintro ⟨i, h1, h2⟩; exact ⟨i, List.mem_range.2 h1, decide_eq_true h2⟩
theorem two_may {n t : Nat} {k : Int} (h1 : n / 2 < 2 ^ t) (h2 : ∀ i, i < t → 2 ^ i ≤ n / 2) : twoB t k = true ↔ (1 ≤ k ∧ (k.toNat &&& (k.toNat - 1)) = 0 ∧ k ≤ (n : Int) / 2) := by
  rw [twoB_iff]
  constructor
  · rintro ⟨i, hi, rfl⟩
    have hp : 0 < 2 ^ i := Nat.pow_pos (by omega)
    have := h2 i hi
    exact ⟨by omega, by rw [Int.toNat_natCast]; exact (two_pow_iff _ hp).2 ⟨i, rfl⟩, by omega⟩
  · rintro ⟨h3, h4, h5⟩
    obtain ⟨i, hi⟩ := (two_pow_iff k.toNat (by omega)).1 h4
    refine ⟨i, ?_, by omega⟩
    rcases Nat.lt_or_ge i t with h | h
    · exact h
    · have := Nat.pow_le_pow_right (show 0 < 2 by omega) h
      omega
theorem fmayB_two {n t : Nat} {k asked : Int} (h1 : n / 2 < 2 ^ t) (h2 : ∀ i, i < t → 2 ^ i ≤ n / 2) : fmayB n k asked = (decide (2 ≤ n) && (twoB t k && (decide (1 ≤ asked) && decide (asked ≤ 64)))) := by
  have h := two_may (k := k) h1 h2
  rw [Bool.eq_iff_iff]
  unfold fmayB
  simp only [decide_eq_true_eq, Bool.and_eq_true]
  rw [h]
  constructor
  · rintro ⟨a, b, c, d, e, f⟩; exact ⟨a, ⟨b, c, d⟩, e, f⟩
  · rintro ⟨a, ⟨b, c, d⟩, e, f⟩; exact ⟨a, b, c, d, e, f⟩
def faultF (n : Nat) (k asked : Int) : Int := if fmayB n k asked = true then 0 else 2
set_option maxRecDepth 100000 in
set_option maxHeartbeats 1000000 in
theorem rfault5_any (q n : Nat) (s r k asked : Int) (hn1 : 1 ≤ n) (hn : n ≤ 65536) (w : World) :
    Calls Tryz.prog 14 #[.agg #[vi q, vi n, vi s, vi r], vi k, vi asked] w fun e w' => e = .returned (vi (faultF n k asked)) ∧ Below w.heap.size w w' := by
  have hb0 : Below w.heap.size w (w.alloc (.cells #[vi q, vi n, vi s, vi r] 30)) := (Below.refl _ _).alloc (Nat.le_refl _) _
  have hB := Blk.new w 30 #[vi q, vi n, vi s, vi r]
  have e1 := (hB.cell 1).trans (show _ = some (vi n) from rfl)
  obtain ⟨W, hW⟩ : ∃ W, W = w.alloc (.cells #[vi q, vi n, vi s, vi r] 30) := ⟨_, rfl⟩
  rw [← hW] at hb0 e1
  have HW := Lib.hid hW
  have HB0 := Lib.hid hb0
  have HN := Lib.hid (And.intro hn1 hn)
  have hq : wrap64 ((n : Int) / 2) = (n : Int) / 2 := IntWalk.wrap64_in _ (by omega)
  clear hb0 hB hW
  go_enter Tryz.func14, Tryz.ntmps14
  go_upto_region 1 with (fail)
  rw [← HW.out]
  go_wp2
  go_loopw [7, 8] (fun b m wr => ∃ t : Nat, m = vi ((2 ^ t : Nat) : Int) ∧ b = .bool (twoB t k) ∧ (∀ i, i < t → 2 ^ i ≤ n / 2) ∧ W = wr) (fun _ m _ => n + 1 - (intOf m).toNat)
  case atStart => exact ⟨0, rfl, rfl, fun i hi => absurd hi (Nat.not_lt_zero _), rfl⟩
  case round =>
    obtain ⟨t, rfl, rfl, hlo, rfl⟩ := hrel
    have HLO := Lib.hid hlo
    clear hlo
    obtain ⟨m, hm⟩ : ∃ m, m = 2 ^ t := ⟨_, rfl⟩
    have hmp : 0 < m := by rw [hm]; exact Nat.pow_pos (by omega)
    have HM := Lib.hid hm
    rw [← hm]
    clear hm
    have hts := twoB_succ t k
    rw [← HM.out] at hts
    have HTS := Lib.hid hts
    have hfm := fun h => fmayB_two (n := n) (t := t) (k := k) (asked := asked) h HLO.out
    rw [← HM.out] at hfm
    have HFM := Lib.hid hfm
    clear hts hfm
    obtain ⟨b, hb⟩ : ∃ b, b = twoB t k := ⟨_, rfl⟩
    rw [← hb] at HTS HFM ⊢
    clear hb
    by_cases hlt : m ≤ n / 2
    · have t1 : decide ((m : Int) ≤ (n : Int) / 2) = true := decide_eq_true (by omega)
      have hwr : IntKind.i64.wrap ((m : Int) * 2) = ((2 * m : Nat) : Int) := by rw [IntWalk.i64_in _ (by have := HN.out; omega)]; omega
      have HP : Hid ((2 * m : Nat) = 2 ^ (t + 1) ∧ ∀ i, i < t + 1 → 2 ^ i ≤ n / 2) := Lib.hid ⟨by rw [HM.out, Nat.pow_succ]; omega, fun i hi => by
        by_cases e : i < t
        · exact HLO.out i e
        · obtain rfl : i = t := by omega
          rw [← HM.out]; exact hlt⟩
      cases b
      · by_cases hk : (m : Int) = k
        · have t2 : ((m : Int) == k) = true := by simp [hk]
          have HV : Hid (twoB (t + 1) k = true) := Lib.hid (by rw [HTS.out, ← hk]; simp)
          clear hk
          go_wp2
          go_roundw
          case rel => exact ⟨t + 1, by rw [← HP.out.1, Int.natCast_mul]; rfl, by rw [HV.out], HP.out.2, trivial⟩
          case measure => simp [intOf]; omega
        · have t2 : ((m : Int) == k) = false := by rw [beq_eq_false_iff_ne]; exact hk
          have HV : Hid (twoB (t + 1) k = false) := Lib.hid (by rw [HTS.out]; simp; omega)
          clear hk
          go_wp2
          go_roundw
          case rel => exact ⟨t + 1, by rw [← HP.out.1, Int.natCast_mul]; rfl, by rw [HV.out], HP.out.2, trivial⟩
          case measure => simp [intOf]; omega
      · have HV : Hid (twoB (t + 1) k = true) := Lib.hid (by rw [HTS.out]; simp)
        go_wp2
        go_roundw
        case rel => exact ⟨t + 1, by rw [← HP.out.1, Int.natCast_mul]; rfl, by rw [HV.out], HP.out.2, trivial⟩
        case measure => simp [intOf]; omega
    · have t1 : decide ((m : Int) ≤ (n : Int) / 2) = false := decide_eq_false (by omega)
      have HG := Lib.hid (HFM.out (by omega))
      by_cases c1 : 2 ≤ n
      · have a1 : decide ((n : Int) < 2) = false := decide_eq_false (by omega)
        cases b
        · have HR : Hid (faultF n k asked = 2) := Lib.hid (by unfold faultF; rw [HG.out]; simp)
          go_wp2
          go_ret
          exact ⟨ret_int HR.out.symm, HB0.out⟩
        · by_cases c5 : 1 ≤ asked
          · have a5 : decide (asked < 1) = false := decide_eq_false (by omega)
            by_cases c6 : asked ≤ 64
            · have a6 : decide ((64 : Int) < asked) = false := decide_eq_false (by omega)
              have HR : Hid (faultF n k asked = 0) := Lib.hid (by unfold faultF; rw [HG.out, decide_eq_true c1, decide_eq_true c5, decide_eq_true c6]; rfl)
              go_wp2
              go_ret
              exact ⟨ret_int HR.out.symm, HB0.out⟩
            · have a6 : decide ((64 : Int) < asked) = true := decide_eq_true (by omega)
              have HR : Hid (faultF n k asked = 2) := Lib.hid (by unfold faultF; rw [HG.out, decide_eq_false c6]; simp)
              go_wp2
              go_ret
              exact ⟨ret_int HR.out.symm, HB0.out⟩
          · have a5 : decide (asked < 1) = true := decide_eq_true (by omega)
            have HR : Hid (faultF n k asked = 2) := Lib.hid (by unfold faultF; rw [HG.out, decide_eq_false c5]; simp)
            go_wp2
            go_ret
            exact ⟨ret_int HR.out.symm, HB0.out⟩
      · have a1 : decide ((n : Int) < 2) = true := decide_eq_true (by omega)
        have HR : Hid (faultF n k asked = 2) := Lib.hid (by unfold faultF; rw [HG.out, decide_eq_false c1]; simp)
        go_wp2
        go_ret
        exact ⟨ret_int HR.out.symm, HB0.out⟩
end Go.Proofs.YtflkiddmakeabaaGreatDoor

/- The reference's Once: places ascending, each once. -/
set_option linter.unusedVariables false
namespace Zp
theorem insU_len (x : Int) : ∀ l : List Int, (insU x l).length ≤ l.length + 1
  | [] => by simp [insU]
  | a :: l => by
    unfold insU
    split
    · simp
    · split
      · simp
      · have := insU_len x l; simp; omega
theorem onceL_len : ∀ l : List Int, (onceL l).length ≤ l.length
  | [] => by simp [onceL]
  | a :: l => by
    have h1 := insU_len a (onceL l)
    have h2 := onceL_len l
    show (insU a (onceL l)).length ≤ l.length + 1
    omega
/-- may a number come next behind t of them? -/
def Cand (S : List Int) (t : Nat) (x : Int) : Prop := ∀ j (h : j < S.length), j < t → S[j] < x
theorem cand_zero (S : List Int) (x : Int) : Cand S 0 x := fun j _ h => absurd h (Nat.not_lt_zero _)
theorem cand_succ {S : List Int} (hS : Asc S) {t : Nat} (ht : t < S.length) (x : Int) : Cand S (t + 1) x ↔ S[t] < x := by
  constructor
  · intro h; exact h t ht (Nat.lt_succ_self _)
  · intro h j hj hjt
    have := hS.at_le (i := j) (j := t) (by omega) ht
    omega
theorem cand_in {l : List Int} {t : Nat} {x : Int} (hx : x ∈ l) (h : Cand (onceL l) t x) : ∃ j, ∃ hj : j < (onceL l).length, t ≤ j ∧ (onceL l)[j] = x := by
  obtain ⟨j, hj, e⟩ := List.mem_iff_getElem.1 ((mem_onceL x l).2 hx)
  refine ⟨j, hj, ?_, e⟩
  rcases Nat.lt_or_ge j t with h1 | h1
  · have := h j hj h1; omega
  · exact h1
theorem cand_none {l : List Int} {t : Nat} (h : ∀ x ∈ l, ¬ Cand (onceL l) t x) (ht : t ≤ (onceL l).length) : t = (onceL l).length := by
  rcases Nat.lt_or_ge t (onceL l).length with h1 | h1
  · exfalso
    refine h (onceL l)[t] ((mem_onceL _ l).1 (List.getElem_mem h1)) fun j hj hjt => (asc_onceL l).at_lt hjt h1
  · omega
theorem cand_min {l : List Int} {t : Nat} {y : Int} (hy : y ∈ l) (hc : Cand (onceL l) t y) (hm : ∀ x ∈ l, Cand (onceL l) t x → y ≤ x) : ∃ h : t < (onceL l).length, (onceL l)[t] = y := by
  obtain ⟨j, hj, htj, e⟩ := cand_in hy hc
  have ht : t < (onceL l).length := by omega
  refine ⟨ht, ?_⟩
  have h1 := (asc_onceL l).at_le htj hj
  have h2 := hm (onceL l)[t] ((mem_onceL _ l).1 (List.getElem_mem ht)) fun j hj hjt => (asc_onceL l).at_lt hjt ht
  omega
/-- the best of the first i -/
def Best (l : List Int) (t i : Nat) (b : Int) : Prop :=
  (b = -1 ∧ ∀ j (h : j < l.length), j < i → ¬ Cand (onceL l) t l[j]) ∨
  (∃ m : Nat, ∃ h : m < l.length, m < i ∧ b = m ∧ Cand (onceL l) t l[m] ∧ ∀ j (h' : j < l.length), j < i → Cand (onceL l) t l[j] → l[m] ≤ l[j])
theorem Best.zero (l : List Int) (t : Nat) : Best l t 0 (-1) := .inl ⟨rfl, fun j _ h => absurd h (Nat.not_lt_zero _)⟩
theorem Best.skip {l : List Int} {t i : Nat} {b : Int} (h : Best l t i b) (hi : i < l.length) (hc : ¬ Cand (onceL l) t l[i]) : Best l t (i + 1) b := by
  rcases h with ⟨e, h⟩ | ⟨m, hm, hmi, e, h1, h2⟩
  · refine .inl ⟨e, fun j hj hji => ?_⟩
    by_cases h3 : j < i
    · exact h j hj h3
    · obtain rfl : j = i := by omega
      exact hc
  · refine .inr ⟨m, hm, by omega, e, h1, fun j hj hji hcj => ?_⟩
    by_cases h3 : j < i
    · exact h2 j hj h3 hcj
    · obtain rfl : j = i := by omega
      exact absurd hcj hc
theorem Best.first {l : List Int} {t i : Nat} {b : Int} (h : Best l t i b) (hb : b < 0) (hi : i < l.length) (hc : Cand (onceL l) t l[i]) : Best l t (i + 1) i := by
  rcases h with ⟨e, h⟩ | ⟨m, hm, hmi, e, h1, h2⟩
  · refine .inr ⟨i, hi, by omega, rfl, hc, fun j hj hji hcj => ?_⟩
    by_cases h3 : j < i
    · exact absurd hcj (h j hj h3)
    · obtain rfl : j = i := by omega
      exact Int.le_refl _
  · omega
theorem Best.less {l : List Int} {t i m : Nat} (h : Best l t i m) (hm : m < l.length) (hi : i < l.length) (hc : Cand (onceL l) t l[i]) (hlt : l[i] < l[m]) : Best l t (i + 1) i := by
  rcases h with ⟨e, h⟩ | ⟨m', hm', hmi, e, h1, h2⟩
  · omega
  · obtain rfl : m = m' := by omega
    refine .inr ⟨i, hi, by omega, rfl, hc, fun j hj hji hcj => ?_⟩
    by_cases h3 : j < i
    · have := h2 j hj h3 hcj; omega
    · obtain rfl : j = i := by omega
      exact Int.le_refl _
theorem Best.keep {l : List Int} {t i m : Nat} (h : Best l t i m) (hm : m < l.length) (hi : i < l.length) (hge : ¬ l[i] < l[m]) : Best l t (i + 1) m := by
  rcases h with ⟨e, h⟩ | ⟨m', hm', hmi, e, h1, h2⟩
  · omega
  · obtain rfl : m = m' := by omega
    refine .inr ⟨m, hm, by omega, rfl, h1, fun j hj hji hcj => ?_⟩
    by_cases h3 : j < i
    · exact h2 j hj h3 hcj
    · obtain rfl : j = i := by omega
      omega
theorem Best.lo {l : List Int} {t i : Nat} {b : Int} (h : Best l t i b) : b = -1 ∨ ∃ m : Nat, b = m ∧ m < l.length := by
  rcases h with ⟨e, _⟩ | ⟨m, hm, _, e, _⟩
  · exact .inl e
  · exact .inr ⟨m, e, hm⟩
theorem Best.none {l : List Int} {t i : Nat} (h : Best l t i (-1)) (hi : l.length ≤ i) (ht : t ≤ (onceL l).length) : t = (onceL l).length := by
  rcases h with ⟨_, h⟩ | ⟨m, hm, _, e, _⟩
  · refine cand_none (fun x hx => ?_) ht
    obtain ⟨j, hj, rfl⟩ := List.mem_iff_getElem.1 hx
    exact h j hj (by omega)
  · omega
theorem Best.some {l : List Int} {t i m : Nat} (h : Best l t i m) (hm : m < l.length) (hi : l.length ≤ i) : ∃ h : t < (onceL l).length, (onceL l)[t] = l[m] := by
  rcases h with ⟨e, h⟩ | ⟨m', hm', hmi, e, h1, h2⟩
  · omega
  · obtain rfl : m = m' := by omega
    refine cand_min (List.getElem_mem hm) h1 fun x hx hc => ?_
    obtain ⟨j, hj, rfl⟩ := List.mem_iff_getElem.1 hx
    exact h2 j hj (by omega) hc
end Zp
namespace Go.Proofs.YtflkiddmakeabaaGreatDoor
open Go.RowKit Zp
end Go.Proofs.YtflkiddmakeabaaGreatDoor

/- The walk of the reference's Once. -/
set_option linter.unusedVariables false
namespace Go.Proofs.YtflkiddmakeabaaGreatDoor
open Go.RowKit Zp
set_option maxRecDepth 100000 in
set_option maxHeartbeats 2000000 in
theorem ronce_any (A : Option Addr) (n c : Nat) (l : List Int) (hl : l.length = n) (hlI : ∀ x ∈ l, I64 x) (hn : n * 8 ≤ 140737488351232) (w : World) (hs : SL w A l) :
    Calls Tryz.prog 89 #[.slice A n c] w fun e w' => Made (onceL l) w e w' := by
  have HL := Lib.hid hl
  have HS := Lib.hid hs
  have HN := Lib.hid hn
  have hol := onceL_len l
  rw [hl] at hol
  have HOL := Lib.hid hol
  have HAS := Lib.hid (asc_onceL l)
  clear hl hs hn hol
  go_enter Tryz.func89, Tryz.ntmps89
  go_wp2
  go_loopg [3] (n + 1) (fun g v wr => ∃ t : Nat, t ≤ (onceL l).length ∧ (onceL l).length + 1 ≤ g + t ∧ Own wr w.heap.size v ((onceL l).take t) ∧ Below w.heap.size w wr)
  case atStart => exact ⟨0, Nat.zero_le _, by have := HOL.out; omega, World.ownsRow_nil _ _ _ _, Below.refl _ _⟩
  case round =>
    obtain ⟨t, ht, hg, hown, hb⟩ := hrel
    obtain ⟨AO, tn, cO, rfl, htl, htc, _, hso⟩ := hown.shapeN
    have htn : tn = t := by rw [← htl, List.length_take]; omega
    subst htn
    have HOW := Lib.hid hown
    have HSO := Lib.hid hso
    have HB := Lib.hid hb
    have HT := Lib.hid (And.intro ht hg)
    have HSL := Lib.hid (HS.out.below hb)
    clear hown hso hb htl ht hg htc
    go_wp2
    go_loopw [4, 5] (fun bv iv wq => ∃ (i q : Nat) (b : Int), i ≤ n ∧ bv = vi b ∧ iv = vi i ∧ Best l tn i b ∧ wq = wr.drewN q) (fun _ iv _ => n - (intOf iv).toNat)
    case atStart => exact ⟨0, 0, -1, Nat.zero_le _, rfl, rfl, Best.zero _ _, rfl⟩
    case round =>
      obtain ⟨i, q, b, hi, rfl, rfl, hbest, rfl⟩ := hrel
      have HB0 := Lib.hid hbest
      clear hbest
      by_cases hlt : i < n
      · have hil : i < l.length := by rw [HL.out]; exact hlt
        obtain ⟨ad, rfl, _, hcx⟩ := HSL.out.at_ hil
        have i1 : (0 : Int) ≤ (i : Int) := by omega
        have i2 : (i : Int) < (n : Int) := by omega
        have hwr : IntKind.i64.wrap ((i : Int) + 1) = (i : Int) + 1 := IntWalk.i64_in _ (by have := HN.out; omega)
        have hw64 : wrap64 ((i : Int) + 1) = (i : Int) + 1 := IntWalk.wrap64_in _ (by have := HN.out; omega)
        by_cases ht0 : tn = 0
        · subst ht0
          have hcd : Cand (onceL l) 0 l[i] := cand_zero _ _
          have t1 : (((0 : Nat) : Int) == 0) = true := rfl
          rcases HB0.out.lo with hb1 | ⟨m, rfl, hml⟩
          · subst hb1
            have HBE := Lib.hid (HB0.out.first (by omega) hil hcd)
            have t3 : decide ((-1 : Int) < 0) = true := by decide
            generalize l[i] = x at hcx t1
            clear hil hcd
            go_wp2
            go_big_quiet (fail)
            go_wp2
            go_roundw
            case rel => exact ⟨i + 1, _, _, by omega, rfl, by go_num, HBE.out, rfl⟩
            case measure => simp [intOf]; omega
          · obtain ⟨ad3, e3, _, hcm⟩ := HSL.out.at_ hml
            injection e3 with e3
            subst e3
            have m1 : (0 : Int) ≤ (m : Int) := by omega
            have m2 : (m : Int) < (n : Int) := by have := HL.out; omega
            have t3 : decide ((m : Int) < 0) = false := decide_eq_false (by omega)
            by_cases hxy : l[i] < l[m]
            · have HBE := Lib.hid (HB0.out.less hml hil hcd hxy)
              have t4 : decide (l[i] < l[m]) = true := decide_eq_true hxy
              generalize l[i] = x at hcx hxy t4 t1
              generalize l[m] = y at hcm hxy t4
              clear hil hcd hml hxy
              go_wp2
              go_big_quiet (fail)
              go_wp2
              go_roundw
              case rel => exact ⟨i + 1, _, _, by omega, rfl, by go_num, HBE.out, rfl⟩
              case measure => simp [intOf]; omega
            · have HBE := Lib.hid (HB0.out.keep hml hil hxy)
              have t4 : decide (l[i] < l[m]) = false := decide_eq_false hxy
              generalize l[i] = x at hcx hxy t4 t1
              generalize l[m] = y at hcm hxy t4
              clear hil hcd hml hxy
              go_wp2
              go_big_quiet (fail)
              go_wp2
              go_roundw
              case rel => exact ⟨i + 1, _, _, by omega, rfl, by go_num, HBE.out, rfl⟩
              case measure => simp [intOf]; omega
        · obtain ⟨u, hu⟩ : ∃ u, tn = u + 1 := ⟨tn - 1, by omega⟩
          have huS : u < (onceL l).length := by have := HT.out.1; omega
          obtain ⟨ado, e4, _, hco⟩ := HSO.out.at_ (k := u) (by rw [List.length_take]; omega)
          subst e4
          rw [List.getElem_take] at hco
          have t1 : ((tn : Int) == 0) = false := by simp; omega
          have j1 : (0 : Int) ≤ (u : Int) := by omega
          have j2 : (u : Int) < (tn : Int) := by omega
          have jw : IntKind.i64.wrap ((tn : Int) - 1) = (u : Int) := by rw [IntWalk.i64_in _ (by have := HN.out; have := HOL.out; omega)]; omega
          have jw2 : wrap64 ((tn : Int) - 1) = (u : Int) := by rw [IntWalk.wrap64_in _ (by have := HN.out; have := HOL.out; omega)]; omega
          by_cases hgt : (onceL l)[u] < l[i]
          · have hcd : Cand (onceL l) tn l[i] := by rw [hu]; exact (cand_succ HAS.out huS _).2 hgt
            have t5 : decide ((onceL l)[u] < l[i]) = true := decide_eq_true hgt
            have HU := Lib.hid hu
            generalize (onceL l)[u] = z at hco t5 hgt
            clear hgt huS hu
            rcases HB0.out.lo with hb1 | ⟨m, rfl, hml⟩
            · subst hb1
              have HBE := Lib.hid (HB0.out.first (by omega) hil hcd)
              have t3 : decide ((-1 : Int) < 0) = true := by decide
              generalize l[i] = x at hcx t5
              clear hil hcd
              go_wp2
              go_big_quiet (fail)
              go_wp2
              go_roundw
              case rel => exact ⟨i + 1, _, _, by omega, rfl, by go_num, HBE.out, rfl⟩
              case measure => simp [intOf]; omega
            · obtain ⟨ad3, e3, _, hcm⟩ := HSL.out.at_ hml
              injection e3 with e3
              subst e3
              have m1 : (0 : Int) ≤ (m : Int) := by omega
              have m2 : (m : Int) < (n : Int) := by have := HL.out; omega
              have t3 : decide ((m : Int) < 0) = false := decide_eq_false (by omega)
              by_cases hxy : l[i] < l[m]
              · have HBE := Lib.hid (HB0.out.less hml hil hcd hxy)
                have t4 : decide (l[i] < l[m]) = true := decide_eq_true hxy
                generalize l[i] = x at hcx hxy t4 t5
                generalize l[m] = y at hcm hxy t4
                clear hil hcd hml hxy
                go_wp2
                go_big_quiet (fail)
                go_wp2
                go_roundw
                case rel => exact ⟨i + 1, _, _, by omega, rfl, by go_num, HBE.out, rfl⟩
                case measure => simp [intOf]; omega
              · have HBE := Lib.hid (HB0.out.keep hml hil hxy)
                have t4 : decide (l[i] < l[m]) = false := decide_eq_false hxy
                generalize l[i] = x at hcx hxy t4 t5
                generalize l[m] = y at hcm hxy t4
                clear hil hcd hml hxy
                go_wp2
                go_big_quiet (fail)
                go_wp2
                go_roundw
                case rel => exact ⟨i + 1, _, _, by omega, rfl, by go_num, HBE.out, rfl⟩
                case measure => simp [intOf]; omega
          · have HBE := Lib.hid (HB0.out.skip hil (by rw [hu]; exact fun h => hgt ((cand_succ HAS.out huS _).1 h)))
            have t5 : decide ((onceL l)[u] < l[i]) = false := decide_eq_false hgt
            have HU := Lib.hid hu
            generalize (onceL l)[u] = z at hco t5 hgt
            generalize l[i] = x at hcx t5 hgt
            clear hgt huS hil hu
            go_wp2
            go_big_quiet (fail)
            go_wp2
            go_roundw
            case rel => exact ⟨i + 1, _, _, by omega, rfl, by go_num, HBE.out, rfl⟩
            case measure => simp [intOf]; omega
      · obtain rfl : i = n := by omega
        rcases HB0.out.lo with hb1 | ⟨m, rfl, hml⟩
        · subst hb1
          have hfin := HB0.out.none (by rw [HL.out]; exact Nat.le_refl _) HT.out.1
          have HF := Lib.hid hfin
          clear hfin
          go_wp2
          go_ret
          have hown := HOW.out
          rw [show (onceL l).take tn = onceL l by rw [HF.out, List.take_length]] at hown
          exact ⟨_, rfl, hown.drewN _, below_drewN HB.out _⟩
        · have hs1 := HB0.out.some hml (by rw [HL.out]; exact Nat.le_refl _)
          have HS1 := Lib.hid hs1
          obtain ⟨ad3, e3, _, hcm⟩ := HSL.out.at_ hml
          subst e3
          have m1 : (0 : Int) ≤ (m : Int) := by omega
          have m2 : (m : Int) < (i : Int) := by have := HL.out; omega
          have HLL : Hid (((onceL l).take tn).length < 17592186044416) := Lib.hid (by have h1 := List.length_take_le tn (onceL l); have h2 := HN.out; have h3 := HOL.out; have h4 := HT.out; omega)
          obtain ⟨y, hy⟩ : ∃ y, y = l[m] := ⟨_, rfl⟩
          rw [← hy] at hcm
          have HY := Lib.hid hy
          clear hy hs1
          go_wp2_with (first | (at_builtin; refine wpList_app1 (wr.drewN q) y rfl _ _ rfl w.heap.size _ _ rfl rfl (HOW.out.drewN q) HLL.out (below_drewN HB.out q).size ?_; intro v' w1 hg))
          go_roundg (gk - 1)
          case measure => have := HT.out; have := HS1.out.1; omega
          case rel =>
            obtain ⟨hts, hte⟩ := HS1.out
            refine ⟨tn + 1, by omega, by have := HT.out; omega, ?_, hg.below (below_drewN HB.out q) (HOW.out.drewN q) (Nat.le_refl _) (below_drewN HB.out q).size⟩
            rw [List.take_succ_eq_append_getElem hts, hte, ← HY.out]
            exact hg.own
end Go.Proofs.YtflkiddmakeabaaGreatDoor

/- Walks: places of fewer rows (fold.modulo, ref5.modulo). -/
set_option linter.unusedVariables false
namespace Go.Proofs.YtflkiddmakeabaaGreatDoor
open Go.RowKit Zp
/-- places of fewer rows -/
def modL (l : List Int) (N : Nat) : List Int := l.map fun x => x % (N : Int)
theorem modL_len (l : List Int) (N : Nat) : (modL l N).length = l.length := by simp [modL]
theorem modL_take (l : List Int) (N : Nat) {k : Nat} (hk : k < l.length) : (modL l N).take (k + 1) = (modL l N).take k ++ [l[k] % (N : Int)] := by
  rw [List.take_succ_eq_append_getElem (by rw [modL_len]; exact hk)]
  simp [modL]
theorem modL_in (l : List Int) {N : Nat} (hN : 1 ≤ N) : ∀ x ∈ modL l N, 0 ≤ x ∧ x < (N : Int) := fun x hx => by
  obtain ⟨y, _, rfl⟩ := List.mem_map.1 hx
  exact ⟨Int.emod_nonneg _ (by omega), Int.emod_lt_of_pos _ (by omega)⟩
def ModRel (l : List Int) (N : Nat) (w : World) (v i : Value) (wr : World) : Prop := ∃ k : Nat, k ≤ l.length ∧ i = vi k ∧ Own wr w.heap.size v ((modL l N).take k) ∧ Below w.heap.size w wr
set_option maxHeartbeats 1000000 in
theorem fmodulo_any (A : Option Addr) (n c : Nat) (l : List Int) (hl : l.length = n) (hx : ∀ x ∈ l, 0 ≤ x) (hr : n * 8 ≤ 140737488351232) (N : Nat) (hN : 1 ≤ N) (hN2 : N ≤ 65536) (w : World) (hs : SL w A l) :
    Calls Tryz.prog 55 #[.slice A n c, vi N] w (Made (modL l N) w) := by
  have hmk := make_ints0 n (by omega)
  have ho0 := own_made0 w w.heap.size n (Nat.le_refl _) (by omega)
  have hb0 : Below w.heap.size w (w.alloc (.cells (zeros n) 3)) := (Below.refl _ _).alloc (Nat.le_refl _) _
  have HL := Lib.hid hl
  have HO0 := Lib.hid ho0
  have HB0 := Lib.hid hb0
  have HR := Lib.hid hr
  have hn0 : ((N : Int) == 0) = false := by simp; omega
  clear hl ho0 hb0
  go_enter Tryz.func55, Tryz.ntmps55
  go_wp2
  go_loopw [5, 7, 13] (fun v _ i wr => ModRel l N w v i wr) (fun _ _ i _ => n - (intOf i).toNat)
  case atStart => exact ⟨0, Nat.zero_le _, rfl, HO0.out, HB0.out⟩
  case round =>
    obtain ⟨k, hk, rfl, hown, hb⟩ := hrel
    rw [HL.out] at hk
    by_cases hlt : k < n
    · have hkx : k < l.length := by rw [HL.out]; exact hlt
      obtain ⟨ad, rfl, hab, hcell⟩ := (hs.below hb).at_ hkx
      have hx0 := hx _ (List.getElem_mem hkx)
      have hts := modL_take l N hkx
      have htm : l[k].tmod (N : Int) = l[k] % (N : Int) := Int.tmod_eq_emod_of_nonneg hx0
      obtain ⟨x, hxe⟩ : ∃ x, x = l[k] := ⟨_, rfl⟩
      rw [← hxe] at hcell hts htm hx0
      have HX := Lib.hid hts
      clear hxe hts
      have hll : ((modL l N).take k).length ≤ k := List.length_take_le _ _
      go_wp2_with (at_builtin; refine wpList_app1 _ (x % (N : Int)) rfl _ _ rfl w.heap.size _ _ rfl rfl hown (by omega) hb.size ?_; intro v' w1 hg)
      go_roundw
      case rel => exact ⟨k + 1, by rw [HL.out]; omega, by go_num, by rw [HX.out]; exact hg.own, hg.below hb hown (Nat.le_refl _) hb.size⟩
      case measure => simp [intOf]; omega
    · obtain rfl : k = n := by omega
      go_wp2
      go_ret
      rw [List.take_of_length_le (by rw [modL_len, HL.out]; exact Nat.le_refl _)] at hown
      exact ⟨_, rfl, hown, hb⟩
set_option maxHeartbeats 1000000 in
theorem rmodulo5_any (A : Option Addr) (n c : Nat) (l : List Int) (hl : l.length = n) (hx : ∀ x ∈ l, 0 ≤ x) (hr : n * 8 ≤ 140737488351232) (N : Nat) (hN : 1 ≤ N) (hN2 : N ≤ 65536) (w : World) (hs : SL w A l) :
    Calls Tryz.prog 43 #[.slice A n c, vi N] w (Made (onceL (modL l N)) w) := by
  have HL := Lib.hid hl
  have HR := Lib.hid hr
  have HN := Lib.hid (And.intro hN hN2)
  have hn0 : ((N : Int) == 0) = false := by simp; omega
  clear hl
  go_enter Tryz.func43, Tryz.ntmps43
  go_wp2
  go_loopw [5, 6] (fun v i wr => ModRel l N w v i wr) (fun _ i _ => n - (intOf i).toNat)
  case atStart => exact ⟨0, Nat.zero_le _, rfl, World.ownsRow_nil _ _ _ _, Below.refl _ _⟩
  case round =>
    obtain ⟨k, hk, rfl, hown, hb⟩ := hrel
    rw [HL.out] at hk
    by_cases hlt : k < n
    · have hkx : k < l.length := by rw [HL.out]; exact hlt
      obtain ⟨ad, rfl, hab, hcell⟩ := (hs.below hb).at_ hkx
      have hx0 := hx _ (List.getElem_mem hkx)
      have hts := modL_take l N hkx
      have htm : l[k].tmod (N : Int) = l[k] % (N : Int) := Int.tmod_eq_emod_of_nonneg hx0
      obtain ⟨x, hxe⟩ : ∃ x, x = l[k] := ⟨_, rfl⟩
      rw [← hxe] at hcell hts htm hx0
      have HX := Lib.hid hts
      clear hxe hts
      have hll : ((modL l N).take k).length ≤ k := List.length_take_le _ _
      go_wp2_with (at_builtin; refine wpList_app1 _ (x % (N : Int)) rfl _ _ rfl w.heap.size _ _ rfl rfl hown (by omega) hb.size ?_; intro v' w1 hg)
      go_roundw
      case rel => exact ⟨k + 1, by rw [HL.out]; omega, by go_num, by rw [HX.out]; exact hg.own, hg.below hb hown (Nat.le_refl _) hb.size⟩
      case measure => simp [intOf]; omega
    · obtain rfl : k = n := by omega
      rw [List.take_of_length_le (by rw [modL_len, HL.out]; exact Nat.le_refl _)] at hown
      obtain ⟨A2, n2, c2, rfl, hl2, _, _, hs2⟩ := hown.shapeN
      have HON := Lib.hid (ronce_any A2 n2 c2 (modL l N) hl2 (fun x hx => by have := modL_in l HN.out.1 x hx; have := HN.out.2; constructor <;> omega) (by rw [← hl2, modL_len, HL.out]; exact HR.out) wr hs2)
      have HB := Lib.hid hb
      clear hown hb hs2 hl2
      go_wp2_with fail
      refine HON.out.mono ?_
      rintro _ w3 ⟨v3, rfl, ho3, hb3⟩
      obtain ⟨A3, n3, c3, rfl, _⟩ := ho3.shapeN
      go_wp2
      go_ret
      exact ⟨_, rfl, ho3.more HB.out.size, HB.out.trans (hb3.mono HB.out.size)⟩
end Go.Proofs.YtflkiddmakeabaaGreatDoor

/- Walks: Place again, with where its digest lies; fold.drawn, ref5.places. -/
set_option linter.unusedVariables false
namespace Go.Proofs.YtflkiddmakeabaaGreatDoor
open Go.RowKit Zp
def PlaceNew {p : Nat} [NeZero p] (k c s : Nat) (D : List Int) (n : Int) (w : World) (e : Ending) (w' : World) : Prop := e = .returned (vi (placeV p (drawnL p k D) n)) ∧ Chn w' c s (drawnL p k D) ∧ w.grownBy w' (some c) ∧ DigNew w' c w.heap.size
set_option maxRecDepth 100000 in
set_option maxHeartbeats 4000000 in
theorem chplace_new (p S b s k z c : Nat) [NeZero p] (oo : Nat → Nat → Fin p) (D : List Int) (n : Int) (hn1 : 1 ≤ n) (hn2 : n ≤ 65536) (w : World) (F : Fld w S b p) (G : Spg w s b k z oo) (hS : S ≤ c) (hsc : s < c) (hC : Chn w c s D) :
    Calls Tryz.prog 75 #[.pointer (some ⟨c, 0, none⟩), vi n] w fun e w' => PlaceNew (p := p) k c s D n w e w' := by
  have hm := F.max
  have hd := Lib.hid (chdraw_any p S b s k z c oo D w F G hS hsc hC)
  have HF := Lib.hid F
  have HG := Lib.hid G
  have hcw := hC.lt
  clear F G hC
  go_enter Tryz.func75, Tryz.ntmps75
  go_wp2_with fail
  refine (hd.out).mono ?_
  rintro _ w3 ⟨rfl, hc3, hg3, hnw3⟩
  obtain ⟨x0, hx0⟩ := digL_bounds (p := p) (k := k) (4 :: D) (show 0 < 4 by omega)
  obtain ⟨x1, hx1⟩ := digL_bounds (p := p) (k := k) (4 :: D) (show 1 < 4 by omega)
  have hbc : Below c w w3 := (Below.refl c w).grown hg3 (by omega) (fun k hk => by injection hk with hk; omega)
  have hF3 := HF.out.below hbc hS
  have hG3 := HG.out.below hbc hsc
  obtain ⟨g, cg, t, cs, h1, h2, h3, h4, h5, h6, h7, h8⟩ := id hc3
  have hc0 : w3.cell? ⟨c, 0, none⟩ = some (.pointer (some ⟨s, 0, none⟩)) := (Blk.cell h1 0).trans rfl
  have hcd3 : w3.cell? ⟨c, 1, none⟩ = some (.slice (some ⟨g, 0, none⟩) 4 cg) := (Blk.cell h1 1).trans rfl
  have hg1 : w3.cell? ⟨g, 1, none⟩ = some (vi (fv x1)) := by
    obtain ⟨ad, ea, _, hc⟩ := SL.at_ (k := 1) h4 (by rw [h5]; omega)
    injection ea with ea
    subst ea
    rw [Addr.add_mid] at hc
    rw [hc, ← hx1]
    simp only [drawnL, List.getD, List.getElem?_eq_getElem (show 1 < (digL p k (4 :: D)).length by rw [digL_len]; omega), Option.getD_some]
  have e0 : (drawnL p k D).getD 0 0 = fv x0 := hx0
  have e1 : (drawnL p k D).getD 1 0 = fv x1 := hx1
  rw [e0]
  have a1 := fv_nonneg x0
  have a2 := fv_lt x0
  have b1 := fv_nonneg x1
  have b2 := fv_lt x1
  obtain ⟨M, hM⟩ : ∃ M, M = fv x0 * (p : Int) := ⟨_, rfl⟩
  have m1 : 0 ≤ M := by rw [hM]; exact Int.mul_nonneg a1 (by omega)
  have m2 : M ≤ 4611686018427387904 := by
    rw [hM]
    have := Int.mul_le_mul (show fv x0 ≤ 2147483647 by omega) (show (p : Int) ≤ 2147483647 by omega) (by omega) (by omega)
    omega
  have HR := Lib.hid (show PlaceNew (p := p) k c s D n w (.returned (vi ((M + fv x1) % n))) w3 from ⟨by unfold placeV; rw [e0, e1, hM], hc3, hg3, hnw3⟩)
  have HFD := Lib.hid (fun a => sfield_s s b k z oo (w3.drewN a) (hG3.below (below_drewN (Below.refl _ _) a) (block_lt_of_cell hG3.c0)))
  have HPP := Lib.hid (fun a => p_any p b (w3.drewN a) (by exact hF3.c0))
  have w1 : IntKind.i64.wrap (fv x0 * (p : Int)) = M := by rw [← hM]; exact IntWalk.i64_in _ (by omega)
  have w2 : IntKind.i64.wrap (M + fv x1) = M + fv x1 := IntWalk.i64_in _ (by omega)
  have nz : ¬ n = 0 := by omega
  have tm : (M + fv x1).tmod n = (M + fv x1) % n := Int.tmod_eq_emod_of_nonneg (by omega)
  clear hM hx0 hx1 e0 e1 hnw3 hc3 hg3 hbc hF3 hG3 h1 h2 h3 h4 h5 h6 h7 h8
  go_wp2
  go_quiet ((first | (go_at_call 105; exact quiet_eq (HFD.out _)) | (go_at_call 67; exact quiet_eq (HPP.out _))))
  go_wp2
  go_ret
  obtain ⟨r1, r2, r3, r4⟩ := HR.out
  exact ⟨r1, r2, ⟨r3.os, r3.tape, r3.output, r3.size, r3.block⟩, r4⟩
def RPlaceNew {p : Nat} [NeZero p] (k m : Nat) (D : List Int) (n : Int) (w : World) (e : Ending) (w' : World) : Prop := e = .returned (vi (placeV p (drawnL p k D) n)) ∧ RCh w' m p (drawnL p k D) ∧ w.grownBy w' (some m) ∧ DigNew w' m w.heap.size
set_option maxRecDepth 100000 in
set_option maxHeartbeats 2000000 in
theorem rplace_new (p k : Nat) [NeZero p] (K : Pk p k) (m : Nat) (D : List Int) (n : Int) (hn1 : 1 ≤ n) (hn2 : n ≤ 65536) (w : World) (hm : RCh w m p D) :
    Calls Tryz.prog 88 #[.pointer (some ⟨m, 0, none⟩), vi n] w fun e w' => RPlaceNew (p := p) k m D n w e w' := by
  have hs := rstep_any p k K 4 ⟨by omega, by omega⟩ m D none 0 0 [] rfl (by simp) (by omega) w hm SL.nil
  rw [List.append_nil] at hs
  have HS := Lib.hid hs
  have hpm := K.pm
  clear hs hm K
  go_enter Tryz.func88, Tryz.ntmps88
  go_wp2_with fail
  refine (HS.out).mono ?_
  rintro e w2 ⟨⟨r, rfl⟩, hc, hg, hnew⟩
  obtain ⟨g, cap, d0, d1, d2, d3⟩ := hc.dig
  obtain ⟨x0, hx0⟩ := digL_bounds (p := p) (k := k) (4 :: D) (show 0 < 4 by omega)
  obtain ⟨x1, hx1⟩ := digL_bounds (p := p) (k := k) (4 :: D) (show 1 < 4 by omega)
  rw [hx0] at d2
  rw [hx1] at d3
  have a1 := fv_nonneg x0
  have a2 := fv_lt x0
  have b1 := fv_nonneg x1
  have b2 := fv_lt x1
  obtain ⟨M, hM⟩ : ∃ M, M = fv x0 * (p : Int) := ⟨_, rfl⟩
  have m1 : 0 ≤ M := by rw [hM]; exact Int.mul_nonneg a1 (by omega)
  have m2 : M ≤ 4611686018427387904 := by
    rw [hM]
    have := Int.mul_le_mul (show fv x0 ≤ 2147483647 by omega) (show (p : Int) ≤ 2147483647 by omega) (by omega) (by omega)
    omega
  have HR := Lib.hid (show RPlaceNew (p := p) k m D n w (.returned (vi ((M + fv x1) % n))) w2 from ⟨by unfold placeV; rw [show drawnL p k D = digL p k (4 :: D) from rfl, hx0, hx1, hM], hc, hg, hnew⟩)
  have w1 : IntKind.i64.wrap (fv x0 * (p : Int)) = M := by rw [← hM]; exact IntWalk.i64_in _ (by omega)
  have w2' : IntKind.i64.wrap (M + fv x1) = M + fv x1 := IntWalk.i64_in _ (by omega)
  have nz : ¬ n = 0 := by omega
  have tm : (M + fv x1).tmod n = (M + fv x1) % n := Int.tmod_eq_emod_of_nonneg (by omega)
  clear hM hx0 hx1 hc hg hnew
  go_wp2
  go_quiet (fail)
  go_wp2
  go_ret
  obtain ⟨r1, r2, r3, r4⟩ := HR.out
  exact ⟨r1, r2, ⟨r3.os, r3.tape, r3.output, r3.size, r3.block⟩, r4⟩
/-- a chain after some draws -/
def iterP (p k : Nat) [NeZero p] (D : List Int) : Nat → List Int
  | 0 => D
  | n + 1 => drawnL p k (iterP p k D n)
theorem grownTwo {a b d : World} {c g : Nat} (h : a.grownBy b (some c)) (h' : b.grownBy d (some g)) (hg : a.heap.size ≤ g) : a.grownBy d (some c) :=
  ⟨h'.os.trans h.os, h'.tape.trans h.tape, h'.output.trans h.output, Nat.le_trans h.size h'.size, fun k hk hne => (h'.block k (Nat.lt_of_lt_of_le hk h.size) (by intro e; injection e with e; omega)).trans (h.block k hk hne)⟩
/-- the places that a chain gives -/
def placesL (p k : Nat) [NeZero p] (D : List Int) (N : Int) (n : Nat) : List Int := (List.range n).map fun i => placeV p (iterP p k D (i + 1)) N
theorem placesL_succ (p k : Nat) [NeZero p] (D : List Int) (N : Int) (n : Nat) : placesL p k D N (n + 1) = placesL p k D N n ++ [placeV p (iterP p k D (n + 1)) N] := by simp [placesL, List.range_succ]
theorem placesL_len (p k : Nat) [NeZero p] (D : List Int) (N : Int) (n : Nat) : (placesL p k D N n).length = n := by simp [placesL]
theorem placesL_in (p k : Nat) [NeZero p] (D : List Int) (N : Int) (n : Nat) (hN : 1 ≤ N) : ∀ x ∈ placesL p k D N n, 0 ≤ x ∧ x < N := fun x hx => by
  obtain ⟨i, _, rfl⟩ := List.mem_map.1 hx
  exact ⟨Int.emod_nonneg _ (by omega), Int.emod_lt_of_pos _ (by omega)⟩
def PlacesIs {p : Nat} [NeZero p] (k c s : Nat) (D : List Int) (N : Int) (n : Nat) (w : World) (e : Ending) (w' : World) : Prop :=
  ∃ v, e = .returned v ∧ Own w' w.heap.size v (placesL p k D N n) ∧ Chn w' c s (iterP p k D n) ∧ w.grownBy w' (some c)
def PlacesRel {p : Nat} [NeZero p] (k c s : Nat) (D : List Int) (N : Int) (w : World) (n : Nat) (v t : Value) (wr : World) : Prop :=
  ∃ i : Nat, i ≤ n ∧ v = .slice (some ⟨w.heap.size, 0, none⟩) i n ∧ t = vi i ∧ Own wr w.heap.size v (placesL p k D N i) ∧ Chn wr c s (iterP p k D i) ∧ w.grownBy wr (some c)
set_option maxRecDepth 100000 in
set_option maxHeartbeats 4000000 in
theorem drawn_any (p S b s k z c : Nat) [NeZero p] (oo : Nat → Nat → Fin p) (D : List Int) (N : Int) (hN1 : 1 ≤ N) (hN2 : N ≤ 65536) (n : Nat) (hn1 : 1 ≤ n) (hn2 : n ≤ 65536) (w : World) (F : Fld w S b p) (G : Spg w s b k z oo) (hS : S ≤ c) (hsc : s < c) (hC : Chn w c s D) :
    Calls Tryz.prog 31 #[.pointer (some ⟨c, 0, none⟩), vi N, vi n] w fun e w' => PlacesIs (p := p) k c s D N n w e w' := by
  have HD := Lib.hid (fun D (W : World) (F : Fld W S b p) (G : Spg W s b k z oo) hC => chplace_new p S b s k z c oo D N hN1 hN2 W F G hS hsc hC)
  have HF := Lib.hid F
  have HG := Lib.hid G
  have hcw := hC.lt
  have hmk := make_ints0 n (by omega)
  have hO0 := own_made0 w w.heap.size n (Nat.le_refl _) (by omega)
  have hb0 : Below w.heap.size w (w.alloc (.cells (zeros n) 3)) := (Below.refl _ _).alloc (Nat.le_refl _) _
  have hC0 := hC.below hb0
  have hg0 := grown_of_below hb0 (some c)
  clear F G hC
  go_enter Tryz.func31, Tryz.ntmps31
  go_wp2
  generalize World.alloc _ _ = W0 at hO0 hb0 hC0 hg0
  clear hmk hb0
  go_loopw [7, 11] (fun v t wr => PlacesRel (p := p) k c s D N w n v t wr) (fun _ t _ => n - (intOf t).toNat)
  case atStart => exact ⟨0, by omega, rfl, rfl, hO0, hC0, hg0⟩
  case round =>
    clear hO0 hC0 hg0
    obtain ⟨i, hi, rfl, rfl, ho, hc, hg⟩ := hrel
    by_cases hin : i < n
    · have hbc : Below c w wr := (Below.refl c w).grown hg (by omega) (fun k hk => by injection hk with hk; omega)
      have hd := Lib.hid (HD.out _ wr (HF.out.below hbc hS) (HG.out.below hbc hsc) hc)
      have HO := Lib.hid ho
      have HGR := Lib.hid hg
      have i1 : (0 : Int) ≤ (i : Int) := by omega
      have i2 : (i : Int) < (n : Int) := by omega
      have hwl := (World.ownsRow.lt ho w.heap.size rfl).2
      clear hbc hc ho hg
      go_wp2_with fail
      refine (hd.out).mono ?_
      rintro _ w2 ⟨rfl, hc2, hg2, hn2⟩
      have ho2 := HO.out.grown hg2 (.inr (by intro e; have e3 : w.heap.size = c := by { injection e }; omega))
      have hgw2 := grownBy_trans HGR.out hg2
      obtain ⟨X, hX⟩ : ∃ X, X = placeV p (drawnL p k (iterP p k D i)) N := ⟨_, rfl⟩
      have hsu := placesL_succ p k D N i
      rw [show iterP p k D (i + 1) = drawnL p k (iterP p k D i) from rfl, ← hX] at hsu
      rw [← hX]
      have hlk : i = (placesL p k D N i).length := by simp [placesL]
      have HLK := Lib.hid hlk
      have HSU := Lib.hid hsu
      have HC2 := Lib.hid hc2
      have HG2 := Lib.hid hgw2
      have HN2 := Lib.hid (hn2.ne hwl)
      have HO2 := Lib.hid ho2
      clear hlk hsu hX hc2 hg2 hgw2 hn2 ho2
      go_wp2_with (at_builtin; refine wpList_app1_fits w2 X rfl _ _ rfl w.heap.size w.heap.size i n _ rfl rfl HO2.out HLK.out hin ?_; intro w3 ho3 hg3)
      rw [← HSU.out] at ho3
      have hc3 : Chn w3 c s (iterP p k D (i + 1)) := Chn.keepX (show Chn w2 c s (iterP p k D (i + 1)) from HC2.out) hg3 (by omega) HN2.out
      exact ⟨⟨i + 1, by omega, by go_num, rfl, ho3, hc3, grownTwo HG2.out hg3 (Nat.le_refl _)⟩, by simp [intOf]; omega⟩
    · have ei : i = n := by omega
      subst ei
      go_wp2
      go_ret
      exact ⟨_, rfl, ho, hc, hg⟩
def RPlacesIs {p : Nat} [NeZero p] (k m : Nat) (D : List Int) (N : Int) (n : Nat) (w : World) (e : Ending) (w' : World) : Prop :=
  ∃ v, e = .returned v ∧ Own w' w.heap.size v (placesL p k D N n) ∧ RCh w' m p (iterP p k D n) ∧ w.grownBy w' (some m)
set_option maxRecDepth 100000 in
set_option maxHeartbeats 4000000 in
theorem rplaces_any (p k : Nat) [NeZero p] (K : Pk p k) (m : Nat) (D : List Int) (dN h : Nat) (hdN : dN = 2 * h) (hN1 : 1 ≤ h) (hN2 : h ≤ 65536) (sh rt : Int) (n : Nat) (hn2 : n ≤ 65536) (w : World) (hm : RCh w m p D) :
    Calls Tryz.prog 41 #[.pointer (some ⟨m, 0, none⟩), .agg #[vi p, vi dN, vi sh, vi rt], vi n] w fun e w' => RPlacesIs (p := p) k m D h n w e w' := by
  have hb0 : Below w.heap.size w (w.alloc (.cells #[vi p, vi dN, vi sh, vi rt] 30)) := (Below.refl _ _).alloc (Nat.le_refl _) _
  have hB := Blk.new w 30 #[vi p, vi dN, vi sh, vi rt]
  obtain ⟨W, hW⟩ : ∃ W, W = w.alloc (.cells #[vi p, vi dN, vi sh, vi rt] 30) := ⟨_, rfl⟩
  rw [← hW] at hb0 hB
  have HW := Lib.hid hW
  have HR := Lib.hid (fun D (W : World) hm => rplace_new p k K m D (h : Int) (by omega) (by omega) W hm)
  have hmw := hm.lt
  have hm0 := hm.below hb0
  have hg0 := grown_of_below hb0 (some m)
  have hhw : w.heap.size < W.heap.size := hB.lt
  have hq : wrap64 ((dN : Int) / 2) = (h : Int) := by rw [IntWalk.wrap64_in _ (by omega)]; omega
  have HBX := Lib.hid hB
  have HMW := Lib.hid hmw
  have HG0 := Lib.hid hg0
  have HM0 := Lib.hid hm0
  clear hb0 hW hm K hB hm0 hg0 hmw hdN hN1
  go_enter Tryz.func41, Tryz.ntmps41
  go_upto_region 1 with (fail)
  rw [← HW.out]
  go_wp2
  go_loopw [7, 8, 9] (fun v t _ wr => ∃ i : Nat, i ≤ n ∧ t = vi i ∧ Own wr W.heap.size v (placesL p k D h i) ∧ RCh wr m p (iterP p k D i) ∧ W.grownBy wr (some m)) (fun _ t _ _ => n - (intOf t).toNat)
  case atStart => exact ⟨0, Nat.zero_le _, rfl, World.ownsRow_nil _ _ _ _, HM0.out, ⟨rfl, rfl, rfl, Nat.le_refl _, fun _ _ _ => rfl⟩⟩
  case round =>
    obtain ⟨i, hi, rfl, ho, hm, hg⟩ := hrel
    by_cases hin : i < n
    · have hBr := Blk.grown HBX.out hg (by intro e; injection e with e; have := HMW.out; omega)
      have e1 := (hBr.cell 1).trans (show _ = some (vi dN) from rfl)
      have HP := Lib.hid (HR.out _ wr hm)
      have HO := Lib.hid ho
      have HGR := Lib.hid hg
      have i1 : (0 : Int) ≤ (i : Int) := by omega
      have i2 : (i : Int) < (n : Int) := by omega
      have hwr : IntKind.i64.wrap ((i : Int) + 1) = (i : Int) + 1 := IntWalk.i64_in _ (by omega)
      have hll := placesL_len p k D h i
      obtain ⟨xs, hxs⟩ : ∃ xs, xs = placesL p k D h i := ⟨_, rfl⟩
      have hsu := placesL_succ p k D h i
      obtain ⟨X, hX⟩ : ∃ X, X = placeV p (drawnL p k (iterP p k D i)) h := ⟨_, rfl⟩
      rw [show iterP p k D (i + 1) = drawnL p k (iterP p k D i) from rfl, ← hX, ← hxs] at hsu
      have HSU := Lib.hid hsu
      rw [← hxs] at HO hll
      have HLL := Lib.hid hll
      have HXE := Lib.hid hX
      clear hBr ho hm hg hll hxs hsu hX
      go_wp2_with fail
      refine HP.out.mono ?_
      rintro _ w2 ⟨rfl, hm2, hg2, hn2'⟩
      rw [← HXE.out]
      have hne : Value.ownBlock u7 ≠ some m := fun e => by have := (World.ownsRow.lt HO.out m e).1; have := HMW.out; omega
      have ho2 := World.ownsRow.kept HO.out hg2 (by
        rcases hv : Value.ownBlock u7 with _ | g
        · exact .inl rfl
        · exact .inr (by rw [← hv]; exact hne))
      have hgw2 := grownBy_trans HGR.out hg2
      have HO2 := Lib.hid ho2
      have HX2 := Lib.hid (And.intro hm2 (And.intro hgw2 (And.intro hn2' hne)))
      have HSZ := Lib.hid hgw2.size
      have HW2 := Lib.hid hg2.size
      clear hm2 hg2 hgw2 hn2' hne ho2
      go_wp2_with (at_builtin; refine wpList_app1 w2 X rfl _ _ rfl W.heap.size _ _ rfl rfl HO2.out (by have := HLL.out; omega) HSZ.out ?_; intro v3 w3 hg3)
      go_roundw
      case rel =>
        obtain ⟨hm2, hgw2, hn2', hne⟩ := HX2.out
        refine ⟨i + 1, by omega, by go_num, by rw [HSU.out]; exact hg3.own, RCh.keepR (show RCh w2 m p (iterP p k D (i + 1)) from hm2) hg3.grown hne (fun g cap hc e => ?_), ?_⟩
        · obtain ⟨g', cap', hc', hlt⟩ := hn2'
          rw [hc] at hc'
          injection hc' with hc'
          injection hc' with e1 _ _
          injection e1 with e1
          injection e1 with e1 _ _
          have := (World.ownsRow.lt HO.out g e).2
          omega
        · exact ⟨hg3.grown.os.trans hgw2.os, hg3.grown.tape.trans hgw2.tape, hg3.grown.output.trans hgw2.output, Nat.le_trans hgw2.size hg3.grown.size, fun x hx hxm => by
            by_cases hxv : some x = Value.ownBlock u7
            · exact absurd (World.ownsRow.lt HO2.out x hxv.symm).1 (by omega)
            · exact (hg3.grown.block x (Nat.lt_of_lt_of_le hx hgw2.size) hxv).trans (hgw2.block x hx hxm)⟩
      case measure => simp [intOf]; omega
    · have ei : i = n := by omega
      subst ei
      go_wp2
      go_ret
      exact ⟨_, rfl, ho.more (by omega), hm, grownBy_trans HG0.out hg⟩
end Go.Proofs.YtflkiddmakeabaaGreatDoor

/- Walks: follow and tree.Check, of whatever Opening. -/
set_option linter.unusedVariables false
namespace Go.Proofs.YtflkiddmakeabaaGreatDoor
open Go.RowKit Zp
/-- a list that came in, its length alone -/
structure ArgW (n : Nat) (xs : List Int) : Prop where
  len : xs.length = n
  i64 : ∀ x ∈ xs, I64 x
  max : n ≤ 9223372036854775807
theorem ArgS.w {w : World} {A : Option Addr} {n c : Nat} {xs : List Int} (h : ArgS w A n c xs) : ArgW n xs := ⟨h.len, h.i64, by have := h.reach; have := h.cap; omega⟩
end Go.Proofs.YtflkiddmakeabaaGreatDoor

/- Walks of the reference's trees: Some, Left, Leaf, Node. -/
set_option linter.unusedVariables false
namespace Go.Proofs.YtflkiddmakeabaaGreatDoor
open Go.RowKit Zp
theorem shownB_no {l : List Int} {a n : Nat} (h : ∀ j (hj : j < l.length), ¬ ((a : Int) ≤ l[j] ∧ l[j] < (a : Int) + n)) : shownB l a n = false := by
  rw [Bool.eq_false_iff]
  intro hs
  rw [shownB, List.any_eq_true] at hs
  obtain ⟨x, hx, h1⟩ := hs
  obtain ⟨j, hj, rfl⟩ := List.mem_iff_getElem.1 hx
  rw [decide_eq_true_eq] at h1
  exact h j hj h1
theorem shownB_yes {l : List Int} {a n j : Nat} (hj : j < l.length) (h : (a : Int) ≤ l[j] ∧ l[j] < (a : Int) + n) : shownB l a n = true := by
  rw [shownB, List.any_eq_true]
  exact ⟨_, List.getElem_mem hj, by rw [decide_eq_true_eq]; exact h⟩
set_option maxHeartbeats 1000000 in
theorem rsome_any (A : Option Addr) (N c : Nat) (l : List Int) (hl : l.length = N) (hN : N ≤ 9223372036854775806) (a n : Nat) (w : World) (hs : SL w A l) :
    Calls Tryz.prog 151 #[.slice A N c, vi a, vi ((a : Int) + (n : Int))] w fun e w' => e = .returned (.bool (shownB l a n)) ∧ w = w' := by
  have HL := Lib.hid hl
  have HS := Lib.hid hs
  clear hl hs
  go_enter Tryz.func151, Tryz.ntmps151
  go_wp2
  go_loop [7] (fun i => ∃ k : Nat, k ≤ N ∧ i = vi k ∧ ∀ j (h : j < l.length), j < k → ¬ ((a : Int) ≤ l[j] ∧ l[j] < (a : Int) + n)) (fun i => N - (intOf i).toNat)
  case atStart => exact ⟨0, Nat.zero_le _, rfl, fun j _ hj => absurd hj (Nat.not_lt_zero _)⟩
  case round =>
    obtain ⟨k, hk, rfl, hb⟩ := hrel
    have HB := Lib.hid hb
    clear hb
    by_cases hlt : k < N
    · have hkl : k < l.length := by rw [HL.out]; exact hlt
      obtain ⟨ad, rfl, had, hcx⟩ := HS.out.at_ hkl
      have i1 : (0 : Int) ≤ k := by omega
      have i2 : (k : Int) < N := by omega
      have i3 : (k : Int) + 1 ≤ 9223372036854775807 := by omega
      by_cases c1 : (a : Int) ≤ l[k]
      · by_cases c2 : l[k] < (a : Int) + n
        · have HR := Lib.hid (shownB_yes hkl ⟨c1, c2⟩)
          generalize l[k] = x at c1 c2 hcx
          go_wp2
          go_ret
          exact ⟨ret_bool HR.out.symm, rfl⟩
        · have HBB : Hid (∀ j (h : j < l.length), j < k + 1 → ¬ ((a : Int) ≤ l[j] ∧ l[j] < (a : Int) + n)) := Lib.hid (fun j h hj => by
            by_cases e : j < k
            · exact HB.out j h e
            · obtain rfl : j = k := by omega
              exact fun g => c2 g.2)
          generalize l[k] = x at c1 c2 hcx
          go_wp2
          go_round
          case rel => exact ⟨k + 1, by omega, by go_num, HBB.out⟩
          case measure => simp [intOf]; omega
      · have HBB : Hid (∀ j (h : j < l.length), j < k + 1 → ¬ ((a : Int) ≤ l[j] ∧ l[j] < (a : Int) + n)) := Lib.hid (fun j h hj => by
          by_cases e : j < k
          · exact HB.out j h e
          · obtain rfl : j = k := by omega
            exact fun g => c1 g.1)
        generalize l[k] = x at c1 hcx
        go_wp2
        go_round
        case rel => exact ⟨k + 1, by omega, by go_num, HBB.out⟩
        case measure => simp [intOf]; omega
    · obtain rfl : k = N := by omega
      have HR : Hid (shownB l a n = false) := Lib.hid (shownB_no fun j hj => HB.out j hj (by rw [← HL.out]; exact hj))
      go_wp2
      go_ret
      exact ⟨ret_bool HR.out.symm, rfl⟩
set_option maxHeartbeats 1000000 in
theorem rleft_any (n : Nat) (hn1 : 2 ≤ n) (hn : n ≤ 65536) (w : World) :
    Calls Tryz.prog 113 #[vi n] w fun e w' => e = .returned (vi (leftN n)) ∧ w = w' := by
  go_enter Tryz.func113, Tryz.ntmps113
  go_wp2
  go_loop [3] (fun v => LeftRel n v) (fun v => n - (intOf v).toNat)
  case atStart => exact ⟨1, rfl, by omega, 0, rfl⟩
  case round =>
    obtain ⟨M, rfl, hM, hpw⟩ := hrel
    have hp := hpw.pos
    have HPW := Lib.hid hpw
    clear hpw
    by_cases h : M * 2 < n
    · go_wp2
      go_round
      case rel => exact ⟨2 * M, by go_num, by omega, HPW.out.dbl⟩
      case measure => simp [intOf]; omega
    · have hl : M = leftN n := HPW.out.left hM (by omega)
      have HLE := Lib.hid hl
      clear hl
      go_wp2
      go_ret
      exact ⟨ret_int (by rw [← HLE.out]), rfl⟩
set_option maxHeartbeats 1000000 in
theorem rleaf_any (p k : Nat) [NeZero p] (K : Pk p k) (A : Option Addr) (n c : Nat) (l : List Int) (hl : l.length = n) (hlI : ∀ x ∈ l, I64 x) (hr : n * 8 ≤ 140737488351232) (w : World) (hs : SL w A l) :
    Calls Tryz.prog 112 #[vi p, .slice A n c] w fun e w' => DigIs p k (0 :: l) w e w' := by
  have hba : Below w.heap.size w (w.alloc (.cells #[vi 0] 3)) := (Below.refl _ _).alloc (Nat.le_refl _) _
  have ho1 : Own (w.alloc (.cells #[vi 0] 3)) w.heap.size (.slice (some ⟨w.heap.size, 0, none⟩) 1 1) [0] := own_lit w w.heap.size [0] (Nat.le_refl _) (by simp [maxLen])
  have hs1 := hs.below hba
  have HH := Lib.hid (fun A n c (L : List Int) (h1 : L.length = n) h2 h3 W hs => rhash_dig p k K.p3 K.pm K.k2 K.kp K.least K.cop A n c L h1 h2 h3 W hs)
  have HI := Lib.hid (show ∀ x ∈ [0] ++ l, I64 x from fun x hx => by
    rcases List.mem_append.1 hx with hx | hx
    · simp at hx; subst hx; constructor <;> omega
    · exact hlI x hx)
  have HL := Lib.hid hl
  have HBA := Lib.hid hba
  have HO1 := Lib.hid ho1
  have HS1 := Lib.hid hs1
  clear hl hlI hs hs1 hba ho1
  go_enter Tryz.func112, Tryz.ntmps112
  go_wp2_with (at_builtin; refine wpList_appA _ rfl _ _ rfl w.heap.size _ [0] A n c l rfl rfl HL.out HO1.out HS1.out (by simp; omega) (by simp) ?_; intro v2 w2 hg2; have ho2 := hg2.own; have hb2 := hg2.below HBA.out HO1.out (Nat.le_refl _) HBA.out.size; clear hg2)
  obtain ⟨A3, n3, c3, rfl, hl3, _, _, hs3⟩ := ho2.shapeN
  have hn3 : n3 = 1 + n := by rw [← hl3]; simp [HL.out]; omega
  have HX := Lib.hid (HH.out A3 n3 c3 _ hl3 HI.out (by omega) w2 hs3)
  have HB2 := Lib.hid hb2
  clear hl3 hs3 ho2 hb2 hn3
  go_wp2_with fail
  refine HX.out.mono ?_
  rintro _ w4 ⟨g, cap, cs, rfl, h1, h2, h3, h4, h5, h6⟩
  have HFIN : Hid (DigIs p k (0 :: l) w (.returned (.slice (some ⟨g, 0, none⟩) 4 cap)) w4) := Lib.hid ⟨g, cap, cs, rfl, h1, h2, h3, h4, Nat.le_trans HB2.out.size h5, HB2.out.trans (h6.mono HB2.out.size)⟩
  clear h1 h2 h3 h4 h5 h6
  go_wp2
  go_ret
  exact HFIN.out
set_option maxRecDepth 100000 in
set_option maxHeartbeats 2000000 in
theorem rnode_any (p k : Nat) [NeZero p] (K : Pk p k) (A B : Option Addr) (n m c d : Nat) (l r : List Int) (hl : l.length = n) (hr : r.length = m) (hn : n ≤ 1000) (hm : m ≤ 1000) (hlI : ∀ x ∈ l, I64 x) (hrI : ∀ x ∈ r, I64 x) (w : World) (hs : SL w A l) (ht : SL w B r) :
    Calls Tryz.prog 114 #[vi p, .slice A n c, .slice B m d] w fun e w' => DigIs p k (1 :: (l ++ r)) w e w' := by
  have hba : Below w.heap.size w (w.alloc (.cells #[vi 1] 3)) := (Below.refl _ _).alloc (Nat.le_refl _) _
  have ho1 : Own (w.alloc (.cells #[vi 1] 3)) w.heap.size (.slice (some ⟨w.heap.size, 0, none⟩) 1 1) [1] := own_lit w w.heap.size [1] (Nat.le_refl _) (by simp [maxLen])
  have hs1 := hs.below hba
  have HH := Lib.hid (fun A n c (L : List Int) (h1 : L.length = n) h2 h3 W hs => rhash_dig p k K.p3 K.pm K.k2 K.kp K.least K.cop A n c L h1 h2 h3 W hs)
  have HI := Lib.hid (show ∀ x ∈ ([1] ++ l) ++ r, I64 x from fun x hx => by
    rcases List.mem_append.1 hx with hx | hx
    · rcases List.mem_append.1 hx with hx | hx
      · simp at hx; subst hx; constructor <;> omega
      · exact hlI x hx
    · exact hrI x hx)
  have HL := Lib.hid hl
  have HR := Lib.hid hr
  have HBA := Lib.hid hba
  have HO1 := Lib.hid ho1
  have HS1 := Lib.hid hs1
  have HT := Lib.hid ht
  clear hl hlI hs hs1 hba ho1 hr hrI ht
  obtain ⟨W, hW⟩ : ∃ W, W = w.alloc (.cells #[vi 1] 3) := ⟨_, rfl⟩
  have HW := Lib.hid hW
  clear hW
  go_enter Tryz.func114, Tryz.ntmps114
  go_wp2_with (first
    | (at_builtin; refine wpList_appA _ rfl _ _ rfl w.heap.size _ [1] A n c l rfl rfl HL.out HO1.out HS1.out (by simp; omega) (by simp) ?_; intro v2 w2 hg2; have ho2 := hg2.own; have hb2 := hg2.below HBA.out HO1.out (Nat.le_refl _) HBA.out.size; have hst2 := HT.out.below hb2; have hmx : ([1] ++ l).length + m ≤ 17592186044416 := (by simp [HL.out]; omega); have hsz2 := hb2.size; clear hg2)
    | (at_builtin; refine wpList_appA w2 rfl _ _ rfl w.heap.size _ ([1] ++ l) B m d r rfl rfl HR.out ho2 hst2 hmx hsz2 ?_; intro v3 w3 hg3; have ho3 := hg3.own; have hb3 := hg3.below hb2 ho2 (Nat.le_refl _) hb2.size; clear hg3))
  obtain ⟨A3, n3, c3, rfl, hl3, _, _, hs3⟩ := ho3.shapeN
  have hn3 : n3 = 1 + n + m := by rw [← hl3]; simp [HL.out, HR.out]; omega
  have HX := Lib.hid (HH.out A3 n3 c3 _ hl3 HI.out (by omega) w3 hs3)
  have HB3 := Lib.hid hb3
  clear hl3 hs3 ho3 hb3 hn3 ho2 hb2 hst2 hmx hsz2
  go_wp2_with fail
  refine HX.out.mono ?_
  rintro _ w4 ⟨g, cap, cs, rfl, h1, h2, h3, h4, h5, h6⟩
  have HFIN : Hid (DigIs p k (1 :: (l ++ r)) w (.returned (.slice (some ⟨g, 0, none⟩) 4 cap)) w4) := Lib.hid ⟨g, cap, cs, rfl, h1, h2, by simpa using h3, h4, Nat.le_trans HB3.out.size h5, HB3.out.trans (h6.mono HB3.out.size)⟩
  clear h1 h2 h3 h4 h5 h6
  go_wp2
  go_ret
  exact HFIN.out
end Go.Proofs.YtflkiddmakeabaaGreatDoor

/- The walk of the reference's Climb.Up. -/
set_option linter.unusedVariables false
namespace Go.Proofs.YtflkiddmakeabaaGreatDoor
open Go.RowKit Zp
end Go.Proofs.YtflkiddmakeabaaGreatDoor

/- The walk of the reference's Climb.Up: a row that is shown; every group. -/
set_option linter.unusedVariables false
namespace Go.Proofs.YtflkiddmakeabaaGreatDoor
open Go.RowKit Zp
end Go.Proofs.YtflkiddmakeabaaGreatDoor

/- The walk of the reference's Climb.Up, at every group. -/
set_option linter.unusedVariables false
namespace Go.Proofs.YtflkiddmakeabaaGreatDoor
open Go.RowKit Zp
end Go.Proofs.YtflkiddmakeabaaGreatDoor
