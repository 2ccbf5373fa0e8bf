/- A bundle of texts: Hd2, Jb7, Jb8, AppA, Jb9, Jbc, Jbd, Jbe, Jbf, Jbg. -/
import Derived.Deep.RegionHeld3
import Derived.Test.YtpkhcncempoohaaGreatDoorQ04
import Derived.Deep.DeepCutAuto
import Derived.Test.YtpkhcncempoohaaGreatDoorQ01
import Derived.Test.YtpkhcncempoohaaGreatDoorQ02
import Derived.Deep.AppendLies
import Derived.Deep.QuietTactic
import Derived.BigQuiet
import Derived.Outline
import Derived.WalkLawsBesides
import Derived.WalkSpells
set_option linter.unusedVariables false
set_option linter.unusedSimpArgs false
set_option linter.unusedSectionVars false
namespace Go.Proofs.YtpkhcncempoohaaGreatDoor
theorem wpAnyH_take_at {P : Program} {ops : Array Oper} {Q : Exit → Act → World → Prop} {md : Region.Mode} {S : World → Prop} {i d : Nat} {oi : Oper} {v : Value} {fuel : Nat} {listed : Array Bool} {a : Act} {w : World} (hi : ops[i]? = some oi) (hd : oi.dst = some d)
    (hs : Region.noSelect ops = true) (hf : Region.free md ops listed i = true) (hr : (Region.ready md ops listed).contains i = true)
    (hQ : ∀ c a w, Q (.panic c) (a.put (some d) v) w → Q (.panic c) a w) (hy : YieldsIf P ops S oi v a) (hS : S w)
    (h : wpAnyH P md ops Q S fuel (listed.setIfInBounds i true) (a.put (some d) v) w) : wpAnyH P md ops Q S (fuel + 1) listed a w := by
  rw [← hd] at h hQ
  exact wpAnyH_take hi hs hf hr hQ hy hS h
theorem tkH {P : Program} {ops : Array Oper} {Q : Exit → Act → World → Prop} {md : Region.Mode} {S : World → Prop} {d : Nat} {oi : Oper} {v : Value} {fuel : Nat} {listed : Array Bool} {a a' : Act} {w : World} (i : Nat)
    (h : wpAnyH P md ops Q S fuel (listed.setIfInBounds i true) a' w) (hi : ops[i]? = some oi := by rfl) (hd : oi.dst = some d := by rfl)
    (hs : Region.noSelect ops = true := by kernel_rfl) (hf : Region.free md ops listed i = true := by kernel_rfl) (hr : (Region.ready md ops listed).contains i = true := by kernel_rfl)
    (hQ : ∀ c a w, Q (.panic c) (a.put (some d) v) w → Q (.panic c) a w := by exact (fun _ _ _ h => h)) (hy : YieldsIf P ops S oi v a := by exact (Or.inl ⟨by rfl, by (intro w hSw; (try dsimp only at hSw); go_simp; try with_reducible rfl)⟩)) (hS : S w := by assumption)
    (ha : a.put (some d) v = a' := by first | (simp only [Act.put, List.setIfInBounds_toArray, List.set_cons_zero, List.set_cons_succ]; done) | (simp only [Act.put, List.setIfInBounds_toArray, List.set_cons_zero, List.set_cons_succ]; rfl) | rfl) : wpAnyH P md ops Q S (fuel + 1) listed a w := wpAnyH_take_at hi hd hs hf hr hQ hy hS (ha ▸ h)
theorem stH {P : Program} {ops : Array Oper} {Q : Exit → Act → World → Prop} {md : Region.Mode} {S : World → Prop} {o : Oper} {fuel : Nat} {listed : Array Bool} {a : Act} {w : World} (i : Nat)
    (h : ∀ K' : Act → World → Prop, Shut (∀ a w, S w → (S w → wpAnyH P md ops Q S fuel (listed.setIfInBounds i true) a w) → K' a w) → if Region.wanted o (yielded ops a.tmps) = true then Oper.wp P o a w K' Q else K' (a.put o.dst undef) w)
    (hr : Region.ready md ops listed = [i] := by kernel_rfl) (ho : ops[i]? = some o := by rfl) : wpAnyH P md ops Q S (fuel + 1) listed a w :=
  wpAnyH_ready (rs := [i]) hr (by simp) (AllReadyH.cons ho h AllReadyH.nil)
end Go.Proofs.YtpkhcncempoohaaGreatDoor

namespace Go.Proofs.YtpkhcncempoohaaGreatDoor
open Go.RowKit Zp
def ITE (w : World) (ad : Addr) (i : Nat) (x : InsI) : Prop := ad.block < w.heap.size ∧ w.cell? (ad.add (i * 4)) = some (vi x.op) ∧ w.cell? (ad.add (i * 4 + 1)) = some (vi x.a) ∧ w.cell? (ad.add (i * 4 + 2)) = some (vi x.b) ∧ w.cell? (ad.add (i * 4 + 3)) = some (vi x.c) ∧ InsOk x
def IT (w : World) (A : Option Addr) (code : List InsI) : Prop := ∀ i (h : i < code.length), ∃ ad, A = some ad ∧ ITE w ad i code[i]
theorem ITE.below {w w' : World} {ad : Addr} {i : Nat} {x : InsI} (h : ITE w ad i x) (hb : Below w.heap.size w w') : ITE w' ad i x := by
  obtain ⟨h0, h1, h2, h3, h4, h5⟩ := h
  exact ⟨Nat.lt_of_lt_of_le h0 hb.size, (hb.cell (block_lt_of_cell h1)).trans h1, (hb.cell (block_lt_of_cell h2)).trans h2, (hb.cell (block_lt_of_cell h3)).trans h3, (hb.cell (block_lt_of_cell h4)).trans h4, h5⟩
theorem IT.below {w w' : World} {A : Option Addr} {code : List InsI} (h : IT w A code) (hb : Below w.heap.size w w') : IT w' A code := fun i hi => by
  obtain ⟨ad, h1, h2⟩ := h i hi
  exact ⟨ad, h1, h2.below hb⟩
theorem IT.nil (w : World) (A : Option Addr) : IT w A [] := fun i hi => by simp at hi
theorem ITE.cells {w : World} {ad : Addr} {i : Nat} {x : InsI} (h : ITE w ad i x) : w.cell? (ad.add (i * 4)) = some (vi x.op) ∧ w.cell? ⟨(ad.add (i * 4)).block, (ad.add (i * 4)).off + 1, none⟩ = some (vi x.a) ∧ w.cell? ⟨(ad.add (i * 4)).block, (ad.add (i * 4)).off + 2, none⟩ = some (vi x.b) ∧ w.cell? ⟨(ad.add (i * 4)).block, (ad.add (i * 4)).off + 3, none⟩ = some (vi x.c) := by
  obtain ⟨_, h1, h2, h3, h4, _⟩ := h
  have e : ∀ k, k = 1 ∨ k = 2 ∨ k = 3 → ad.add (i * 4 + k) = ⟨(ad.add (i * 4)).block, (ad.add (i * 4)).off + k, none⟩ := fun k hk => by
    rw [← add_of_add]
    rcases hk with rfl | rfl | rfl <;> simp [Addr.add]
  exact ⟨h1, by rw [← e 1 (by omega)]; exact h2, by rw [← e 2 (by omega)]; exact h3, by rw [← e 3 (by omega)]; exact h4⟩
theorem insAt_get {code : List InsI} {k : Nat} (h : k < code.length) : insAt code k = code[k] := by
  unfold insAt
  rw [List.getD_eq_getElem?_getD, List.getElem?_eq_getElem h]
  rfl
def sumE {p : Nat} [NeZero p] (code : List InsI) (r : Nat → Fin p) (f : Nat → InsI → Fin p) (k : Nat) : Fin p := r (20 + k) * f k (insAt code k)
set_option maxRecDepth 100000 in
set_option maxHeartbeats 4000000 in
theorem jsum_any (j b p : Nat) [NeZero p] (g n cA : Nat) (rw : Nat → Int) (AI : Option Addr) (L cI : Nat) (code : List InsI) (hLn : code.length = L) (hn : n = 20 + L) (KN : Nat) (hKK : ∀ (args : Array Value) (w : World), (callFunc KN args).run Tryz.prog w = .ok (.enter KN args) w) (f : Nat → InsI → Fin p) (w : World) (h : JR w j b p g n cA rw) (hcl : w.cell? ⟨j, 2, none⟩ = some (.slice AI L cI)) (hIT : IT w AI code)
    (hf : ∀ W, Below w.heap.size w W → ∀ k (hk : k < L) (x : InsI), InsOk x → x = insAt code k → Calls Tryz.prog KN #[vi k, insV x] W (GivesE (f k x) W)) :
    Calls Tryz.prog 138 #[.pointer (some ⟨j, 0, none⟩), .func (.func KN) #[] #[]] w fun e w' => e = .returned (vi (fv (sumI code (rE p rw) f))) ∧ Below w.heap.size w w' := by
  have hp2 := h.max
  have hbig := h.big
  have hI := h.i64
  have HJ := Lib.hid h
  have HIT := Lib.hid (And.intro hIT hLn)
  have HCL := Lib.hid hcl
  have HF := Lib.hid hf
  have HI := Lib.hid hI
  obtain ⟨G, hG⟩ : ∃ G, G = sumE code (rE p rw) f := ⟨_, rfl⟩
  have hS : sumI code (rE p rw) f = sumT L G := by rw [hG, ← hLn]; rfl
  rw [hS]
  have HG := Lib.hid hG
  clear h hIT hf hI hS hG hLn
  go_enter Tryz.func138, Tryz.ntmps138
  go_wp2
  go_loopw [5, 14] (fun sv i wr => ∃ t : Nat, t ≤ L ∧ sv = vi (fv (sumT t G)) ∧ i = vi t ∧ Below w.heap.size w wr) (fun _ i _ => L - (intOf i).toNat)
  case atStart => exact ⟨0, Nat.zero_le _, by rw [sumT, fv_zero], rfl, Below.refl _ _⟩
  case round =>
    rename World => w1
    obtain ⟨t, ht, rfl, rfl, hb⟩ := hrel
    by_cases htl : t < L
    · have htc : t < code.length := by rw [HIT.out.2]; exact htl
      obtain ⟨ad, rfl, hE⟩ := (HIT.out.1.below hb) t htc
      obtain ⟨d0, d1, d2, d3⟩ := hE.cells
      have hok := hE.2.2.2.2.2
      have hx : code[t] = insAt code t := (insAt_get htc).symm
      have hst : sumT (t + 1) G = sumT t G + rE p rw (20 + t) * f t code[t] := by rw [sumT_succ, HG.out, sumE, hx]
      obtain ⟨x, hxx⟩ : ∃ x, x = code[t] := ⟨_, rfl⟩
      rw [← hxx] at d0 d1 d2 d3 hok hx hst
      have i1 : (0 : Int) ≤ (t : Int) := by omega
      have i2 : (t : Int) < (L : Int) := by omega
      have i3 : (0 : Int) ≤ 20 + (t : Int) := by omega
      have i4 : 20 + (t : Int) < (n : Int) := by omega
      have i5 : (20 + (t : Int)).toNat = 20 + t := by omega
      have i6 : IntKind.i64.wrap (20 + (t : Int)) = 20 + (t : Int) := IntWalk.i64_in _ (by constructor <;> omega)
      have hb0 : Below w1.heap.size w1 (w1.alloc (.cells #[vi x.op, vi x.a, vi x.b, vi x.c] 121)) := (Below.refl _ _).alloc (Nat.le_refl _) _
      have hB0 := Blk.new w1 121 #[vi x.op, vi x.a, vi x.b, vi x.c]
      obtain ⟨W0, hW0⟩ : ∃ W0, W0 = w1.alloc (.cells #[vi x.op, vi x.a, vi x.b, vi x.c] 121) := ⟨_, rfl⟩
      rw [← hW0] at hb0 hB0
      have hbw : Below w.heap.size w W0 := hb.trans (hb0.mono hb.size)
      have KX : Hid (∀ W, Below W0.heap.size W0 W → (W.cell? ⟨j, 0, none⟩ = some (.pointer (some ⟨b, 0, none⟩)) ∧ W.cell? ⟨j, 4, none⟩ = some (.slice (some ⟨g, 0, none⟩) n cA) ∧ W.cell? ⟨g, 20 + t, none⟩ = some (vi (rw (20 + t))) ∧ W.cell? ⟨w1.heap.size, 0, none⟩ = some (vi x.op) ∧ W.cell? ⟨w1.heap.size, 1, none⟩ = some (vi x.a) ∧ W.cell? ⟨w1.heap.size, 2, none⟩ = some (vi x.b) ∧ W.cell? ⟨w1.heap.size, 3, none⟩ = some (vi x.c)) ∧ W.cell? ⟨b, 0, none⟩ = some (vi p) ∧ Below w.heap.size w W) := Lib.hid fun W e => by
        have h1 := hbw.trans (e.mono hbw.size)
        have hJ := HJ.out.below h1
        have hq := hB0.below e hB0.lt
        exact ⟨⟨hJ.cb, hJ.cr, hJ.at_ _ (by omega), (hq.cell 0).trans rfl, (hq.cell 1).trans rfl, (hq.cell 2).trans rfl, (hq.cell 3).trans rfl⟩, hJ.cp, h1⟩
      have h0 : Below W0.heap.size W0 W0.drew := below_drewN (Below.refl _ _) 1
      have HW0 := Lib.hid hW0
      have HST := Lib.hid hst
      have HFN := Lib.hid (fun W hW => HF.out W hW t htl x hok hx)
      have c2 := (hb.cell (block_lt_of_cell HCL.out)).trans HCL.out
      clear hst hx hxx hok hE hb hb0 hB0 hbw hW0
      go_upto_region 5 with (fail)
      rw [← HW0.out]
      refine wp_region_held_drew (S := fun W => W.cell? ⟨j, 0, none⟩ = some (.pointer (some ⟨b, 0, none⟩)) ∧ W.cell? ⟨j, 4, none⟩ = some (.slice (some ⟨g, 0, none⟩) n cA) ∧ W.cell? ⟨g, 20 + t, none⟩ = some (vi (rw (20 + t))) ∧ W.cell? ⟨w1.heap.size, 0, none⟩ = some (vi x.op) ∧ W.cell? ⟨w1.heap.size, 1, none⟩ = some (vi x.a) ∧ W.cell? ⟨w1.heap.size, 2, none⟩ = some (vi x.b) ∧ W.cell? ⟨w1.heap.size, 3, none⟩ = some (vi x.c)) (by kernel_rfl) (KX.out _ h0).1 (fun hHeld => ?_)
      refine tkH 0 ?_
      refine tkH 1 ?_
      refine tkH 2 ?_
      refine tkH 3 ?_
      refine tkH 4 ?_
      refine tkH 5 ?_
      refine tkH 6 ?_
      refine tkH 7 ?_
      refine tkH 8 ?_
      refine tkH 9 ?_
      refine tkH 10 ?_
      refine tkH 11 ?_
      refine tkH 12 ?_
      refine tkH 13 ?_
      refine tkH 14 ?_
      refine tkH 15 ?_
      refine tkH 16 ?_
      refine tkH 17 ?_
      refine tkH 18 ?_
      refine tkH 19 ?_
      refine stH 20 (fun K hK => ?_)
      go_simp
      refine (HFN.out _ (KX.out _ h0).2.2).mono ?_
      rintro _ w5 ⟨z, hz, rfl, hze, hb5⟩
      have e5 : Below W0.heap.size W0 w5 := h0.trans (hb5.mono h0.size)
      rw [← hze] at HST
      clear hb5 hze
      refine hK.out _ _ (KX.out _ e5).1 (fun hHeld => ?_)
      clear hK K
      (try simp only [Act.put, List.setIfInBounds_toArray, List.set_cons_zero, List.set_cons_succ])
      refine stH 21 (fun K hK => ?_)
      go_simp
      refine (mul_any p hp2 b (rw (20 + t)) z (HI.out _) hz w5 (KX.out _ e5).2.1).mono ?_
      rintro _ w6 ⟨rfl, k6, h6⟩
      have e6 : Below W0.heap.size W0 w6 := by rw [h6]; exact below_drewN e5 _
      clear h6
      refine hK.out _ _ (KX.out _ e6).1 (fun hHeld => ?_)
      clear hK K
      (try simp only [Act.put, List.setIfInBounds_toArray, List.set_cons_zero, List.set_cons_succ])
      refine stH 22 (fun K hK => ?_)
      go_simp
      refine (add_any p hp2 b _ _ (i64_fv _ hp2) (i64_fv _ hp2) w6 (KX.out _ e6).2.1).mono ?_
      simp only [el_fv]
      rintro _ w7 ⟨rfl, k7, h7⟩
      have e7 : Below W0.heap.size W0 w7 := by rw [h7]; exact below_drewN e6 _
      clear h7
      refine hK.out _ _ (KX.out _ e7).1 (fun hHeld => ?_)
      clear hK K
      (try simp only [Act.put, List.setIfInBounds_toArray, List.set_cons_zero, List.set_cons_succ])
      refine tkH 23 ?_
      refine wpAnyH_done (by kernel_rfl) ?_ _
      have HE := Lib.hid (KX.out _ e7).2.2
      clear hHeld e5 e6 e7 h0 KX
      go_wp2
      go_roundw
      case rel => exact ⟨t + 1, by omega, by rw [HST.out]; rfl, by go_num, HE.out⟩
      case measure => simp only [intOf, Int.toNat_natCast]; omega
    · obtain rfl : t = L := by omega
      have HB := Lib.hid hb
      clear hb
      go_wp2
      go_ret
      exact ⟨rfl, HB.out⟩
set_option maxRecDepth 100000 in
set_option maxHeartbeats 4000000 in
theorem jsumM_any (j b p : Nat) [NeZero p] (g n cA : Nat) (rw : Nat → Int) (AI : Option Addr) (L cI : Nat) (code : List InsI) (hLn : code.length = L) (hn : n = 20 + L) (KN : Nat) (hKK : ∀ (args : Array Value) (w : World), (callFunc KN args).run Tryz.prog w = .ok (.enter KN args) w) (f : Nat → InsI → Fin p) (w : World) (h : JR w j b p g n cA rw) (hcl : w.cell? ⟨j, 2, none⟩ = some (.slice AI L cI)) (hIT : IT w AI code)
    (hf : ∀ W, Below w.heap.size w W → ∀ k (hk : k < L) (x : InsI), InsOk x → x = insAt code k → Calls Tryz.prog KN #[.pointer (some ⟨j, 0, none⟩), vi k, insV x] W (GivesE (f k x) W)) :
    Calls Tryz.prog 138 #[.pointer (some ⟨j, 0, none⟩), .func (.func KN) #[.pointer (some ⟨j, 0, none⟩)] #[]] w fun e w' => e = .returned (vi (fv (sumI code (rE p rw) f))) ∧ Below w.heap.size w w' := by
  have hp2 := h.max
  have hbig := h.big
  have hI := h.i64
  have HJ := Lib.hid h
  have HIT := Lib.hid (And.intro hIT hLn)
  have HCL := Lib.hid hcl
  have HF := Lib.hid hf
  have HI := Lib.hid hI
  obtain ⟨G, hG⟩ : ∃ G, G = sumE code (rE p rw) f := ⟨_, rfl⟩
  have hS : sumI code (rE p rw) f = sumT L G := by rw [hG, ← hLn]; rfl
  rw [hS]
  have HG := Lib.hid hG
  clear h hIT hf hI hS hG hLn
  go_enter Tryz.func138, Tryz.ntmps138
  go_wp2
  go_loopw [5, 14] (fun sv i wr => ∃ t : Nat, t ≤ L ∧ sv = vi (fv (sumT t G)) ∧ i = vi t ∧ Below w.heap.size w wr) (fun _ i _ => L - (intOf i).toNat)
  case atStart => exact ⟨0, Nat.zero_le _, by rw [sumT, fv_zero], rfl, Below.refl _ _⟩
  case round =>
    rename World => w1
    obtain ⟨t, ht, rfl, rfl, hb⟩ := hrel
    by_cases htl : t < L
    · have htc : t < code.length := by rw [HIT.out.2]; exact htl
      obtain ⟨ad, rfl, hE⟩ := (HIT.out.1.below hb) t htc
      obtain ⟨d0, d1, d2, d3⟩ := hE.cells
      have hok := hE.2.2.2.2.2
      have hx : code[t] = insAt code t := (insAt_get htc).symm
      have hst : sumT (t + 1) G = sumT t G + rE p rw (20 + t) * f t code[t] := by rw [sumT_succ, HG.out, sumE, hx]
      obtain ⟨x, hxx⟩ : ∃ x, x = code[t] := ⟨_, rfl⟩
      rw [← hxx] at d0 d1 d2 d3 hok hx hst
      have i1 : (0 : Int) ≤ (t : Int) := by omega
      have i2 : (t : Int) < (L : Int) := by omega
      have i3 : (0 : Int) ≤ 20 + (t : Int) := by omega
      have i4 : 20 + (t : Int) < (n : Int) := by omega
      have i5 : (20 + (t : Int)).toNat = 20 + t := by omega
      have i6 : IntKind.i64.wrap (20 + (t : Int)) = 20 + (t : Int) := IntWalk.i64_in _ (by constructor <;> omega)
      have hb0 : Below w1.heap.size w1 (w1.alloc (.cells #[vi x.op, vi x.a, vi x.b, vi x.c] 121)) := (Below.refl _ _).alloc (Nat.le_refl _) _
      have hB0 := Blk.new w1 121 #[vi x.op, vi x.a, vi x.b, vi x.c]
      obtain ⟨W0, hW0⟩ : ∃ W0, W0 = w1.alloc (.cells #[vi x.op, vi x.a, vi x.b, vi x.c] 121) := ⟨_, rfl⟩
      rw [← hW0] at hb0 hB0
      have hbw : Below w.heap.size w W0 := hb.trans (hb0.mono hb.size)
      have KX : Hid (∀ W, Below W0.heap.size W0 W → (W.cell? ⟨j, 0, none⟩ = some (.pointer (some ⟨b, 0, none⟩)) ∧ W.cell? ⟨j, 4, none⟩ = some (.slice (some ⟨g, 0, none⟩) n cA) ∧ W.cell? ⟨g, 20 + t, none⟩ = some (vi (rw (20 + t))) ∧ W.cell? ⟨w1.heap.size, 0, none⟩ = some (vi x.op) ∧ W.cell? ⟨w1.heap.size, 1, none⟩ = some (vi x.a) ∧ W.cell? ⟨w1.heap.size, 2, none⟩ = some (vi x.b) ∧ W.cell? ⟨w1.heap.size, 3, none⟩ = some (vi x.c)) ∧ W.cell? ⟨b, 0, none⟩ = some (vi p) ∧ Below w.heap.size w W) := Lib.hid fun W e => by
        have h1 := hbw.trans (e.mono hbw.size)
        have hJ := HJ.out.below h1
        have hq := hB0.below e hB0.lt
        exact ⟨⟨hJ.cb, hJ.cr, hJ.at_ _ (by omega), (hq.cell 0).trans rfl, (hq.cell 1).trans rfl, (hq.cell 2).trans rfl, (hq.cell 3).trans rfl⟩, hJ.cp, h1⟩
      have h0 : Below W0.heap.size W0 W0.drew := below_drewN (Below.refl _ _) 1
      have HW0 := Lib.hid hW0
      have HST := Lib.hid hst
      have HFN := Lib.hid (fun W hW => HF.out W hW t htl x hok hx)
      have c2 := (hb.cell (block_lt_of_cell HCL.out)).trans HCL.out
      clear hst hx hxx hok hE hb hb0 hB0 hbw hW0
      go_upto_region 5 with (fail)
      rw [← HW0.out]
      refine wp_region_held_drew (S := fun W => W.cell? ⟨j, 0, none⟩ = some (.pointer (some ⟨b, 0, none⟩)) ∧ W.cell? ⟨j, 4, none⟩ = some (.slice (some ⟨g, 0, none⟩) n cA) ∧ W.cell? ⟨g, 20 + t, none⟩ = some (vi (rw (20 + t))) ∧ W.cell? ⟨w1.heap.size, 0, none⟩ = some (vi x.op) ∧ W.cell? ⟨w1.heap.size, 1, none⟩ = some (vi x.a) ∧ W.cell? ⟨w1.heap.size, 2, none⟩ = some (vi x.b) ∧ W.cell? ⟨w1.heap.size, 3, none⟩ = some (vi x.c)) (by kernel_rfl) (KX.out _ h0).1 (fun hHeld => ?_)
      refine tkH 0 ?_
      refine tkH 1 ?_
      refine tkH 2 ?_
      refine tkH 3 ?_
      refine tkH 4 ?_
      refine tkH 5 ?_
      refine tkH 6 ?_
      refine tkH 7 ?_
      refine tkH 8 ?_
      refine tkH 9 ?_
      refine tkH 10 ?_
      refine tkH 11 ?_
      refine tkH 12 ?_
      refine tkH 13 ?_
      refine tkH 14 ?_
      refine tkH 15 ?_
      refine tkH 16 ?_
      refine tkH 17 ?_
      refine tkH 18 ?_
      refine tkH 19 ?_
      refine stH 20 (fun K hK => ?_)
      go_simp
      refine (HFN.out _ (KX.out _ h0).2.2).mono ?_
      rintro _ w5 ⟨z, hz, rfl, hze, hb5⟩
      have e5 : Below W0.heap.size W0 w5 := h0.trans (hb5.mono h0.size)
      rw [← hze] at HST
      clear hb5 hze
      refine hK.out _ _ (KX.out _ e5).1 (fun hHeld => ?_)
      clear hK K
      (try simp only [Act.put, List.setIfInBounds_toArray, List.set_cons_zero, List.set_cons_succ])
      refine stH 21 (fun K hK => ?_)
      go_simp
      refine (mul_any p hp2 b (rw (20 + t)) z (HI.out _) hz w5 (KX.out _ e5).2.1).mono ?_
      rintro _ w6 ⟨rfl, k6, h6⟩
      have e6 : Below W0.heap.size W0 w6 := by rw [h6]; exact below_drewN e5 _
      clear h6
      refine hK.out _ _ (KX.out _ e6).1 (fun hHeld => ?_)
      clear hK K
      (try simp only [Act.put, List.setIfInBounds_toArray, List.set_cons_zero, List.set_cons_succ])
      refine stH 22 (fun K hK => ?_)
      go_simp
      refine (add_any p hp2 b _ _ (i64_fv _ hp2) (i64_fv _ hp2) w6 (KX.out _ e6).2.1).mono ?_
      simp only [el_fv]
      rintro _ w7 ⟨rfl, k7, h7⟩
      have e7 : Below W0.heap.size W0 w7 := by rw [h7]; exact below_drewN e6 _
      clear h7
      refine hK.out _ _ (KX.out _ e7).1 (fun hHeld => ?_)
      clear hK K
      (try simp only [Act.put, List.setIfInBounds_toArray, List.set_cons_zero, List.set_cons_succ])
      refine tkH 23 ?_
      refine wpAnyH_done (by kernel_rfl) ?_ _
      have HE := Lib.hid (KX.out _ e7).2.2
      clear hHeld e5 e6 e7 h0 KX
      go_wp2
      go_roundw
      case rel => exact ⟨t + 1, by omega, by rw [HST.out]; rfl, by go_num, HE.out⟩
      case measure => simp only [intOf, Int.toNat_natCast]; omega
    · obtain rfl : t = L := by omega
      have HB := Lib.hid hb
      clear hb
      go_wp2
      go_ret
      exact ⟨rfl, HB.out⟩
set_option maxRecDepth 100000 in
set_option maxHeartbeats 4000000 in
theorem jsumC_any (j b p : Nat) [NeZero p] (g n cA : Nat) (rw : Nat → Int) (AI : Option Addr) (L cI : Nat) (code : List InsI) (hLn : code.length = L) (hn : n = 20 + L) (KN g1 g2 : Nat) (hKK : ∀ (args : Array Value) (w : World), (callFunc KN args).run Tryz.prog w = .ok (.enter KN args) w) (f : Nat → InsI → Fin p) (w : World) (h : JR w j b p g n cA rw) (hcl : w.cell? ⟨j, 2, none⟩ = some (.slice AI L cI)) (hIT : IT w AI code)
    (hf : ∀ W, Below w.heap.size w W → ∀ k (hk : k < L) (x : InsI), InsOk x → x = insAt code k → Calls Tryz.prog KN #[vi k, insV x, .pointer (some ⟨g1, 0, none⟩), .pointer (some ⟨g2, 0, none⟩)] W (GivesE (f k x) W)) :
    Calls Tryz.prog 138 #[.pointer (some ⟨j, 0, none⟩), .func (.func KN) #[] #[.pointer (some ⟨g1, 0, none⟩), .pointer (some ⟨g2, 0, none⟩)]] w fun e w' => e = .returned (vi (fv (sumI code (rE p rw) f))) ∧ Below w.heap.size w w' := by
  have hp2 := h.max
  have hbig := h.big
  have hI := h.i64
  have HJ := Lib.hid h
  have HIT := Lib.hid (And.intro hIT hLn)
  have HCL := Lib.hid hcl
  have HF := Lib.hid hf
  have HI := Lib.hid hI
  obtain ⟨G, hG⟩ : ∃ G, G = sumE code (rE p rw) f := ⟨_, rfl⟩
  have hS : sumI code (rE p rw) f = sumT L G := by rw [hG, ← hLn]; rfl
  rw [hS]
  have HG := Lib.hid hG
  clear h hIT hf hI hS hG hLn
  go_enter Tryz.func138, Tryz.ntmps138
  go_wp2
  go_loopw [5, 14] (fun sv i wr => ∃ t : Nat, t ≤ L ∧ sv = vi (fv (sumT t G)) ∧ i = vi t ∧ Below w.heap.size w wr) (fun _ i _ => L - (intOf i).toNat)
  case atStart => exact ⟨0, Nat.zero_le _, by rw [sumT, fv_zero], rfl, Below.refl _ _⟩
  case round =>
    rename World => w1
    obtain ⟨t, ht, rfl, rfl, hb⟩ := hrel
    by_cases htl : t < L
    · have htc : t < code.length := by rw [HIT.out.2]; exact htl
      obtain ⟨ad, rfl, hE⟩ := (HIT.out.1.below hb) t htc
      obtain ⟨d0, d1, d2, d3⟩ := hE.cells
      have hok := hE.2.2.2.2.2
      have hx : code[t] = insAt code t := (insAt_get htc).symm
      have hst : sumT (t + 1) G = sumT t G + rE p rw (20 + t) * f t code[t] := by rw [sumT_succ, HG.out, sumE, hx]
      obtain ⟨x, hxx⟩ : ∃ x, x = code[t] := ⟨_, rfl⟩
      rw [← hxx] at d0 d1 d2 d3 hok hx hst
      have i1 : (0 : Int) ≤ (t : Int) := by omega
      have i2 : (t : Int) < (L : Int) := by omega
      have i3 : (0 : Int) ≤ 20 + (t : Int) := by omega
      have i4 : 20 + (t : Int) < (n : Int) := by omega
      have i5 : (20 + (t : Int)).toNat = 20 + t := by omega
      have i6 : IntKind.i64.wrap (20 + (t : Int)) = 20 + (t : Int) := IntWalk.i64_in _ (by constructor <;> omega)
      have hb0 : Below w1.heap.size w1 (w1.alloc (.cells #[vi x.op, vi x.a, vi x.b, vi x.c] 121)) := (Below.refl _ _).alloc (Nat.le_refl _) _
      have hB0 := Blk.new w1 121 #[vi x.op, vi x.a, vi x.b, vi x.c]
      obtain ⟨W0, hW0⟩ : ∃ W0, W0 = w1.alloc (.cells #[vi x.op, vi x.a, vi x.b, vi x.c] 121) := ⟨_, rfl⟩
      rw [← hW0] at hb0 hB0
      have hbw : Below w.heap.size w W0 := hb.trans (hb0.mono hb.size)
      have KX : Hid (∀ W, Below W0.heap.size W0 W → (W.cell? ⟨j, 0, none⟩ = some (.pointer (some ⟨b, 0, none⟩)) ∧ W.cell? ⟨j, 4, none⟩ = some (.slice (some ⟨g, 0, none⟩) n cA) ∧ W.cell? ⟨g, 20 + t, none⟩ = some (vi (rw (20 + t))) ∧ W.cell? ⟨w1.heap.size, 0, none⟩ = some (vi x.op) ∧ W.cell? ⟨w1.heap.size, 1, none⟩ = some (vi x.a) ∧ W.cell? ⟨w1.heap.size, 2, none⟩ = some (vi x.b) ∧ W.cell? ⟨w1.heap.size, 3, none⟩ = some (vi x.c)) ∧ W.cell? ⟨b, 0, none⟩ = some (vi p) ∧ Below w.heap.size w W) := Lib.hid fun W e => by
        have h1 := hbw.trans (e.mono hbw.size)
        have hJ := HJ.out.below h1
        have hq := hB0.below e hB0.lt
        exact ⟨⟨hJ.cb, hJ.cr, hJ.at_ _ (by omega), (hq.cell 0).trans rfl, (hq.cell 1).trans rfl, (hq.cell 2).trans rfl, (hq.cell 3).trans rfl⟩, hJ.cp, h1⟩
      have h0 : Below W0.heap.size W0 W0.drew := below_drewN (Below.refl _ _) 1
      have HW0 := Lib.hid hW0
      have HST := Lib.hid hst
      have HFN := Lib.hid (fun W hW => HF.out W hW t htl x hok hx)
      have c2 := (hb.cell (block_lt_of_cell HCL.out)).trans HCL.out
      clear hst hx hxx hok hE hb hb0 hB0 hbw hW0
      go_upto_region 5 with (fail)
      rw [← HW0.out]
      refine wp_region_held_drew (S := fun W => W.cell? ⟨j, 0, none⟩ = some (.pointer (some ⟨b, 0, none⟩)) ∧ W.cell? ⟨j, 4, none⟩ = some (.slice (some ⟨g, 0, none⟩) n cA) ∧ W.cell? ⟨g, 20 + t, none⟩ = some (vi (rw (20 + t))) ∧ W.cell? ⟨w1.heap.size, 0, none⟩ = some (vi x.op) ∧ W.cell? ⟨w1.heap.size, 1, none⟩ = some (vi x.a) ∧ W.cell? ⟨w1.heap.size, 2, none⟩ = some (vi x.b) ∧ W.cell? ⟨w1.heap.size, 3, none⟩ = some (vi x.c)) (by kernel_rfl) (KX.out _ h0).1 (fun hHeld => ?_)
      refine tkH 0 ?_
      refine tkH 1 ?_
      refine tkH 2 ?_
      refine tkH 3 ?_
      refine tkH 4 ?_
      refine tkH 5 ?_
      refine tkH 6 ?_
      refine tkH 7 ?_
      refine tkH 8 ?_
      refine tkH 9 ?_
      refine tkH 10 ?_
      refine tkH 11 ?_
      refine tkH 12 ?_
      refine tkH 13 ?_
      refine tkH 14 ?_
      refine tkH 15 ?_
      refine tkH 16 ?_
      refine tkH 17 ?_
      refine tkH 18 ?_
      refine tkH 19 ?_
      refine stH 20 (fun K hK => ?_)
      go_simp
      refine (HFN.out _ (KX.out _ h0).2.2).mono ?_
      rintro _ w5 ⟨z, hz, rfl, hze, hb5⟩
      have e5 : Below W0.heap.size W0 w5 := h0.trans (hb5.mono h0.size)
      rw [← hze] at HST
      clear hb5 hze
      refine hK.out _ _ (KX.out _ e5).1 (fun hHeld => ?_)
      clear hK K
      (try simp only [Act.put, List.setIfInBounds_toArray, List.set_cons_zero, List.set_cons_succ])
      refine stH 21 (fun K hK => ?_)
      go_simp
      refine (mul_any p hp2 b (rw (20 + t)) z (HI.out _) hz w5 (KX.out _ e5).2.1).mono ?_
      rintro _ w6 ⟨rfl, k6, h6⟩
      have e6 : Below W0.heap.size W0 w6 := by rw [h6]; exact below_drewN e5 _
      clear h6
      refine hK.out _ _ (KX.out _ e6).1 (fun hHeld => ?_)
      clear hK K
      (try simp only [Act.put, List.setIfInBounds_toArray, List.set_cons_zero, List.set_cons_succ])
      refine stH 22 (fun K hK => ?_)
      go_simp
      refine (add_any p hp2 b _ _ (i64_fv _ hp2) (i64_fv _ hp2) w6 (KX.out _ e6).2.1).mono ?_
      simp only [el_fv]
      rintro _ w7 ⟨rfl, k7, h7⟩
      have e7 : Below W0.heap.size W0 w7 := by rw [h7]; exact below_drewN e6 _
      clear h7
      refine hK.out _ _ (KX.out _ e7).1 (fun hHeld => ?_)
      clear hK K
      (try simp only [Act.put, List.setIfInBounds_toArray, List.set_cons_zero, List.set_cons_succ])
      refine tkH 23 ?_
      refine wpAnyH_done (by kernel_rfl) ?_ _
      have HE := Lib.hid (KX.out _ e7).2.2
      clear hHeld e5 e6 e7 h0 KX
      go_wp2
      go_roundw
      case rel => exact ⟨t + 1, by omega, by rw [HST.out]; rfl, by go_num, HE.out⟩
      case measure => simp only [intOf, Int.toNat_natCast]; omega
    · obtain rfl : t = L := by omega
      have HB := Lib.hid hb
      clear hb
      go_wp2
      go_ret
      exact ⟨rfl, HB.out⟩
end Go.Proofs.YtpkhcncempoohaaGreatDoor

namespace Go.Proofs.YtpkhcncempoohaaGreatDoor
open Go.RowKit Zp
structure JX (w : World) (j b p : Nat) (g n cA : Nat) (rw : Nat → Int) (AI : Option Addr) (L cI : Nat) (code : List InsI) (size outc : Int) (g' : Nat) (rw' : Nat → Int) : Prop where
  jr : JR w j b p g n cA rw
  cl : w.cell? ⟨j, 2, none⟩ = some (.slice AI L cI)
  it : IT w AI code
  cs : w.cell? ⟨j, 1, none⟩ = some (vi size)
  co : w.cell? ⟨j, 3, none⟩ = some (vi outc)
  nx : ∀ k, k < n → w.cell? ⟨g', k, none⟩ = some (vi (rw' k))
  i64' : ∀ k, I64 (rw' k)
  isz : I64 size
  iout : I64 outc
  len : code.length = L
  nL : n = 20 + L
theorem JX.below {w w' : World} {j b p : Nat} {g n cA : Nat} {rw : Nat → Int} {AI : Option Addr} {L cI : Nat} {code : List InsI} {size outc : Int} {g' : Nat} {rw' : Nat → Int} (h : JX w j b p g n cA rw AI L cI code size outc g' rw') (hb : Below w.heap.size w w') : JX w' j b p g n cA rw AI L cI code size outc g' rw' :=
  ⟨h.jr.below hb, (hb.cell (block_lt_of_cell h.cl)).trans h.cl, h.it.below hb, (hb.cell (block_lt_of_cell h.cs)).trans h.cs, (hb.cell (block_lt_of_cell h.co)).trans h.co, fun k hk => (hb.cell (block_lt_of_cell (h.nx k hk))).trans (h.nx k hk), h.i64', h.isz, h.iout, h.len, h.nL⟩
def SumIs {p : Nat} [NeZero p] (X : Fin p) (w : World) (e : Ending) (w' : World) : Prop := e = .returned (vi (fv X)) ∧ Below w.heap.size w w'
section
variable {j b p : Nat} [NeZero p] {g n cA : Nat} {rw : Nat → Int} {AI : Option Addr} {L cI : Nat} {code : List InsI} {size outc : Int} {g' : Nat} {rw' : Nat → Int}
theorem jsum_one (w : World) (h : JX w j b p g n cA rw AI L cI code size outc g' rw') : Calls Tryz.prog 138 #[.pointer (some ⟨j, 0, none⟩), .func (.func 139) #[] #[]] w (SumIs (sumI code (rE p rw) (fun _ _ => 1)) w) := by
  have hKK := callFunc_enters Tryz.func139 (by kernel_rfl) (by kernel_rfl)
  refine jsum_any j b p g n cA rw AI L cI code h.len h.nL 139 hKK (fun _ _ => 1) w h.jr h.cl h.it fun W hW k hk x ho hx => (jone_any k x W).mono ?_
  rintro _ w' ⟨rfl, hb⟩
  exact ⟨1, by constructor <;> omega, rfl, el_one, hb⟩
theorem jsum_halts (w : World) (h : JX w j b p g n cA rw AI L cI code size outc g' rw') : Calls Tryz.prog 138 #[.pointer (some ⟨j, 0, none⟩), .func (.func 148) #[] #[]] w (SumIs (sumI code (rE p rw) haltI) w) := by
  have hKK := callFunc_enters Tryz.func148 (by kernel_rfl) (by kernel_rfl)
  exact jsum_any j b p g n cA rw AI L cI code h.len h.nL 148 hKK haltI w h.jr h.cl h.it fun W hW k hk x ho hx => jhalts_any p k x W
theorem jsum_does (w : World) (h : JX w j b p g n cA rw AI L cI code size outc g' rw') : Calls Tryz.prog 138 #[.pointer (some ⟨j, 0, none⟩), .func (.func 141) #[.pointer (some ⟨j, 0, none⟩)] #[]] w (SumIs (sumI code (rE p rw) (doesI (rE p rw))) w) := by
  have hKK := callFunc_enters Tryz.func141 (by kernel_rfl) (by kernel_rfl)
  have hnl := h.nL
  have hbg := h.jr.big
  refine jsumM_any j b p g n cA rw AI L cI code h.len h.nL 141 hKK (doesI (rE p rw)) w h.jr h.cl h.it fun W hW k hk x ho hx => ?_
  obtain ⟨op, ia, ib, ic⟩ := x
  exact jdoes_any j b p g n cA rw k op ia ib ic ho.op ho.a ho.b ho.c W (h.jr.below hW)
theorem jsum_more (w : World) (h : JX w j b p g n cA rw AI L cI code size outc g' rw') : Calls Tryz.prog 138 #[.pointer (some ⟨j, 0, none⟩), .func (.func 142) #[.pointer (some ⟨j, 0, none⟩)] #[]] w (SumIs (sumI code (rE p rw) (moreI (rE p rw))) w) := by
  have hKK := callFunc_enters Tryz.func142 (by kernel_rfl) (by kernel_rfl)
  have hnl := h.nL
  have hbg := h.jr.big
  refine jsumM_any j b p g n cA rw AI L cI code h.len h.nL 142 hKK (moreI (rE p rw)) w h.jr h.cl h.it fun W hW k hk x ho hx => ?_
  obtain ⟨op, ia, ib, ic⟩ := x
  exact jmore_any j b p g n cA rw k (by omega) op ia ib ic ho.op ho.a ho.b ho.c W (h.jr.below hW)
theorem jsum_goes (w : World) (h : JX w j b p g n cA rw AI L cI code size outc g' rw') : Calls Tryz.prog 138 #[.pointer (some ⟨j, 0, none⟩), .func (.func 144) #[.pointer (some ⟨j, 0, none⟩)] #[]] w (SumIs (sumI code (rE p rw) (goesI (rE p rw))) w) := by
  have hKK := callFunc_enters Tryz.func144 (by kernel_rfl) (by kernel_rfl)
  have hnl := h.nL
  have hbg := h.jr.big
  refine jsumM_any j b p g n cA rw AI L cI code h.len h.nL 144 hKK (goesI (rE p rw)) w h.jr h.cl h.it fun W hW k hk x ho hx => ?_
  obtain ⟨op, ia, ib, ic⟩ := x
  exact jgoes_any j b p g n cA rw k (by omega) op ia ib ic ho.op ho.a ho.b ho.c W (h.jr.below hW)
theorem jsum_fp (w : World) (h : JX w j b p g n cA rw AI L cI code size outc g' rw') : Calls Tryz.prog 138 #[.pointer (some ⟨j, 0, none⟩), .func (.func 145) #[.pointer (some ⟨j, 0, none⟩)] #[]] w (SumIs (sumI code (rE p rw) (fpI (rE p rw))) w) := by
  have hKK := callFunc_enters Tryz.func145 (by kernel_rfl) (by kernel_rfl)
  have hnl := h.nL
  have hbg := h.jr.big
  refine jsumM_any j b p g n cA rw AI L cI code h.len h.nL 145 hKK (fpI (rE p rw)) w h.jr h.cl h.it fun W hW k hk x ho hx => ?_
  obtain ⟨op, ia, ib, ic⟩ := x
  exact jfp_any j b p g n cA rw k (by omega) op ia ib ic ho.op ho.a ho.b ho.c W (h.jr.below hW)
theorem jsum_ap (w : World) (h : JX w j b p g n cA rw AI L cI code size outc g' rw') : Calls Tryz.prog 138 #[.pointer (some ⟨j, 0, none⟩), .func (.func 146) #[.pointer (some ⟨j, 0, none⟩)] #[]] w (SumIs (sumI code (rE p rw) (apI (rE p rw))) w) := by
  have hKK := callFunc_enters Tryz.func146 (by kernel_rfl) (by kernel_rfl)
  have hnl := h.nL
  have hbg := h.jr.big
  refine jsumM_any j b p g n cA rw AI L cI code h.len h.nL 146 hKK (apI (rE p rw)) w h.jr h.cl h.it fun W hW k hk x ho hx => ?_
  obtain ⟨op, ia, ib, ic⟩ := x
  exact jap_any j b p g n cA rw k (by omega) op ia ib ic ho.op ho.a ho.b ho.c W (h.jr.below hW)
theorem jsum_rv (w : World) (h : JX w j b p g n cA rw AI L cI code size outc g' rw') : Calls Tryz.prog 138 #[.pointer (some ⟨j, 0, none⟩), .func (.func 147) #[.pointer (some ⟨j, 0, none⟩)] #[]] w (SumIs (sumI code (rE p rw) (rvI (rE p rw))) w) := by
  have hKK := callFunc_enters Tryz.func147 (by kernel_rfl) (by kernel_rfl)
  have hnl := h.nL
  have hbg := h.jr.big
  refine jsumM_any j b p g n cA rw AI L cI code h.len h.nL 147 hKK (rvI (rE p rw)) w h.jr h.cl h.it fun W hW k hk x ho hx => ?_
  obtain ⟨op, ia, ib, ic⟩ := x
  exact jrv_any j b p g n cA rw k (by omega) op ia ib ic ho.op ho.a ho.b ho.c W (h.jr.below hW)
theorem jsum_cell (i : Nat) (hi : i < 3) (g1 g2 : Nat) (w : World) (h : JX w j b p g n cA rw AI L cI code size outc g' rw') (hg1 : w.cell? ⟨g1, 0, none⟩ = some (.pointer (some ⟨j, 0, none⟩))) (hg2 : w.cell? ⟨g2, 0, none⟩ = some (vi i)) :
    Calls Tryz.prog 138 #[.pointer (some ⟨j, 0, none⟩), .func (.func 175) #[] #[.pointer (some ⟨g1, 0, none⟩), .pointer (some ⟨g2, 0, none⟩)]] w (SumIs (sumI code (rE p rw) (cellI (rE p rw) i)) w) := by
  have hKK := callFunc_enters Tryz.func175 (by kernel_rfl) (by kernel_rfl)
  refine jsumC_any j b p g n cA rw AI L cI code h.len h.nL 175 g1 g2 hKK (cellI (rE p rw) i) w h.jr h.cl h.it fun W hW k hk x ho hx => ?_
  obtain ⟨op, ia, ib, ic⟩ := x
  exact jcell1_any j b p g n cA rw k i g1 g2 hi op ia ib ic ho.op ho.a ho.b ho.c W (h.jr.below hW) ((hW.cell (block_lt_of_cell hg1)).trans hg1) ((hW.cell (block_lt_of_cell hg2)).trans hg2)
set_option maxHeartbeats 1000000 in
theorem jcell_any (i : Nat) (w : World) : Calls Tryz.prog 140 #[.pointer (some ⟨j, 0, none⟩), vi i] w fun e w' => ∃ g1 g2 : Nat, e = .returned (.func (.func 175) #[] #[.pointer (some ⟨g1, 0, none⟩), .pointer (some ⟨g2, 0, none⟩)]) ∧ w'.cell? ⟨g1, 0, none⟩ = some (.pointer (some ⟨j, 0, none⟩)) ∧ w'.cell? ⟨g2, 0, none⟩ = some (vi i) ∧ Below w.heap.size w w' := by
  go_enter Tryz.func140, Tryz.ntmps140
  go_wp2
  go_ret
  have hb1 : Below w.heap.size w (w.alloc (.cells #[.pointer (some ⟨j, 0, none⟩)] 162)) := (Below.refl _ _).alloc (Nat.le_refl _) _
  have hq1 := Blk.new w 162 #[.pointer (some ⟨j, 0, none⟩)]
  have hq2 := Blk.new (w.alloc (.cells #[.pointer (some ⟨j, 0, none⟩)] 162)) 3 #[vi i]
  have hs : (w.alloc (.cells #[.pointer (some ⟨j, 0, none⟩)] 162)).heap.size = w.heap.size + 1 := by show (w.heap.push _).size = _; rw [Array.size_push]
  rw [hs] at hq2
  exact ⟨_, _, rfl, ((hq1.alloc _).cell 0).trans rfl, (hq2.cell 0).trans rfl, hb1.alloc (by rw [hs]; omega) _⟩
set_option maxHeartbeats 2000000 in
theorem jorder_any (h1 h2 h3 h4 : Int) (i1 : I64 h1) (i2 : I64 h2) (i3 : I64 h3) (i4 : I64 h4) (w : World) (h : JX w j b p g n cA rw AI L cI code size outc g' rw') :
    Calls Tryz.prog 143 #[.pointer (some ⟨j, 0, none⟩), vi h1, vi h2, vi h3, vi h4] w (Made (fvs [ordA (el p h1) (el p h3), ordB (el p h1) (el p h2) (el p h3) (el p h4)]) w) := by
  have hp2 := h.jr.max
  have c0 := h.jr.cb
  have cb := h.jr.cp
  have KS := Lib.hid (fun W (hb : Below w.heap.size w W) => show W.cell? ⟨j, 0, none⟩ = some (.pointer (some ⟨b, 0, none⟩)) ∧ W.cell? ⟨b, 0, none⟩ = some (vi p) from ⟨(hb.cell (block_lt_of_cell c0)).trans c0, (hb.cell (block_lt_of_cell cb)).trans cb⟩)
  clear h
  go_enter Tryz.func143, Tryz.ntmps143
  go_upto_region 1 with (fail)
  go_region_held3 (fun w' => w'.cell? ⟨j, 0, none⟩ = some (.pointer (some ⟨b, 0, none⟩)) ∧ w'.cell? ⟨b, 0, none⟩ = some (vi p)) (exact ⟨c0, cb⟩) ((first | (go_at_call 94; refine (sub_any p hp2 b _ _ (by first | exact i64_fv _ hp2 | assumption) (by first | exact i64_fv _ hp2 | assumption) _ (by exact cb)).mono ?_; rintro e w' ⟨rfl, rfl⟩)))
  go_wp2_with fail
  refine (sub_any p hp2 b _ _ (i64_fv _ hp2) (by constructor <;> omega) _ (by exact cb)).mono ?_
  rintro _ _ ⟨rfl, rfl⟩
  go_wp2
  go_region_held3 (fun w' => w'.cell? ⟨j, 0, none⟩ = some (.pointer (some ⟨b, 0, none⟩)) ∧ w'.cell? ⟨b, 0, none⟩ = some (vi p)) (first | exact ⟨c0, cb⟩ | exact KS.out _ (Below.alloc (below_drewN (Below.refl _ _) _) (Nat.le_refl _) _)) ((first | (go_at_call 69; refine (mul_any p hp2 b _ _ (i64_fv _ hp2) (i64_fv _ hp2) _ (by exact cb)).mono ?_; rintro e w' ⟨rfl, k3, rfl⟩)))
  go_wp2
  go_ret
  refine ⟨_, rfl, ?_, Below.alloc (below_drewN (Below.refl _ _) _) (Nat.le_refl _) _⟩
  have e : fvs [ordA (el p h1) (el p h3), ordB (el p h1) (el p h2) (el p h3) (el p h4)] = [fv (ordA (el p h1) (el p h3)), fv (ordB (el p h1) (el p h2) (el p h3) (el p h4))] := rfl
  rw [e]
  have h := own_lit (w.drewN 0) w.heap.size [fv (ordA (el p h1) (el p h3)), fv (ordB (el p h1) (el p h2) (el p h3) (el p h4))] (Nat.le_refl _) (by simp [maxLen])
  simp only [el_fv, el_one]
  exact own_lit _ w.heap.size [_, _] (Nat.le_refl _) (by simp [maxLen])
end
end Go.Proofs.YtpkhcncempoohaaGreatDoor

namespace Go.Proofs.YtpkhcncempoohaaGreatDoor
open Go.RowKit
section
variable {P : Program} (w : World)
theorem run_append_of_nil (base : Nat) (t ty e : TypeId) (i : TypeInfo) (size : Nat) (ht : P.underlying t = some (.slice e)) (hi : P.info? e = some i)
    (v : Value) (n : Nat) (xs : List Value) (hown : w.ownsRow base e size v n xs) (c : Nat) : (Builtin.append_ #[t, t] ty #[v, .slice none 0 c]).run P w = .ok v w := by
  rcases hown.2 with ⟨rfl, rfl⟩ | ⟨g, cap, cur, rfl, _, _, hnc, _⟩
  · simp [Builtin.append_, run_underlying ht, sizeOf, typeInfo, hi, Builtin.lenOf, Builtin.firstCells]
  · simp [Builtin.append_, run_underlying ht, sizeOf, typeInfo, hi, Builtin.lenOf, Builtin.firstCells, hnc, storeCells]
theorem run_append_any (base : Nat) (t ty e : TypeId) (i : TypeInfo) (z : Value) (size bytes : Nat) (ht : P.underlying t = some (.slice e)) (hi : P.info? e = some i) (hz : i.zero = some z)
    (hsize : i.size = size) (hby : i.bytes = bytes) (hzs : z.cells.size = size) (hsz : 0 < size)
    (v : Value) (n : Nat) (xs : List Value) (hown : w.ownsRow base e size v n xs)
    (B : Nat) (A : Option Addr) (m c : Nat) (news : List Value) (hr : Reads w B size A m news) (h1 : ∀ u ∈ news, u.oneCell' = true)
    (h63 : n + m ≤ maxLen) (hbytes : (n + m) * bytes ≤ 140737488355328) (hbase : base ≤ w.heap.size) :
    ∃ v' w', (Builtin.append_ #[t, t] ty #[v, .slice A m c]).run P w = .ok v' w' ∧ w'.ownsRow base e size v' (n + m) (xs ++ news) ∧ w.grownBy w' v.ownBlock ∧
      (v'.ownBlock = v.ownBlock ∨ v'.ownBlock = some w.heap.size) := by
  rcases A with _ | ad
  · have hm : m = 0 := by
      rcases Nat.eq_zero_or_pos m with h0 | h0
      · exact h0
      · obtain ⟨ad, h, _⟩ := hr.2 h0
        cases h
    subst hm
    have hn : news = [] := List.eq_nil_of_length_eq_zero (by simpa using hr.1)
    subst hn
    exact ⟨v, w, run_append_of_nil w base t ty e i size ht hi v n xs hown c, by simpa using hown, World.grownBy.refl w _, .inl rfl⟩
  · have hcells : ∀ j u, news[j]? = some u → w.cell? (ad.add j) = some u := by
      intro j u hu
      rcases Nat.eq_zero_or_pos m with h0 | h0
      · subst h0
        have hn : news = [] := List.eq_nil_of_length_eq_zero (by simpa using hr.1)
        subst hn
        simp at hu
      · obtain ⟨ad', h, _, hc⟩ := hr.2 h0
        injection h with h
        subst h
        exact hc j u hu
    obtain ⟨v', w', hrun, h2, h3, _, h5⟩ := run_append_own_at (P := P) w base t ty e i z size bytes ht hi hz hsize hby hzs hsz v n xs hown ad m c news hr.1 hcells h1 h63 hbytes hbase
    exact ⟨v', w', hrun, h2, h3, h5⟩
end
theorem run_appA (w : World) (base : Nat) (v : Value) (xs : List Int) (A : Option Addr) (m c : Nat) (ys : List Int) (hm : ys.length = m) (hown : Own w base v xs) (hr : SL w A ys) (hlen : xs.length + m ≤ 17592186044416) (hbase : base ≤ w.heap.size) (ty : TypeId) :
    ∃ v' w', (Builtin.append_ #[26, 26] ty #[v, .slice A m c]).run Tryz.prog w = .ok v' w' ∧ Grew w w' base v v' (xs ++ ys) := by
  subst hm
  obtain ⟨i0, hi, hz0, hz1, hz2⟩ := info_parts info_int
  obtain ⟨v', w', hrun, h2, h3, h4⟩ := run_append_any (P := Tryz.prog) w base 26 ty 3 i0 _ 1 8 Tryz.underlying26 hi hz0 hz1 hz2 rfl (by omega) v xs.length (xs.map vi) hown w.heap.size A ys.length c (ys.map vi) hr
    (fun u hu => by obtain ⟨n, _, rfl⟩ := List.mem_map.1 hu; rfl) (by simp only [maxLen]; omega) (by omega) hbase
  refine ⟨v', w', hrun, ?_, h3, ?_⟩
  · rw [Own, List.length_append, List.map_append]
    exact h2
  · rcases h4 with h | h
    · exact .inl h
    · exact .inr ⟨_, h, Nat.le_refl _⟩
theorem wpList_appA {ops : Array Oper} {rest : List Oper} {o : Oper} {a : Act} {Q : Exit → Act → World → Prop} (w : World) (hgd : o.guard = none) (s x : Operand)
    (ho : o.op = .call { callee := .builtin .append, args := #[s, x], argTypes := #[26, 26] })
    (base : Nat) (v : Value) (xs : List Int) (A : Option Addr) (m c : Nat) (ys : List Int) (hs : a.eval s = v) (hx : a.eval x = .slice A m c) (hm : ys.length = m) (hown : Own w base v xs) (hr : SL w A ys) (hlen : xs.length + m ≤ 17592186044416) (hbase : base ≤ w.heap.size)
    (h : ∀ v' w', Grew w w' base v v' (xs ++ ys) → wpList Tryz.prog ops Q rest (a.put o.dst v') w') : wpList Tryz.prog ops Q (o :: rest) a w :=
  wpList_plain hgd fun _ hK => by
    obtain ⟨v', w', hrun, hg⟩ := run_appA w base v xs A m c ys hm hown hr hlen hbase o.type
    unfold Oper.wp execOp
    simp only [ho, resolve, invoke, builtin, Sem.run_bind, Sem.run_pure, Result.andThen_ok, List.map_toArray, List.map_cons, List.map_nil, hs, hx, hrun]
    exact hK _ _ (h v' w' hg)
theorem own_empty (w : World) (base : Nat) (hb : base ≤ w.heap.size) : Own (w.alloc (.cells #[] 3)) base (.slice (some ⟨w.heap.size, 0, none⟩) 0 0) [] :=
  World.ownsRow_made w _ 0 hb (Nat.zero_le _) rfl
set_option maxHeartbeats 1000000 in
theorem clone_any (A : Option Addr) (m c : Nat) (xs : List Int) (hm : xs.length = m) (hlen : m ≤ 17592186044416) (w : World) (hs : SL w A xs) :
    Calls Tryz.prog 66 #[.slice A m c] w fun e w' => Made xs w e w' := by
  have hq := fun (W : World) => Lib.run_eql_slice_nil (P := Tryz.prog) W 26 3 A m c 0 0 Tryz.underlying26
  cases A with
  | none =>
    have hx : xs = [] := by
      rcases Nat.eq_zero_or_pos xs.length with h | h
      · exact List.length_eq_zero_iff.1 h
      · obtain ⟨ad, h1, _⟩ := hs.at_ h
        cases h1
    have hn : (none : Option Addr).isNone = true := rfl
    have HX := Lib.hid hx
    clear hx hm
    go_enter Tryz.func66, Tryz.ntmps66
    go_wp2
    go_ret
    exact ⟨_, rfl, by rw [HX.out]; exact World.ownsRow_nil _ _ _ _, Below.refl _ _⟩
  | some ad =>
    have HM := Lib.hid hm
    clear hm
    have hs' : SL (w.alloc (.cells #[] 3)) (some ad) xs := hs.below ((Below.refl _ _).alloc (Nat.le_refl _) _)
    have ho := own_empty w w.heap.size (Nat.le_refl _)
    go_enter Tryz.func66, Tryz.ntmps66
    go_wp2_with (at_builtin; refine wpList_appA _ rfl _ _ rfl w.heap.size _ [] (some ad) m c xs rfl rfl HM.out ho hs' (by simpa using hlen) (by simp) ?_; intro v' w1 hg)
    go_ret
    exact ⟨v', rfl, hg.own, hg.below ((Below.refl _ _).alloc (Nat.le_refl _) _) ho (Nat.le_refl _) (by simp)⟩
end Go.Proofs.YtpkhcncempoohaaGreatDoor

namespace Go.Proofs.YtpkhcncempoohaaGreatDoor
open Go.RowKit Zp
theorem step_appL {ops : Array Oper} {o : Oper} {a : Act} {K : Act → World → Prop} {Q : Exit → Act → World → Prop} {E : Prop} (w2 w W : World) (ys : List Int) (m : Nat) (hW : W = w.alloc (.cells (ys.map vi).toArray 3)) (hgd : o.guard = none) (s x : Operand)
    (ho : o.op = .call { callee := .builtin .append, args := #[s, x], argTypes := #[26, 26] })
    (v : Value) (xs : List Int) (hs : a.eval s = v) (hm : ys.length = m) (hx : a.eval x = .slice (some ⟨w.heap.size, 0, none⟩) m m) (hown : Own w w2.heap.size v xs) (hb : Below w2.heap.size w2 w) (hlen : xs.length + m ≤ 1000000)
    (h : ∀ v' w', Own w' w2.heap.size v' (xs ++ ys) → Below w2.heap.size w2 w' → K (a.put o.dst v') w') :
    if Region.wanted o (yielded ops a.tmps) = true then Oper.wp Tryz.prog o a W K Q else E := by
  have hw : Region.wanted o (yielded ops a.tmps) = true := by simp [Region.wanted, hgd]
  rw [if_pos hw]
  subst hW hm
  have hbA : Below w2.heap.size w2 (w.alloc (.cells (ys.map vi).toArray 3)) := hb.alloc hb.size _
  have hlit := own_lit w w.heap.size ys (Nat.le_refl _) (by simp only [maxLen]; omega)
  obtain ⟨A, c, hv, _, _, _, hsl⟩ := hlit.shape
  injection hv with h1 h2 h3
  subst h1
  obtain ⟨v', w', hrun, hg⟩ := run_appA (w.alloc (.cells (ys.map vi).toArray 3)) w2.heap.size v xs (some ⟨w.heap.size, 0, none⟩) ys.length ys.length ys rfl (hown.alloc _) hsl (by omega) hbA.size o.type
  unfold Oper.wp execOp
  simp only [ho, resolve, invoke, builtin, Sem.run_bind, Sem.run_pure, Result.andThen_ok, List.map_toArray, List.map_cons, List.map_nil, hs, hx, hrun]
  exact h v' w' hg.own (hg.below hbA (hown.alloc _) (Nat.le_refl _) hbA.size)
theorem wpList_appL {ops : Array Oper} {rest : List Oper} {o : Oper} {a : Act} {Q : Exit → Act → World → Prop} (w2 w W : World) (ys : List Int) (m : Nat) (hW : W = w.alloc (.cells (ys.map vi).toArray 3)) (hgd : o.guard = none) (s x : Operand)
    (ho : o.op = .call { callee := .builtin .append, args := #[s, x], argTypes := #[26, 26] })
    (v : Value) (xs : List Int) (hs : a.eval s = v) (hm : ys.length = m) (hx : a.eval x = .slice (some ⟨w.heap.size, 0, none⟩) m m) (hown : Own w w2.heap.size v xs) (hb : Below w2.heap.size w2 w) (hlen : xs.length + m ≤ 1000000)
    (h : ∀ v' w', Own w' w2.heap.size v' (xs ++ ys) → Below w2.heap.size w2 w' → wpList Tryz.prog ops Q rest (a.put o.dst v') w') : wpList Tryz.prog ops Q (o :: rest) a W :=
  wpList_plain hgd fun _ hK => by
    subst hW hm
    have hbA : Below w2.heap.size w2 (w.alloc (.cells (ys.map vi).toArray 3)) := hb.alloc hb.size _
    have hlit := own_lit w w.heap.size ys (Nat.le_refl _) (by simp only [maxLen]; omega)
    obtain ⟨A, c, hv, _, _, _, hsl⟩ := hlit.shape
    injection hv with h1 h2 h3
    subst h1
    obtain ⟨v', w', hrun, hg⟩ := run_appA (w.alloc (.cells (ys.map vi).toArray 3)) w2.heap.size v xs (some ⟨w.heap.size, 0, none⟩) ys.length ys.length ys rfl (hown.alloc _) hsl (by omega) hbA.size o.type
    unfold Oper.wp execOp
    simp only [ho, resolve, invoke, builtin, Sem.run_bind, Sem.run_pure, Result.andThen_ok, List.map_toArray, List.map_cons, List.map_nil, hs, hx, hrun]
    exact hK _ _ (h v' w' hg.own (hg.below hbA (hown.alloc _) (Nat.le_refl _) hbA.size))
section
variable {j b p : Nat} [NeZero p] {g n cA : Nat} {rw : Nat → Int} {AI : Option Addr} {L cI : Nat} {code : List InsI} {size outc : Int} {g' : Nat} {rw' : Nat → Int} {w1 : World}
theorem JX.c0 {W : World} (h : JX w1 j b p g n cA rw AI L cI code size outc g' rw') (hb : Below w1.heap.size w1 W) : W.cell? ⟨b, 0, none⟩ = some (vi p) := (h.jr.below hb).cp
theorem JX.mul (h : JX w1 j b p g n cA rw AI L cI code size outc g' rw') (x y : Int) (hx : I64 x) (hy : I64 y) (W : World) (hb : Below w1.heap.size w1 W) : Calls Tryz.prog 69 #[.pointer (some ⟨b, 0, none⟩), vi x, vi y] W fun e w' => e = .returned (vi (fv (el p x * el p y))) ∧ Below w1.heap.size w1 w' :=
  (mul_any p h.jr.max b x y hx hy W (h.c0 hb)).mono fun e w' ⟨h1, k, h2⟩ => ⟨h1, by rw [h2]; exact below_drewN hb _⟩
theorem JX.add (h : JX w1 j b p g n cA rw AI L cI code size outc g' rw') (x y : Int) (hx : I64 x) (hy : I64 y) (W : World) (hb : Below w1.heap.size w1 W) : Calls Tryz.prog 98 #[.pointer (some ⟨b, 0, none⟩), vi x, vi y] W fun e w' => e = .returned (vi (fv (el p x + el p y))) ∧ Below w1.heap.size w1 w' :=
  (add_any p h.jr.max b x y hx hy W (h.c0 hb)).mono fun e w' ⟨h1, k, h2⟩ => ⟨h1, by rw [h2]; exact below_drewN hb _⟩
theorem JX.sub (h : JX w1 j b p g n cA rw AI L cI code size outc g' rw') (x y : Int) (hx : I64 x) (hy : I64 y) (W : World) (hb : Below w1.heap.size w1 W) : Calls Tryz.prog 94 #[.pointer (some ⟨b, 0, none⟩), vi x, vi y] W fun e w' => e = .returned (vi (fv (el p x - el p y))) ∧ Below w1.heap.size w1 w' :=
  (sub_any p h.jr.max b x y hx hy W (h.c0 hb)).mono fun e w' ⟨h1, h2⟩ => ⟨h1, by rw [← h2]; exact hb⟩
theorem JX.of_ (h : JX w1 j b p g n cA rw AI L cI code size outc g' rw') (x : Int) (hx : I64 x) (W : World) (hb : Below w1.heap.size w1 W) : Calls Tryz.prog 25 #[.pointer (some ⟨b, 0, none⟩), vi x] W fun e w' => e = .returned (vi (fv (el p x))) ∧ Below w1.heap.size w1 w' :=
  (of_any p (Nat.pos_of_ne_zero (NeZero.ne p)) h.jr.max b x hx W (h.c0 hb)).mono fun e w' ⟨h1, h2⟩ => ⟨by rw [h1, fv_el], by rw [← h2]; exact hb⟩
theorem JX.v0 (h : JX w1 j b p g n cA rw AI L cI code size outc g' rw') (W : World) (hb : Below w1.heap.size w1 W) : Calls Tryz.prog 149 #[.pointer (some ⟨j, 0, none⟩), vi 0] W fun e w' => e = .returned (vi (rw 7)) ∧ Below w1.heap.size w1 w' :=
  (jv_any j b p g n cA rw 0 (by omega) W (h.jr.below hb)).mono fun e w' ⟨h1, h2⟩ => ⟨h1, by rw [h2]; exact hb⟩
theorem JX.cell (h : JX w1 j b p g n cA rw AI L cI code size outc g' rw') (i : Nat) (W : World) (hb : Below w1.heap.size w1 W) : Calls Tryz.prog 140 #[.pointer (some ⟨j, 0, none⟩), vi i] W fun e w' => ∃ g1 g2 : Nat, e = .returned (.func (.func 175) #[] #[.pointer (some ⟨g1, 0, none⟩), .pointer (some ⟨g2, 0, none⟩)]) ∧ w'.cell? ⟨g1, 0, none⟩ = some (.pointer (some ⟨j, 0, none⟩)) ∧ w'.cell? ⟨g2, 0, none⟩ = some (vi i) ∧ Below w1.heap.size w1 w' :=
  (jcell_any i W).mono fun e w' ⟨g1, g2, h1, h2, h3, h4⟩ => ⟨g1, g2, h1, h2, h3, hb.trans (h4.mono hb.size)⟩
theorem SumIs.chain {X : Fin p} {W w' : World} {e : Ending} (hb : Below w1.heap.size w1 W) (h : SumIs X W e w') : e = .returned (vi (fv X)) ∧ Below w1.heap.size w1 w' := ⟨h.1, hb.trans (h.2.mono hb.size)⟩
theorem JX.order (h : JX w1 j b p g n cA rw AI L cI code size outc g' rw') (h1 h2 h3 h4 : Int) (i1 : I64 h1) (i2 : I64 h2) (i3 : I64 h3) (i4 : I64 h4) (W : World) (hb : Below w1.heap.size w1 W) :
    Calls Tryz.prog 143 #[.pointer (some ⟨j, 0, none⟩), vi h1, vi h2, vi h3, vi h4] W fun e w' => ∃ A c, e = .returned (.slice A 2 c) ∧ SL w' A (fvs [ordA (el p h1) (el p h3), ordB (el p h1) (el p h2) (el p h3) (el p h4)]) ∧ Below w1.heap.size w1 w' := 
  (jorder_any h1 h2 h3 h4 i1 i2 i3 i4 W (h.below hb)).mono fun e w' ⟨v, h1, h2, h3⟩ => by
    obtain ⟨A, c, hv, _, _, _, hsl⟩ := Own.shape h2
    exact ⟨A, c, by rw [h1, hv]; rfl, hsl, hb.trans (h3.mono hb.size)⟩
end
theorem step_appM {ops : Array Oper} {o : Oper} {a : Act} {K : Act → World → Prop} {Q : Exit → Act → World → Prop} {E : Prop} (w2 w : World) (A : Option Addr) (m c : Nat) (ys : List Int) (hgd : o.guard = none) (s x : Operand)
    (ho : o.op = .call { callee := .builtin .append, args := #[s, x], argTypes := #[26, 26] })
    (v : Value) (xs : List Int) (hs : a.eval s = v) (hm : ys.length = m) (hx : a.eval x = .slice A m c) (hown : Own w w2.heap.size v xs) (hb : Below w2.heap.size w2 w) (hr : SL w A ys) (hlen : xs.length + m ≤ 1000000)
    (h : ∀ v' w', Own w' w2.heap.size v' (xs ++ ys) → Below w2.heap.size w2 w' → K (a.put o.dst v') w') :
    if Region.wanted o (yielded ops a.tmps) = true then Oper.wp Tryz.prog o a w K Q else E := by
  have hw : Region.wanted o (yielded ops a.tmps) = true := by simp [Region.wanted, hgd]
  rw [if_pos hw]
  obtain ⟨v', w', hrun, hg⟩ := run_appA w w2.heap.size v xs A m c ys hm hown hr (by omega) hb.size o.type
  unfold Oper.wp execOp
  simp only [ho, resolve, invoke, builtin, Sem.run_bind, Sem.run_pure, Result.andThen_ok, List.map_toArray, List.map_cons, List.map_nil, hs, hx, hrun]
  exact h v' w' hg.own (hg.below hb hown (Nat.le_refl _) hb.size)
end Go.Proofs.YtpkhcncempoohaaGreatDoor

namespace Go.Proofs.YtpkhcncempoohaaGreatDoor
open Go.RowKit Zp
def ruV {p : Nat} [NeZero p] (code : List InsI) (size : Int) (out : Fin p) (r r' : Nat → Fin p) (k : Nat) : List Int := fvs (((rulesF code size out).map fun F => F r r').take k)
theorem ruV_S {p : Nat} [NeZero p] (code : List InsI) (size : Int) (out : Fin p) (r r' : Nat → Fin p) (k : Nat) (hk : k < code.length) : ruV code size out r r' (k + 1) = ruV code size out r r' k ++ [fv (r (20 + k) * r (20 + k) - r (20 + k))] := by
  have hl : ((rulesF code size out).map fun F => F r r').length = code.length + 26 := by simp [rulesF, ruS, ruT]
  unfold ruV
  rw [List.take_add_one, List.getElem?_eq_getElem (by rw [hl]; omega), Option.toList_some, fvs, List.map_append]
  have : ((rulesF code size out).map fun F => F r r')[k]'(by rw [hl]; omega) = r (20 + k) * r (20 + k) - r (20 + k) := by
    simp only [List.getElem_map, rulesF]
    rw [List.getElem_append_left (by simp [ruS]; exact hk)]
    unfold ruS
    rw [List.getElem_map, List.getElem_range]
  rw [this]
  rfl
theorem ruV_T {p : Nat} [NeZero p] (code : List InsI) (size : Int) (out : Fin p) (r r' : Nat → Fin p) (i m : Nat) : ruV code size out r r' (code.length + i + m) = ruV code size out r r' (code.length + i) ++ fvs ((((ruT code size out).map fun F => F r r').drop i).take m) := by
  unfold ruV rulesF
  rw [List.map_append, List.take_add (i := code.length + i)]
  rw [fvs, List.map_append]
  congr 3
  rw [List.drop_append, List.drop_eq_nil_of_le (by simp [ruS]), List.nil_append]
  congr 1
  simp [ruS]
def fromR (n : Nat) : Code → Code
  | .seq (.region m ops d) c => if m = n then .seq (.region m ops d) c else fromR n c
  | .seq _ c => fromR n c
  | c => c
noncomputable def jbody : Code := Tryz.f99.body.getD .skip
end Go.Proofs.YtpkhcncempoohaaGreatDoor

namespace Go.Proofs.YtpkhcncempoohaaGreatDoor
open Go.RowKit Zp
set_option maxRecDepth 1000000 in
set_option maxHeartbeats 16000000 in
theorem jr_t31 (j b p : Nat) [NeZero p] (g n cA cA' : Nat) (rw : Nat → Int) (AI : Option Addr) (L cI : Nat) (code : List InsI) (size outc : Int) (g' : Nat) (rw' : Nat → Int) (hL1 : 1 ≤ L) (hL64 : L ≤ 4096) (w2 : World) (hX : JX w2 j b p g n cA rw AI L cI code size outc g' rw') (RV : Nat → List Int) (hRV : RV = ruV code size (el p outc) (rE p rw) (rE p rw')) (u3 u4 u5 u6 u8 u9 u10 u11 u12 u13 u14 u15 u16 u17 u18 u19 u20 u21 u22 u23 u24 u25 u26 u27 u28 u29 u30 u31 u32 u33 u34 u35 u36 u37 u38 u39 u40 u41 u42 u43 u44 u45 u46 u47 u48 u49 u50 u51 u52 u53 u54 u55 u56 u57 u58 u59 u60 u61 u62 u63 u64 u65 u66 u67 u68 u69 u70 u71 u72 u73 u74 u75 u76 u77 u78 u79 u80 u81 u82 u83 u84 u85 u86 u87 u88 u89 u90 u91 u92 u93 u94 u95 u96 u97 u98 u99 u100 u101 u102 u103 u104 u105 u106 u107 u108 u109 u110 u111 u112 u113 u114 u115 u116 u117 u118 u119 u120 u121 u122 u123 u124 u125 u126 u127 u128 u129 u130 u131 u132 u133 u134 u135 u136 u137 u138 u139 u140 u141 u142 u143 u144 u145 u146 u147 u148 u149 u150 u151 u152 u153 u154 u155 u156 u157 u158 u159 u160 u161 u162 u163 u164 u165 u166 u167 u168 u169 u170 u171 u172 u173 u174 u175 u176 u177 u178 u179 u180 u181 u182 u183 u184 u185 u186 u187 u188 u189 u190 u191 u192 u193 u194 u195 u196 u197 u198 u199 u200 u201 u202 u203 u204 u205 u206 u207 u208 u209 u210 u211 u212 u213 u214 u215 u216 u217 u218 u219 u220 u221 u222 u223 u224 u225 u226 u227 u228 u229 u230 u231 u232 u233 u234 u235 u236 u237 u238 u239 u240 u241 u242 u243 u244 u245 u246 u247 u248 u249 u250 u251 u252 u253 u254 u255 u256 u257 u258 u259 u260 u261 u262 u263 u264 u265 u266 u267 u268 u269 u270 u271 u272 u273 u274 u275 u276 u277 u278 u279 u280 u281 u282 u283 u284 u285 u286 u287 u288 u289 u290 u291 u292 u293 u294 u295 u296 u297 u298 u299 u300 u301 u302 v8j : Value) (w8j : World) (hOjn : Own w8j w2.heap.size v8j (RV (L + 24))) (hb8j : Below w2.heap.size w2 w8j) :
    Code.wp Tryz.prog (fromR 31 jbody) (bodyPost Tryz.prog Tryz.f99 fun e w' => ∃ v, e = .returned v ∧ Own w' w2.heap.size v (RV (L + 26)) ∧ Below w2.heap.size w2 w') ⟨#[.pointer (some ⟨j, 0, none⟩), .slice (some ⟨g, 0, none⟩) n cA, .slice (some ⟨g', 0, none⟩) n cA', u3, u4, u5, u6, v8j, u8, u9, u10, u11, u12, u13, u14, u15, u16, u17, u18, u19, u20, u21, u22, u23, u24, u25, u26, u27, u28, u29, u30, u31, u32, u33, u34, u35, u36, u37, u38, u39, u40, u41, u42, u43, u44, u45, u46, u47, u48, u49, u50, u51, u52, u53, u54, u55, u56, u57, u58, u59, u60, u61, u62, u63, u64, u65, u66, u67, u68, u69, u70, u71, u72, u73, u74, u75, u76, u77, u78, u79, u80, u81, u82, u83, u84, u85, u86, u87, u88, u89, u90, u91, u92, u93, u94, u95, u96, u97, u98, u99, u100, u101, u102, u103, u104, u105, u106, u107, u108, u109, u110, u111, u112, u113, u114, u115, u116, u117, u118, u119, u120, u121, u122, u123, u124, u125, u126, u127, u128, u129, u130, u131, u132, u133, u134, u135, u136, u137, u138, u139, u140, u141, u142, u143, u144, u145, u146, u147, u148, u149, u150, u151, u152, u153, u154, u155, u156, u157, u158, u159, u160, u161, u162, u163, u164, u165, u166, u167, u168, u169, u170, u171, u172, u173, u174, u175, u176, u177, u178, u179, u180, u181, u182, u183, u184, u185, u186, u187, u188, u189, u190, u191, u192, u193, u194, u195, u196, u197, u198, u199, u200, u201, u202, u203, u204, u205, u206, u207, u208, u209, u210, u211, u212, u213, u214, u215, u216, u217, u218, u219, u220, u221, u222, u223, u224, u225, u226, u227, u228, u229, u230, u231, u232, u233, u234, u235, u236, u237, u238, u239, u240, u241, u242, u243, u244, u245, u246, u247, u248, u249, u250, u251, u252, u253, u254, u255, u256, u257, u258, u259, u260, u261, u262, u263, u264, u265, u266, u267, u268, u269, u270, u271, u272, u273, u274, u275, u276, u277, u278, u279, u280, u281, u282, u283, u284, u285, u286, u287, u288, u289, u290, u291, u292, u293, u294, u295, u296, u297, u298, u299, u300, u301, u302], []⟩ w8j := by
  conv => arg 2; whnf
  have HX0 := Lib.hid hX
  have HRV0 := Lib.hid hRV
  have hp2 := hX.jr.max
  have HX := Lib.hid hX
  have HCL := Lib.hid hX.len
  have HN := Lib.hid hX.nL
  have HRV := Lib.hid hRV
  have hRl : ∀ k, (RV k).length ≤ L + 26 := fun k => by
    rw [hRV, ruV, fvs, List.length_map, List.length_take]
    simp only [List.length_map, rulesF, ruS, ruT, List.length_append, List.length_range, List.length_cons, List.length_nil]
    rw [hX.len]
    omega
  have HRL := Lib.hid hRl
  clear hX hRV hRl
  have HI := Lib.hid HX.out.jr.i64
  have HI' := Lib.hid HX.out.i64'
  have isz := HX.out.isz
  have iout := HX.out.iout
  have hn20 : 20 ≤ n := HX.out.jr.len
  have HRT : Hid (∀ i m, RV (L + i + m) = RV (L + i) ++ fvs ((((ruT code size (el p outc)).map fun F => F (rE p rw) (rE p rw')).drop i).take m)) := Lib.hid fun i m => by
    rw [HRV.out, ← HCL.out]
    exact ruV_T code size (el p outc) (rE p rw) (rE p rw') i m
  have n00 : 0 < n := by omega
  have n1 : (1 : Int) < (n : Int) := by have := HN.out; omega
  have n2 : (2 : Int) < (n : Int) := by have := HN.out; omega
  have n11 : (11 : Int) < (n : Int) := by have := HN.out; omega
  have n12 : (12 : Int) < (n : Int) := by have := HN.out; omega
  have n15 : (15 : Int) < (n : Int) := by have := HN.out; omega
  have n16 : (16 : Int) < (n : Int) := by have := HN.out; omega
  have n19 : (19 : Int) < (n : Int) := by have := HN.out; omega
  have n20 : (20 : Int) < (n : Int) := by have := HN.out; omega
  have HX1k := Lib.hid (HX.out.below hb8j)
  have HOk := Lib.hid (And.intro hOjn hb8j)
  have HLNk := Lib.hid (show (RV (L + 24)).length + 2 ≤ 1000000 by have := HRL.out (L + 24); omega)
  have HShaltsk : Hid (∀ W, Below w8j.heap.size w8j W → Calls Tryz.prog 138 #[.pointer (some ⟨j, 0, none⟩), .func (.func 148) #[] #[]] W fun e w' => e = .returned (vi (fv (sumI code (rE p rw) (haltI)))) ∧ Below w8j.heap.size w8j w') := Lib.hid fun W hb => (jsum_halts W (HX1k.out.below hb)).mono fun e w' h => SumIs.chain hb h
  have KTk : Hid (∀ W, Below w2.heap.size w2 W → W.cell? ⟨j, 0, none⟩ = some (.pointer (some ⟨b, 0, none⟩)) ∧ W.cell? ⟨j, 3, none⟩ = some (vi outc)) := Lib.hid fun W hb => by
    have h := HX.out.below hb
    exact ⟨h.jr.cb, h.co⟩
  have KSk : Hid (∀ W, Below w8j.heap.size w8j W → W.cell? ⟨j, 0, none⟩ = some (.pointer (some ⟨b, 0, none⟩)) ∧ W.cell? ⟨j, 3, none⟩ = some (vi outc)) := Lib.hid fun W hb => KTk.out W (HOk.out.2.trans (hb.mono HOk.out.2.size))
  clear hOjn hb8j
  go_upto_region 31 with (fail)
  have hbZk : Below w8j.heap.size w8j w8j.drew := below_drewN (Below.refl _ _) 1
  refine wp_region_held_drew (S := fun W => W.cell? ⟨j, 0, none⟩ = some (.pointer (some ⟨b, 0, none⟩)) ∧ W.cell? ⟨j, 3, none⟩ = some (vi outc)) (by kernel_rfl) (KSk.out _ hbZk) (fun hHeld => ?_)
  refine tkH 0 ?_
  refine tkH 1 ?_
  refine tkH 2 ?_
  refine tkH 3 ?_
  refine tkH 4 ?_
  refine tkH 5 ?_
  refine tkH 8 ?_
  refine tkH 9 ?_
  refine tkH 10 ?_
  refine tkH 11 ?_
  refine tkH 12 ?_
  refine tkH 14 ?_
  refine tkH 15 ?_
  refine tkH 16 ?_
  refine tkH 17 ?_
  refine stH 6 (fun K hK => ?_)
  go_simp
  refine (HShaltsk.out _ hbZk).mono ?_
  rintro _ wh1 ⟨rfl, hbh1⟩
  refine hK.out _ _ (KSk.out _ hbh1) (fun hHeld => ?_)
  clear hK K
  (try simp only [Act.put, List.setIfInBounds_toArray, List.set_cons_zero, List.set_cons_succ])
  refine stH 7 (fun K hK => ?_)
  go_simp
  refine (HX1k.out.sub _ _ (by first | exact HI.out _ | exact HI'.out _ | exact i64_fv _ hp2 | assumption | (constructor <;> omega)) (by first | exact HI.out _ | exact HI'.out _ | exact i64_fv _ hp2 | assumption | (constructor <;> omega)) _ hbh1).mono ?_
  rintro _ wh2 ⟨rfl, hbh2⟩
  refine hK.out _ _ (KSk.out _ hbh2) (fun hHeld => ?_)
  clear hK K
  (try simp only [Act.put, List.setIfInBounds_toArray, List.set_cons_zero, List.set_cons_succ])
  refine stH 13 (fun K hK => ?_)
  go_simp
  refine (HX1k.out.v0 _ hbh2).mono ?_
  rintro _ wh3 ⟨rfl, hbh3⟩
  refine hK.out _ _ (KSk.out _ hbh3) (fun hHeld => ?_)
  clear hK K
  (try simp only [Act.put, List.setIfInBounds_toArray, List.set_cons_zero, List.set_cons_succ])
  refine stH 18 (fun K hK => ?_)
  go_simp
  refine (HX1k.out.sub _ _ (by first | exact HI.out _ | exact HI'.out _ | exact i64_fv _ hp2 | assumption | (constructor <;> omega)) (by first | exact HI.out _ | exact HI'.out _ | exact i64_fv _ hp2 | assumption | (constructor <;> omega)) _ hbh3).mono ?_
  rintro _ wh4 ⟨rfl, hbh4⟩
  refine hK.out _ _ (KSk.out _ hbh4) (fun hHeld => ?_)
  clear hK K
  (try simp only [Act.put, List.setIfInBounds_toArray, List.set_cons_zero, List.set_cons_succ])
  refine stH 19 (fun K hK => ?_)
  go_simp
  refine hK.out _ _ (KSk.out _ (hbh4.alloc hbh4.size _)) (fun hHeld => ?_)
  clear hK K
  (try simp only [Act.put, List.setIfInBounds_toArray, List.set_cons_zero, List.set_cons_succ])
  refine stH 20 (fun K hK => ?_)
  refine step_appL w2 _ _ [_, _] 2 rfl (by rfl) _ _ (by rfl) _ _ (by rfl) (by rfl) (by rfl) (HOk.out.1.below hbh4) (HOk.out.2.trans (hbh4.mono HOk.out.2.size)) HLNk.out ?_
  intro v8k w8k hO8k hb8k
  change K (Act.put _ (some 302) _) _
  refine hK.out _ _ (KTk.out _ hb8k) (fun hHeld => ?_)
  clear hK K
  (try simp only [Act.put, List.setIfInBounds_toArray, List.set_cons_zero, List.set_cons_succ])
  refine tkH 21 ?_
  refine wpAnyH_done (by kernel_rfl) ?_ _
  have hOkn : Own w8k w2.heap.size v8k (RV (L + 26)) := by
    rw [show L + 26 = L + 24 + 2 from rfl, HRT.out 24 2]
    (try simp only [el_fv, el_one] at hO8k)
    exact hO8k
  clear hO8k
  go_wp2
  go_ret
  exact ⟨_, rfl, hOkn, hb8k⟩
end Go.Proofs.YtpkhcncempoohaaGreatDoor

namespace Go.Proofs.YtpkhcncempoohaaGreatDoor
open Go.RowKit Zp
set_option maxRecDepth 1000000 in
set_option maxHeartbeats 16000000 in
theorem jr_t30 (j b p : Nat) [NeZero p] (g n cA cA' : Nat) (rw : Nat → Int) (AI : Option Addr) (L cI : Nat) (code : List InsI) (size outc : Int) (g' : Nat) (rw' : Nat → Int) (hL1 : 1 ≤ L) (hL64 : L ≤ 4096) (w2 : World) (hX : JX w2 j b p g n cA rw AI L cI code size outc g' rw') (RV : Nat → List Int) (hRV : RV = ruV code size (el p outc) (rE p rw) (rE p rw')) (u3 u4 u5 u6 u8 u9 u10 u11 u12 u13 u14 u15 u16 u17 u18 u19 u20 u21 u22 u23 u24 u25 u26 u27 u28 u29 u30 u31 u32 u33 u34 u35 u36 u37 u38 u39 u40 u41 u42 u43 u44 u45 u46 u47 u48 u49 u50 u51 u52 u53 u54 u55 u56 u57 u58 u59 u60 u61 u62 u63 u64 u65 u66 u67 u68 u69 u70 u71 u72 u73 u74 u75 u76 u77 u78 u79 u80 u81 u82 u83 u84 u85 u86 u87 u88 u89 u90 u91 u92 u93 u94 u95 u96 u97 u98 u99 u100 u101 u102 u103 u104 u105 u106 u107 u108 u109 u110 u111 u112 u113 u114 u115 u116 u117 u118 u119 u120 u121 u122 u123 u124 u125 u126 u127 u128 u129 u130 u131 u132 u133 u134 u135 u136 u137 u138 u139 u140 u141 u142 u143 u144 u145 u146 u147 u148 u149 u150 u151 u152 u153 u154 u155 u156 u157 u158 u159 u160 u161 u162 u163 u164 u165 u166 u167 u168 u169 u170 u171 u172 u173 u174 u175 u176 u177 u178 u179 u180 u181 u182 u183 u184 u185 u186 u187 u188 u189 u190 u191 u192 u193 u194 u195 u196 u197 u198 u199 u200 u201 u202 u203 u204 u205 u206 u207 u208 u209 u210 u211 u212 u213 u214 u215 u216 u217 u218 u219 u220 u221 u222 u223 u224 u225 u226 u227 u228 u229 u230 u231 u232 u233 u234 u235 u236 u237 u238 u239 u240 u241 u242 u243 u244 u245 u246 u247 u248 u249 u250 u251 u252 u253 u254 u255 u256 u257 u258 u259 u260 u261 u262 u263 u264 u265 u266 u267 u268 u269 u270 u271 u272 u273 u274 u275 u276 u277 u278 u279 u280 u281 u282 u283 u284 u285 u286 u287 u288 u289 u290 u291 u292 u293 u294 u295 u296 u297 u298 u299 u300 u301 u302 v8i : Value) (w8i : World) (hOin : Own w8i w2.heap.size v8i (RV (L + 18))) (hb8i : Below w2.heap.size w2 w8i) :
    Code.wp Tryz.prog (fromR 30 jbody) (bodyPost Tryz.prog Tryz.f99 fun e w' => ∃ v, e = .returned v ∧ Own w' w2.heap.size v (RV (L + 26)) ∧ Below w2.heap.size w2 w') ⟨#[.pointer (some ⟨j, 0, none⟩), .slice (some ⟨g, 0, none⟩) n cA, .slice (some ⟨g', 0, none⟩) n cA', u3, u4, u5, u6, v8i, u8, u9, u10, u11, u12, u13, u14, u15, u16, u17, u18, u19, u20, u21, u22, u23, u24, u25, u26, u27, u28, u29, u30, u31, u32, u33, u34, u35, u36, u37, u38, u39, u40, u41, u42, u43, u44, u45, u46, u47, u48, u49, u50, u51, u52, u53, u54, u55, u56, u57, u58, u59, u60, u61, u62, u63, u64, u65, u66, u67, u68, u69, u70, u71, u72, u73, u74, u75, u76, u77, u78, u79, u80, u81, u82, u83, u84, u85, u86, u87, u88, u89, u90, u91, u92, u93, u94, u95, u96, u97, u98, u99, u100, u101, u102, u103, u104, u105, u106, u107, u108, u109, u110, u111, u112, u113, u114, u115, u116, u117, u118, u119, u120, u121, u122, u123, u124, u125, u126, u127, u128, u129, u130, u131, u132, u133, u134, u135, u136, u137, u138, u139, u140, u141, u142, u143, u144, u145, u146, u147, u148, u149, u150, u151, u152, u153, u154, u155, u156, u157, u158, u159, u160, u161, u162, u163, u164, u165, u166, u167, u168, u169, u170, u171, u172, u173, u174, u175, u176, u177, u178, u179, u180, u181, u182, u183, u184, u185, u186, u187, u188, u189, u190, u191, u192, u193, u194, u195, u196, u197, u198, u199, u200, u201, u202, u203, u204, u205, u206, u207, u208, u209, u210, u211, u212, u213, u214, u215, u216, u217, u218, u219, u220, u221, u222, u223, u224, u225, u226, u227, u228, u229, u230, u231, u232, u233, u234, u235, u236, u237, u238, u239, u240, u241, u242, u243, u244, u245, u246, u247, u248, u249, u250, u251, u252, u253, u254, u255, u256, u257, u258, u259, u260, u261, u262, u263, u264, u265, u266, u267, u268, u269, u270, u271, u272, u273, u274, u275, u276, u277, u278, u279, u280, u281, u282, u283, u284, u285, u286, u287, u288, u289, u290, u291, u292, u293, u294, u295, u296, u297, u298, u299, u300, u301, u302], []⟩ w8i := by
  conv => arg 2; whnf
  have HX0 := Lib.hid hX
  have HRV0 := Lib.hid hRV
  have hp2 := hX.jr.max
  have HX := Lib.hid hX
  have HCL := Lib.hid hX.len
  have HN := Lib.hid hX.nL
  have HRV := Lib.hid hRV
  have hRl : ∀ k, (RV k).length ≤ L + 26 := fun k => by
    rw [hRV, ruV, fvs, List.length_map, List.length_take]
    simp only [List.length_map, rulesF, ruS, ruT, List.length_append, List.length_range, List.length_cons, List.length_nil]
    rw [hX.len]
    omega
  have HRL := Lib.hid hRl
  clear hX hRV hRl
  have HI := Lib.hid HX.out.jr.i64
  have HI' := Lib.hid HX.out.i64'
  have isz := HX.out.isz
  have iout := HX.out.iout
  have hn20 : 20 ≤ n := HX.out.jr.len
  have HRT : Hid (∀ i m, RV (L + i + m) = RV (L + i) ++ fvs ((((ruT code size (el p outc)).map fun F => F (rE p rw) (rE p rw')).drop i).take m)) := Lib.hid fun i m => by
    rw [HRV.out, ← HCL.out]
    exact ruV_T code size (el p outc) (rE p rw) (rE p rw') i m
  have n00 : 0 < n := by omega
  have n1 : (1 : Int) < (n : Int) := by have := HN.out; omega
  have n2 : (2 : Int) < (n : Int) := by have := HN.out; omega
  have n11 : (11 : Int) < (n : Int) := by have := HN.out; omega
  have n12 : (12 : Int) < (n : Int) := by have := HN.out; omega
  have n15 : (15 : Int) < (n : Int) := by have := HN.out; omega
  have n16 : (16 : Int) < (n : Int) := by have := HN.out; omega
  have n19 : (19 : Int) < (n : Int) := by have := HN.out; omega
  have n20 : (20 : Int) < (n : Int) := by have := HN.out; omega
  have HX1j := Lib.hid (HX.out.below hb8i)
  have HOj := Lib.hid (And.intro hOin hb8i)
  have HLNj := Lib.hid (show (RV (L + 18)).length + 6 ≤ 1000000 by have := HRL.out (L + 18); omega)
  have KTj : Hid (∀ W, Below w2.heap.size w2 W → W.cell? ⟨j, 0, none⟩ = some (.pointer (some ⟨b, 0, none⟩)) ∧ W.cell? ⟨j, 1, none⟩ = some (vi size) ∧ W.cell? ⟨g, 20, none⟩ = some (vi (rw 20)) ∧ W.cell? ⟨g, 0, none⟩ = some (vi (rw 0)) ∧ W.cell? ⟨g, 1, none⟩ = some (vi (rw 1)) ∧ W.cell? ⟨g, 2, none⟩ = some (vi (rw 2)) ∧ W.cell? ⟨g, 12, none⟩ = some (vi (rw 12)) ∧ W.cell? ⟨g, 16, none⟩ = some (vi (rw 16))) := Lib.hid fun W hb => by
    have h := HX.out.below hb
    exact ⟨h.jr.cb, h.cs, h.jr.at_ 20 (by omega), h.jr.at_ 0 (by omega), h.jr.at_ 1 (by omega), h.jr.at_ 2 (by omega), h.jr.at_ 12 (by omega), h.jr.at_ 16 (by omega)⟩
  have KSj : Hid (∀ W, Below w8i.heap.size w8i W → W.cell? ⟨j, 0, none⟩ = some (.pointer (some ⟨b, 0, none⟩)) ∧ W.cell? ⟨j, 1, none⟩ = some (vi size) ∧ W.cell? ⟨g, 20, none⟩ = some (vi (rw 20)) ∧ W.cell? ⟨g, 0, none⟩ = some (vi (rw 0)) ∧ W.cell? ⟨g, 1, none⟩ = some (vi (rw 1)) ∧ W.cell? ⟨g, 2, none⟩ = some (vi (rw 2)) ∧ W.cell? ⟨g, 12, none⟩ = some (vi (rw 12)) ∧ W.cell? ⟨g, 16, none⟩ = some (vi (rw 16))) := Lib.hid fun W hb => KTj.out W (HOj.out.2.trans (hb.mono HOj.out.2.size))
  clear hOin hb8i
  go_upto_region 30 with (fail)
  rename ∀ (a : Act) (w : World), Code.wp _ _ _ a w → _ => HKK
  have hbZj : Below w8i.heap.size w8i w8i.drew := below_drewN (Below.refl _ _) 1
  refine wp_region_held_drew (S := fun W => W.cell? ⟨j, 0, none⟩ = some (.pointer (some ⟨b, 0, none⟩)) ∧ W.cell? ⟨j, 1, none⟩ = some (vi size) ∧ W.cell? ⟨g, 20, none⟩ = some (vi (rw 20)) ∧ W.cell? ⟨g, 0, none⟩ = some (vi (rw 0)) ∧ W.cell? ⟨g, 1, none⟩ = some (vi (rw 1)) ∧ W.cell? ⟨g, 2, none⟩ = some (vi (rw 2)) ∧ W.cell? ⟨g, 12, none⟩ = some (vi (rw 12)) ∧ W.cell? ⟨g, 16, none⟩ = some (vi (rw 16))) (by kernel_rfl) (KSj.out _ hbZj) (fun hHeld => ?_)
  refine tkH 0 ?_
  refine tkH 1 ?_
  refine tkH 2 ?_
  refine tkH 3 ?_
  refine tkH 4 ?_
  refine tkH 5 ?_
  refine tkH 6 ?_
  refine tkH 7 ?_
  refine tkH 9 ?_
  refine tkH 10 ?_
  refine tkH 11 ?_
  refine tkH 12 ?_
  refine tkH 13 ?_
  refine tkH 14 ?_
  refine tkH 15 ?_
  refine tkH 17 ?_
  refine tkH 18 ?_
  refine tkH 19 ?_
  refine tkH 20 ?_
  refine tkH 21 ?_
  refine tkH 22 ?_
  refine tkH 23 ?_
  refine tkH 24 ?_
  refine tkH 25 ?_
  refine tkH 26 ?_
  refine tkH 27 ?_
  refine tkH 29 ?_
  refine tkH 30 ?_
  refine tkH 31 ?_
  refine tkH 32 ?_
  refine tkH 33 ?_
  refine tkH 35 ?_
  refine tkH 36 ?_
  refine tkH 37 ?_
  refine tkH 38 ?_
  refine tkH 39 ?_
  refine tkH 40 ?_
  refine tkH 41 ?_
  refine tkH 43 ?_
  refine tkH 44 ?_
  refine tkH 45 ?_
  refine tkH 46 ?_
  refine tkH 47 ?_
  refine tkH 48 ?_
  refine tkH 49 ?_
  refine tkH 51 ?_
  refine tkH 52 ?_
  refine tkH 53 ?_
  refine tkH 54 ?_
  refine tkH 55 ?_
  refine tkH 56 ?_
  refine tkH 57 ?_
  refine stH 8 (fun K hK => ?_)
  go_simp
  refine (HX1j.out.sub _ _ (by first | exact HI.out _ | exact HI'.out _ | exact i64_fv _ hp2 | assumption | (constructor <;> omega)) (by first | exact HI.out _ | exact HI'.out _ | exact i64_fv _ hp2 | assumption | (constructor <;> omega)) _ hbZj).mono ?_
  rintro _ wh1 ⟨rfl, hbh1⟩
  refine hK.out _ _ (KSj.out _ hbh1) (fun hHeld => ?_)
  clear hK K
  (try simp only [Act.put, List.setIfInBounds_toArray, List.set_cons_zero, List.set_cons_succ])
  refine stH 16 (fun K hK => ?_)
  go_simp
  refine (HX1j.out.sub _ _ (by first | exact HI.out _ | exact HI'.out _ | exact i64_fv _ hp2 | assumption | (constructor <;> omega)) (by first | exact HI.out _ | exact HI'.out _ | exact i64_fv _ hp2 | assumption | (constructor <;> omega)) _ hbh1).mono ?_
  rintro _ wh2 ⟨rfl, hbh2⟩
  refine hK.out _ _ (KSj.out _ hbh2) (fun hHeld => ?_)
  clear hK K
  (try simp only [Act.put, List.setIfInBounds_toArray, List.set_cons_zero, List.set_cons_succ])
  refine stH 28 (fun K hK => ?_)
  go_simp
  refine (HX1j.out.sub _ _ (by first | exact HI.out _ | exact HI'.out _ | exact i64_fv _ hp2 | assumption | (constructor <;> omega)) (by first | exact HI.out _ | exact HI'.out _ | exact i64_fv _ hp2 | assumption | (constructor <;> omega)) _ hbh2).mono ?_
  rintro _ wh3 ⟨rfl, hbh3⟩
  refine hK.out _ _ (KSj.out _ hbh3) (fun hHeld => ?_)
  clear hK K
  (try simp only [Act.put, List.setIfInBounds_toArray, List.set_cons_zero, List.set_cons_succ])
  refine stH 34 (fun K hK => ?_)
  go_simp
  refine (HX1j.out.sub _ _ (by first | exact HI.out _ | exact HI'.out _ | exact i64_fv _ hp2 | assumption | (constructor <;> omega)) (by first | exact HI.out _ | exact HI'.out _ | exact i64_fv _ hp2 | assumption | (constructor <;> omega)) _ hbh3).mono ?_
  rintro _ wh4 ⟨rfl, hbh4⟩
  refine hK.out _ _ (KSj.out _ hbh4) (fun hHeld => ?_)
  clear hK K
  (try simp only [Act.put, List.setIfInBounds_toArray, List.set_cons_zero, List.set_cons_succ])
  refine stH 42 (fun K hK => ?_)
  go_simp
  refine (HX1j.out.of_ _ (by first | exact HI.out _ | exact HI'.out _ | exact i64_fv _ hp2 | assumption | (constructor <;> omega)) _ hbh4).mono ?_
  rintro _ wh5 ⟨rfl, hbh5⟩
  refine hK.out _ _ (KSj.out _ hbh5) (fun hHeld => ?_)
  clear hK K
  (try simp only [Act.put, List.setIfInBounds_toArray, List.set_cons_zero, List.set_cons_succ])
  refine stH 50 (fun K hK => ?_)
  go_simp
  refine (HX1j.out.of_ _ (by first | exact HI.out _ | exact HI'.out _ | exact i64_fv _ hp2 | assumption | (constructor <;> omega)) _ hbh5).mono ?_
  rintro _ wh6 ⟨rfl, hbh6⟩
  refine hK.out _ _ (KSj.out _ hbh6) (fun hHeld => ?_)
  clear hK K
  (try simp only [Act.put, List.setIfInBounds_toArray, List.set_cons_zero, List.set_cons_succ])
  refine stH 58 (fun K hK => ?_)
  go_simp
  refine (HX1j.out.of_ _ (by first | exact HI.out _ | exact HI'.out _ | exact i64_fv _ hp2 | assumption | (constructor <;> omega)) _ hbh6).mono ?_
  rintro _ wh7 ⟨rfl, hbh7⟩
  refine hK.out _ _ (KSj.out _ hbh7) (fun hHeld => ?_)
  clear hK K
  (try simp only [Act.put, List.setIfInBounds_toArray, List.set_cons_zero, List.set_cons_succ])
  refine stH 59 (fun K hK => ?_)
  go_simp
  refine hK.out _ _ (KSj.out _ (hbh7.alloc hbh7.size _)) (fun hHeld => ?_)
  clear hK K
  (try simp only [Act.put, List.setIfInBounds_toArray, List.set_cons_zero, List.set_cons_succ])
  refine stH 60 (fun K hK => ?_)
  refine step_appL w2 _ _ [_, _, _, _, _, _] 6 rfl (by rfl) _ _ (by rfl) _ _ (by rfl) (by rfl) (by rfl) (HOj.out.1.below hbh7) (HOj.out.2.trans (hbh7.mono HOj.out.2.size)) HLNj.out ?_
  intro v8j w8j hO8j hb8j
  change K (Act.put _ (some 281) _) _
  refine hK.out _ _ (KTj.out _ hb8j) (fun hHeld => ?_)
  clear hK K
  (try simp only [Act.put, List.setIfInBounds_toArray, List.set_cons_zero, List.set_cons_succ])
  refine tkH 61 ?_
  refine wpAnyH_done (by kernel_rfl) ?_ _
  have hOjn : Own w8j w2.heap.size v8j (RV (L + 24)) := by
    rw [show L + 24 = L + 18 + 6 from rfl, HRT.out 18 6]
    (try simp only [el_fv, el_one] at hO8j)
    exact hO8j
  clear hO8j
  refine HKK _ _ ?_
  exact jr_t31 j b p g n cA cA' rw AI L cI code size outc g' rw' hL1 hL64 w2 HX0.out RV HRV0.out _ _ _ _ _ _ _ _ _ _ _ _ _ _ _ _ _ _ _ _ _ _ _ _ _ _ _ _ _ _ _ _ _ _ _ _ _ _ _ _ _ _ _ _ _ _ _ _ _ _ _ _ _ _ _ _ _ _ _ _ _ _ _ _ _ _ _ _ _ _ _ _ _ _ _ _ _ _ _ _ _ _ _ _ _ _ _ _ _ _ _ _ _ _ _ _ _ _ _ _ _ _ _ _ _ _ _ _ _ _ _ _ _ _ _ _ _ _ _ _ _ _ _ _ _ _ _ _ _ _ _ _ _ _ _ _ _ _ _ _ _ _ _ _ _ _ _ _ _ _ _ _ _ _ _ _ _ _ _ _ _ _ _ _ _ _ _ _ _ _ _ _ _ _ _ _ _ _ _ _ _ _ _ _ _ _ _ _ _ _ _ _ _ _ _ _ _ _ _ _ _ _ _ _ _ _ _ _ _ _ _ _ _ _ _ _ _ _ _ _ _ _ _ _ _ _ _ _ _ _ _ _ _ _ _ _ _ _ _ _ _ _ _ _ _ _ _ _ _ _ _ _ _ _ _ _ _ _ _ _ _ _ _ _ _ _ _ _ _ _ _ _ _ _ _ _ _ _ _ _ _ _ _ _ _ _ _ _ _ _ _ _ _ _ _ _ _ _ _ _ _ hOjn hb8j
end Go.Proofs.YtpkhcncempoohaaGreatDoor

namespace Go.Proofs.YtpkhcncempoohaaGreatDoor
open Go.RowKit Zp
set_option maxRecDepth 1000000 in
set_option maxHeartbeats 16000000 in
theorem jr_t29 (j b p : Nat) [NeZero p] (g n cA cA' : Nat) (rw : Nat → Int) (AI : Option Addr) (L cI : Nat) (code : List InsI) (size outc : Int) (g' : Nat) (rw' : Nat → Int) (hL1 : 1 ≤ L) (hL64 : L ≤ 4096) (w2 : World) (hX : JX w2 j b p g n cA rw AI L cI code size outc g' rw') (RV : Nat → List Int) (hRV : RV = ruV code size (el p outc) (rE p rw) (rE p rw')) (u3 u4 u5 u6 u8 u9 u10 u11 u12 u13 u14 u15 u16 u17 u18 u19 u20 u21 u22 u23 u24 u25 u26 u27 u28 u29 u30 u31 u32 u33 u34 u35 u36 u37 u38 u39 u40 u41 u42 u43 u44 u45 u46 u47 u48 u49 u50 u51 u52 u53 u54 u55 u56 u57 u58 u59 u60 u61 u62 u63 u64 u65 u66 u67 u68 u69 u70 u71 u72 u73 u74 u75 u76 u77 u78 u79 u80 u81 u82 u83 u84 u85 u86 u87 u88 u89 u90 u91 u92 u93 u94 u95 u96 u97 u98 u99 u100 u101 u102 u103 u104 u105 u106 u107 u108 u109 u110 u111 u112 u113 u114 u115 u116 u117 u118 u119 u120 u121 u122 u123 u124 u125 u126 u127 u128 u129 u130 u131 u132 u133 u134 u135 u136 u137 u138 u139 u140 u141 u142 u143 u144 u145 u146 u147 u148 u149 u150 u151 u152 u153 u154 u155 u156 u157 u158 u159 u160 u161 u162 u163 u164 u165 u166 u167 u168 u169 u170 u171 u172 u173 u174 u175 u176 u177 u178 u179 u180 u181 u182 u183 u184 u185 u186 u187 u188 u189 u190 u191 u192 u193 u194 u195 u196 u197 u198 u199 u200 u201 u202 u203 u204 u205 u206 u207 u208 u209 u210 u211 u212 u213 u214 u215 u216 u217 u218 u219 u220 u221 u222 u223 u224 u225 u226 u227 u228 u229 u230 u231 u232 u233 u234 u235 u236 u237 u238 u239 u240 u241 u242 u243 u244 u245 u246 u247 u248 u249 u250 u251 u252 u253 u254 u255 u256 u257 u258 u259 u260 u261 u262 u263 u264 u265 u266 u267 u268 u269 u270 u271 u272 u273 u274 u275 u276 u277 u278 u279 u280 u281 u282 u283 u284 u285 u286 u287 u288 u289 u290 u291 u292 u293 u294 u295 u296 u297 u298 u299 u300 u301 u302 v8h : Value) (w8h : World) (hOhn : Own w8h w2.heap.size v8h (RV (L + 16))) (hb8h : Below w2.heap.size w2 w8h) :
    Code.wp Tryz.prog (fromR 29 jbody) (bodyPost Tryz.prog Tryz.f99 fun e w' => ∃ v, e = .returned v ∧ Own w' w2.heap.size v (RV (L + 26)) ∧ Below w2.heap.size w2 w') ⟨#[.pointer (some ⟨j, 0, none⟩), .slice (some ⟨g, 0, none⟩) n cA, .slice (some ⟨g', 0, none⟩) n cA', u3, u4, u5, u6, v8h, u8, u9, u10, u11, u12, u13, u14, u15, u16, u17, u18, u19, u20, u21, u22, u23, u24, u25, u26, u27, u28, u29, u30, u31, u32, u33, u34, u35, u36, u37, u38, u39, u40, u41, u42, u43, u44, u45, u46, u47, u48, u49, u50, u51, u52, u53, u54, u55, u56, u57, u58, u59, u60, u61, u62, u63, u64, u65, u66, u67, u68, u69, u70, u71, u72, u73, u74, u75, u76, u77, u78, u79, u80, u81, u82, u83, u84, u85, u86, u87, u88, u89, u90, u91, u92, u93, u94, u95, u96, u97, u98, u99, u100, u101, u102, u103, u104, u105, u106, u107, u108, u109, u110, u111, u112, u113, u114, u115, u116, u117, u118, u119, u120, u121, u122, u123, u124, u125, u126, u127, u128, u129, u130, u131, u132, u133, u134, u135, u136, u137, u138, u139, u140, u141, u142, u143, u144, u145, u146, u147, u148, u149, u150, u151, u152, u153, u154, u155, u156, u157, u158, u159, u160, u161, u162, u163, u164, u165, u166, u167, u168, u169, u170, u171, u172, u173, u174, u175, u176, u177, u178, u179, u180, u181, u182, u183, u184, u185, u186, u187, u188, u189, u190, u191, u192, u193, u194, u195, u196, u197, u198, u199, u200, u201, u202, u203, u204, u205, u206, u207, u208, u209, u210, u211, u212, u213, u214, u215, u216, u217, u218, u219, u220, u221, u222, u223, u224, u225, u226, u227, u228, u229, u230, u231, u232, u233, u234, u235, u236, u237, u238, u239, u240, u241, u242, u243, u244, u245, u246, u247, u248, u249, u250, u251, u252, u253, u254, u255, u256, u257, u258, u259, u260, u261, u262, u263, u264, u265, u266, u267, u268, u269, u270, u271, u272, u273, u274, u275, u276, u277, u278, u279, u280, u281, u282, u283, u284, u285, u286, u287, u288, u289, u290, u291, u292, u293, u294, u295, u296, u297, u298, u299, u300, u301, u302], []⟩ w8h := by
  conv => arg 2; whnf
  have HX0 := Lib.hid hX
  have HRV0 := Lib.hid hRV
  have hp2 := hX.jr.max
  have HX := Lib.hid hX
  have HCL := Lib.hid hX.len
  have HN := Lib.hid hX.nL
  have HRV := Lib.hid hRV
  have hRl : ∀ k, (RV k).length ≤ L + 26 := fun k => by
    rw [hRV, ruV, fvs, List.length_map, List.length_take]
    simp only [List.length_map, rulesF, ruS, ruT, List.length_append, List.length_range, List.length_cons, List.length_nil]
    rw [hX.len]
    omega
  have HRL := Lib.hid hRl
  clear hX hRV hRl
  have HI := Lib.hid HX.out.jr.i64
  have HI' := Lib.hid HX.out.i64'
  have isz := HX.out.isz
  have iout := HX.out.iout
  have hn20 : 20 ≤ n := HX.out.jr.len
  have HRT : Hid (∀ i m, RV (L + i + m) = RV (L + i) ++ fvs ((((ruT code size (el p outc)).map fun F => F (rE p rw) (rE p rw')).drop i).take m)) := Lib.hid fun i m => by
    rw [HRV.out, ← HCL.out]
    exact ruV_T code size (el p outc) (rE p rw) (rE p rw') i m
  have n00 : 0 < n := by omega
  have n1 : (1 : Int) < (n : Int) := by have := HN.out; omega
  have n2 : (2 : Int) < (n : Int) := by have := HN.out; omega
  have n11 : (11 : Int) < (n : Int) := by have := HN.out; omega
  have n12 : (12 : Int) < (n : Int) := by have := HN.out; omega
  have n15 : (15 : Int) < (n : Int) := by have := HN.out; omega
  have n16 : (16 : Int) < (n : Int) := by have := HN.out; omega
  have n19 : (19 : Int) < (n : Int) := by have := HN.out; omega
  have n20 : (20 : Int) < (n : Int) := by have := HN.out; omega
  have HX1i := Lib.hid (HX.out.below hb8h)
  have HOi := Lib.hid (And.intro hOhn hb8h)
  have HLNi := Lib.hid (show (RV (L + 16)).length + 2 ≤ 1000000 by have := HRL.out (L + 16); omega)
  have KTi : Hid (∀ W, Below w2.heap.size w2 W → W.cell? ⟨g, 15, none⟩ = some (vi (rw 15)) ∧ W.cell? ⟨g, 19, none⟩ = some (vi (rw 19)) ∧ W.cell? ⟨g', 12, none⟩ = some (vi (rw' 12)) ∧ W.cell? ⟨g', 16, none⟩ = some (vi (rw' 16))) := Lib.hid fun W hb => by
    have h := HX.out.below hb
    exact ⟨h.jr.at_ 15 (by omega), h.jr.at_ 19 (by omega), h.nx 12 (by omega), h.nx 16 (by omega)⟩
  have KSi : Hid (∀ W, Below w8h.heap.size w8h W → W.cell? ⟨g, 15, none⟩ = some (vi (rw 15)) ∧ W.cell? ⟨g, 19, none⟩ = some (vi (rw 19)) ∧ W.cell? ⟨g', 12, none⟩ = some (vi (rw' 12)) ∧ W.cell? ⟨g', 16, none⟩ = some (vi (rw' 16))) := Lib.hid fun W hb => KTi.out W (HOi.out.2.trans (hb.mono HOi.out.2.size))
  clear hOhn hb8h
  go_upto_region 29 with (fail)
  rename ∀ (a : Act) (w : World), Code.wp _ _ _ a w → _ => HKK
  have hbZi : Below w8h.heap.size w8h w8h.drew := below_drewN (Below.refl _ _) 1
  refine wp_region_held_drew (S := fun W => W.cell? ⟨g, 15, none⟩ = some (vi (rw 15)) ∧ W.cell? ⟨g, 19, none⟩ = some (vi (rw 19)) ∧ W.cell? ⟨g', 12, none⟩ = some (vi (rw' 12)) ∧ W.cell? ⟨g', 16, none⟩ = some (vi (rw' 16))) (by kernel_rfl) (KSi.out _ hbZi) (fun hHeld => ?_)
  refine tkH 0 ?_
  refine tkH 1 ?_
  refine tkH 2 ?_
  refine tkH 3 ?_
  refine tkH 4 ?_
  refine tkH 5 ?_
  refine tkH 6 ?_
  refine tkH 7 ?_
  refine tkH 8 ?_
  refine tkH 9 ?_
  refine tkH 10 ?_
  refine tkH 11 ?_
  refine tkH 12 ?_
  refine tkH 13 ?_
  refine stH 14 (fun K hK => ?_)
  go_simp
  refine (HX1i.out.order _ _ _ _ (by first | exact HI.out _ | exact HI'.out _ | exact i64_fv _ hp2 | assumption | (constructor <;> omega)) (by first | exact HI.out _ | exact HI'.out _ | exact i64_fv _ hp2 | assumption | (constructor <;> omega)) (by first | exact HI.out _ | exact HI'.out _ | exact i64_fv _ hp2 | assumption | (constructor <;> omega)) (by first | exact HI.out _ | exact HI'.out _ | exact i64_fv _ hp2 | assumption | (constructor <;> omega)) _ hbZi).mono ?_
  rintro _ wh1 ⟨Aoi, coi, rfl, hsli, hbh1⟩
  refine hK.out _ _ (KSi.out _ hbh1) (fun hHeld => ?_)
  clear hK K
  (try simp only [Act.put, List.setIfInBounds_toArray, List.set_cons_zero, List.set_cons_succ])
  refine stH 15 (fun K hK => ?_)
  refine step_appM w2 _ Aoi 2 coi _ (by rfl) _ _ (by rfl) _ _ (by rfl) (by rfl) (by rfl) (HOi.out.1.below hbh1) (HOi.out.2.trans (hbh1.mono HOi.out.2.size)) hsli HLNi.out ?_
  intro v8i w8i hO8i hb8i
  change K (Act.put _ (some 220) _) _
  refine hK.out _ _ (KTi.out _ hb8i) (fun hHeld => ?_)
  clear hK K
  (try simp only [Act.put, List.setIfInBounds_toArray, List.set_cons_zero, List.set_cons_succ])
  refine tkH 16 ?_
  refine wpAnyH_done (by kernel_rfl) ?_ _
  have hOin : Own w8i w2.heap.size v8i (RV (L + 18)) := by
    rw [show L + 18 = L + 16 + 2 from rfl, HRT.out 16 2]
    (try simp only [el_fv, el_one] at hO8i)
    exact hO8i
  clear hO8i
  refine HKK _ _ ?_
  exact jr_t30 j b p g n cA cA' rw AI L cI code size outc g' rw' hL1 hL64 w2 HX0.out RV HRV0.out _ _ _ _ _ _ _ _ _ _ _ _ _ _ _ _ _ _ _ _ _ _ _ _ _ _ _ _ _ _ _ _ _ _ _ _ _ _ _ _ _ _ _ _ _ _ _ _ _ _ _ _ _ _ _ _ _ _ _ _ _ _ _ _ _ _ _ _ _ _ _ _ _ _ _ _ _ _ _ _ _ _ _ _ _ _ _ _ _ _ _ _ _ _ _ _ _ _ _ _ _ _ _ _ _ _ _ _ _ _ _ _ _ _ _ _ _ _ _ _ _ _ _ _ _ _ _ _ _ _ _ _ _ _ _ _ _ _ _ _ _ _ _ _ _ _ _ _ _ _ _ _ _ _ _ _ _ _ _ _ _ _ _ _ _ _ _ _ _ _ _ _ _ _ _ _ _ _ _ _ _ _ _ _ _ _ _ _ _ _ _ _ _ _ _ _ _ _ _ _ _ _ _ _ _ _ _ _ _ _ _ _ _ _ _ _ _ _ _ _ _ _ _ _ _ _ _ _ _ _ _ _ _ _ _ _ _ _ _ _ _ _ _ _ _ _ _ _ _ _ _ _ _ _ _ _ _ _ _ _ _ _ _ _ _ _ _ _ _ _ _ _ _ _ _ _ _ _ _ _ _ _ _ _ _ _ _ _ _ _ _ _ _ _ _ _ _ _ _ _ _ hOin hb8i
end Go.Proofs.YtpkhcncempoohaaGreatDoor

namespace Go.Proofs.YtpkhcncempoohaaGreatDoor
open Go.RowKit Zp
set_option maxRecDepth 1000000 in
set_option maxHeartbeats 16000000 in
theorem jr_t28 (j b p : Nat) [NeZero p] (g n cA cA' : Nat) (rw : Nat → Int) (AI : Option Addr) (L cI : Nat) (code : List InsI) (size outc : Int) (g' : Nat) (rw' : Nat → Int) (hL1 : 1 ≤ L) (hL64 : L ≤ 4096) (w2 : World) (hX : JX w2 j b p g n cA rw AI L cI code size outc g' rw') (RV : Nat → List Int) (hRV : RV = ruV code size (el p outc) (rE p rw) (rE p rw')) (u3 u4 u5 u6 u8 u9 u10 u11 u12 u13 u14 u15 u16 u17 u18 u19 u20 u21 u22 u23 u24 u25 u26 u27 u28 u29 u30 u31 u32 u33 u34 u35 u36 u37 u38 u39 u40 u41 u42 u43 u44 u45 u46 u47 u48 u49 u50 u51 u52 u53 u54 u55 u56 u57 u58 u59 u60 u61 u62 u63 u64 u65 u66 u67 u68 u69 u70 u71 u72 u73 u74 u75 u76 u77 u78 u79 u80 u81 u82 u83 u84 u85 u86 u87 u88 u89 u90 u91 u92 u93 u94 u95 u96 u97 u98 u99 u100 u101 u102 u103 u104 u105 u106 u107 u108 u109 u110 u111 u112 u113 u114 u115 u116 u117 u118 u119 u120 u121 u122 u123 u124 u125 u126 u127 u128 u129 u130 u131 u132 u133 u134 u135 u136 u137 u138 u139 u140 u141 u142 u143 u144 u145 u146 u147 u148 u149 u150 u151 u152 u153 u154 u155 u156 u157 u158 u159 u160 u161 u162 u163 u164 u165 u166 u167 u168 u169 u170 u171 u172 u173 u174 u175 u176 u177 u178 u179 u180 u181 u182 u183 u184 u185 u186 u187 u188 u189 u190 u191 u192 u193 u194 u195 u196 u197 u198 u199 u200 u201 u202 u203 u204 u205 u206 u207 u208 u209 u210 u211 u212 u213 u214 u215 u216 u217 u218 u219 u220 u221 u222 u223 u224 u225 u226 u227 u228 u229 u230 u231 u232 u233 u234 u235 u236 u237 u238 u239 u240 u241 u242 u243 u244 u245 u246 u247 u248 u249 u250 u251 u252 u253 u254 u255 u256 u257 u258 u259 u260 u261 u262 u263 u264 u265 u266 u267 u268 u269 u270 u271 u272 u273 u274 u275 u276 u277 u278 u279 u280 u281 u282 u283 u284 u285 u286 u287 u288 u289 u290 u291 u292 u293 u294 u295 u296 u297 u298 u299 u300 u301 u302 v8g : Value) (w8g : World) (hOgn : Own w8g w2.heap.size v8g (RV (L + 13))) (hb8g : Below w2.heap.size w2 w8g) :
    Code.wp Tryz.prog (fromR 28 jbody) (bodyPost Tryz.prog Tryz.f99 fun e w' => ∃ v, e = .returned v ∧ Own w' w2.heap.size v (RV (L + 26)) ∧ Below w2.heap.size w2 w') ⟨#[.pointer (some ⟨j, 0, none⟩), .slice (some ⟨g, 0, none⟩) n cA, .slice (some ⟨g', 0, none⟩) n cA', u3, u4, u5, u6, v8g, u8, u9, u10, u11, u12, u13, u14, u15, u16, u17, u18, u19, u20, u21, u22, u23, u24, u25, u26, u27, u28, u29, u30, u31, u32, u33, u34, u35, u36, u37, u38, u39, u40, u41, u42, u43, u44, u45, u46, u47, u48, u49, u50, u51, u52, u53, u54, u55, u56, u57, u58, u59, u60, u61, u62, u63, u64, u65, u66, u67, u68, u69, u70, u71, u72, u73, u74, u75, u76, u77, u78, u79, u80, u81, u82, u83, u84, u85, u86, u87, u88, u89, u90, u91, u92, u93, u94, u95, u96, u97, u98, u99, u100, u101, u102, u103, u104, u105, u106, u107, u108, u109, u110, u111, u112, u113, u114, u115, u116, u117, u118, u119, u120, u121, u122, u123, u124, u125, u126, u127, u128, u129, u130, u131, u132, u133, u134, u135, u136, u137, u138, u139, u140, u141, u142, u143, u144, u145, u146, u147, u148, u149, u150, u151, u152, u153, u154, u155, u156, u157, u158, u159, u160, u161, u162, u163, u164, u165, u166, u167, u168, u169, u170, u171, u172, u173, u174, u175, u176, u177, u178, u179, u180, u181, u182, u183, u184, u185, u186, u187, u188, u189, u190, u191, u192, u193, u194, u195, u196, u197, u198, u199, u200, u201, u202, u203, u204, u205, u206, u207, u208, u209, u210, u211, u212, u213, u214, u215, u216, u217, u218, u219, u220, u221, u222, u223, u224, u225, u226, u227, u228, u229, u230, u231, u232, u233, u234, u235, u236, u237, u238, u239, u240, u241, u242, u243, u244, u245, u246, u247, u248, u249, u250, u251, u252, u253, u254, u255, u256, u257, u258, u259, u260, u261, u262, u263, u264, u265, u266, u267, u268, u269, u270, u271, u272, u273, u274, u275, u276, u277, u278, u279, u280, u281, u282, u283, u284, u285, u286, u287, u288, u289, u290, u291, u292, u293, u294, u295, u296, u297, u298, u299, u300, u301, u302], []⟩ w8g := by
  conv => arg 2; whnf
  have HX0 := Lib.hid hX
  have HRV0 := Lib.hid hRV
  have hp2 := hX.jr.max
  have HX := Lib.hid hX
  have HCL := Lib.hid hX.len
  have HN := Lib.hid hX.nL
  have HRV := Lib.hid hRV
  have hRl : ∀ k, (RV k).length ≤ L + 26 := fun k => by
    rw [hRV, ruV, fvs, List.length_map, List.length_take]
    simp only [List.length_map, rulesF, ruS, ruT, List.length_append, List.length_range, List.length_cons, List.length_nil]
    rw [hX.len]
    omega
  have HRL := Lib.hid hRl
  clear hX hRV hRl
  have HI := Lib.hid HX.out.jr.i64
  have HI' := Lib.hid HX.out.i64'
  have isz := HX.out.isz
  have iout := HX.out.iout
  have hn20 : 20 ≤ n := HX.out.jr.len
  have HRT : Hid (∀ i m, RV (L + i + m) = RV (L + i) ++ fvs ((((ruT code size (el p outc)).map fun F => F (rE p rw) (rE p rw')).drop i).take m)) := Lib.hid fun i m => by
    rw [HRV.out, ← HCL.out]
    exact ruV_T code size (el p outc) (rE p rw) (rE p rw') i m
  have n00 : 0 < n := by omega
  have n1 : (1 : Int) < (n : Int) := by have := HN.out; omega
  have n2 : (2 : Int) < (n : Int) := by have := HN.out; omega
  have n11 : (11 : Int) < (n : Int) := by have := HN.out; omega
  have n12 : (12 : Int) < (n : Int) := by have := HN.out; omega
  have n15 : (15 : Int) < (n : Int) := by have := HN.out; omega
  have n16 : (16 : Int) < (n : Int) := by have := HN.out; omega
  have n19 : (19 : Int) < (n : Int) := by have := HN.out; omega
  have n20 : (20 : Int) < (n : Int) := by have := HN.out; omega
  have HX1h := Lib.hid (HX.out.below hb8g)
  have HOh := Lib.hid (And.intro hOgn hb8g)
  have HLNh := Lib.hid (show (RV (L + 13)).length + 3 ≤ 1000000 by have := HRL.out (L + 13); omega)
  have HSfph : Hid (∀ W, Below w8g.heap.size w8g W → Calls Tryz.prog 138 #[.pointer (some ⟨j, 0, none⟩), .func (.func 145) #[.pointer (some ⟨j, 0, none⟩)] #[]] W fun e w' => e = .returned (vi (fv (sumI code (rE p rw) (fpI (rE p rw))))) ∧ Below w8g.heap.size w8g w') := Lib.hid fun W hb => (jsum_fp W (HX1h.out.below hb)).mono fun e w' h => SumIs.chain hb h
  have HSaph : Hid (∀ W, Below w8g.heap.size w8g W → Calls Tryz.prog 138 #[.pointer (some ⟨j, 0, none⟩), .func (.func 146) #[.pointer (some ⟨j, 0, none⟩)] #[]] W fun e w' => e = .returned (vi (fv (sumI code (rE p rw) (apI (rE p rw))))) ∧ Below w8g.heap.size w8g w') := Lib.hid fun W hb => (jsum_ap W (HX1h.out.below hb)).mono fun e w' h => SumIs.chain hb h
  have HSrvh : Hid (∀ W, Below w8g.heap.size w8g W → Calls Tryz.prog 138 #[.pointer (some ⟨j, 0, none⟩), .func (.func 147) #[.pointer (some ⟨j, 0, none⟩)] #[]] W fun e w' => e = .returned (vi (fv (sumI code (rE p rw) (rvI (rE p rw))))) ∧ Below w8g.heap.size w8g w') := Lib.hid fun W hb => (jsum_rv W (HX1h.out.below hb)).mono fun e w' h => SumIs.chain hb h
  have KTh : Hid (∀ W, Below w2.heap.size w2 W → W.cell? ⟨j, 0, none⟩ = some (.pointer (some ⟨b, 0, none⟩)) ∧ W.cell? ⟨g', 0, none⟩ = some (vi (rw' 0)) ∧ W.cell? ⟨g', 1, none⟩ = some (vi (rw' 1)) ∧ W.cell? ⟨g', 2, none⟩ = some (vi (rw' 2))) := Lib.hid fun W hb => by
    have h := HX.out.below hb
    exact ⟨h.jr.cb, h.nx 0 (by omega), h.nx 1 (by omega), h.nx 2 (by omega)⟩
  have KSh : Hid (∀ W, Below w8g.heap.size w8g W → W.cell? ⟨j, 0, none⟩ = some (.pointer (some ⟨b, 0, none⟩)) ∧ W.cell? ⟨g', 0, none⟩ = some (vi (rw' 0)) ∧ W.cell? ⟨g', 1, none⟩ = some (vi (rw' 1)) ∧ W.cell? ⟨g', 2, none⟩ = some (vi (rw' 2))) := Lib.hid fun W hb => KTh.out W (HOh.out.2.trans (hb.mono HOh.out.2.size))
  clear hOgn hb8g
  go_upto_region 28 with (fail)
  rename ∀ (a : Act) (w : World), Code.wp _ _ _ a w → _ => HKK
  have hbZh : Below w8g.heap.size w8g w8g.drew := below_drewN (Below.refl _ _) 1
  refine wp_region_held_drew (S := fun W => W.cell? ⟨j, 0, none⟩ = some (.pointer (some ⟨b, 0, none⟩)) ∧ W.cell? ⟨g', 0, none⟩ = some (vi (rw' 0)) ∧ W.cell? ⟨g', 1, none⟩ = some (vi (rw' 1)) ∧ W.cell? ⟨g', 2, none⟩ = some (vi (rw' 2))) (by kernel_rfl) (KSh.out _ hbZh) (fun hHeld => ?_)
  refine tkH 0 ?_
  refine tkH 1 ?_
  refine tkH 2 ?_
  refine tkH 3 ?_
  refine tkH 4 ?_
  refine tkH 5 ?_
  refine tkH 6 ?_
  refine tkH 7 ?_
  refine tkH 8 ?_
  refine tkH 9 ?_
  refine tkH 10 ?_
  refine tkH 13 ?_
  refine tkH 14 ?_
  refine tkH 15 ?_
  refine tkH 16 ?_
  refine tkH 17 ?_
  refine tkH 18 ?_
  refine tkH 19 ?_
  refine tkH 20 ?_
  refine tkH 21 ?_
  refine tkH 22 ?_
  refine tkH 25 ?_
  refine tkH 26 ?_
  refine tkH 27 ?_
  refine tkH 28 ?_
  refine tkH 29 ?_
  refine tkH 30 ?_
  refine tkH 31 ?_
  refine tkH 32 ?_
  refine tkH 33 ?_
  refine tkH 34 ?_
  refine stH 11 (fun K hK => ?_)
  go_simp
  refine (HSfph.out _ hbZh).mono ?_
  rintro _ wh1 ⟨rfl, hbh1⟩
  refine hK.out _ _ (KSh.out _ hbh1) (fun hHeld => ?_)
  clear hK K
  (try simp only [Act.put, List.setIfInBounds_toArray, List.set_cons_zero, List.set_cons_succ])
  refine stH 12 (fun K hK => ?_)
  go_simp
  refine (HX1h.out.sub _ _ (by first | exact HI.out _ | exact HI'.out _ | exact i64_fv _ hp2 | assumption | (constructor <;> omega)) (by first | exact HI.out _ | exact HI'.out _ | exact i64_fv _ hp2 | assumption | (constructor <;> omega)) _ hbh1).mono ?_
  rintro _ wh2 ⟨rfl, hbh2⟩
  refine hK.out _ _ (KSh.out _ hbh2) (fun hHeld => ?_)
  clear hK K
  (try simp only [Act.put, List.setIfInBounds_toArray, List.set_cons_zero, List.set_cons_succ])
  refine stH 23 (fun K hK => ?_)
  go_simp
  refine (HSaph.out _ hbh2).mono ?_
  rintro _ wh3 ⟨rfl, hbh3⟩
  refine hK.out _ _ (KSh.out _ hbh3) (fun hHeld => ?_)
  clear hK K
  (try simp only [Act.put, List.setIfInBounds_toArray, List.set_cons_zero, List.set_cons_succ])
  refine stH 24 (fun K hK => ?_)
  go_simp
  refine (HX1h.out.sub _ _ (by first | exact HI.out _ | exact HI'.out _ | exact i64_fv _ hp2 | assumption | (constructor <;> omega)) (by first | exact HI.out _ | exact HI'.out _ | exact i64_fv _ hp2 | assumption | (constructor <;> omega)) _ hbh3).mono ?_
  rintro _ wh4 ⟨rfl, hbh4⟩
  refine hK.out _ _ (KSh.out _ hbh4) (fun hHeld => ?_)
  clear hK K
  (try simp only [Act.put, List.setIfInBounds_toArray, List.set_cons_zero, List.set_cons_succ])
  refine stH 35 (fun K hK => ?_)
  go_simp
  refine (HSrvh.out _ hbh4).mono ?_
  rintro _ wh5 ⟨rfl, hbh5⟩
  refine hK.out _ _ (KSh.out _ hbh5) (fun hHeld => ?_)
  clear hK K
  (try simp only [Act.put, List.setIfInBounds_toArray, List.set_cons_zero, List.set_cons_succ])
  refine stH 36 (fun K hK => ?_)
  go_simp
  refine (HX1h.out.sub _ _ (by first | exact HI.out _ | exact HI'.out _ | exact i64_fv _ hp2 | assumption | (constructor <;> omega)) (by first | exact HI.out _ | exact HI'.out _ | exact i64_fv _ hp2 | assumption | (constructor <;> omega)) _ hbh5).mono ?_
  rintro _ wh6 ⟨rfl, hbh6⟩
  refine hK.out _ _ (KSh.out _ hbh6) (fun hHeld => ?_)
  clear hK K
  (try simp only [Act.put, List.setIfInBounds_toArray, List.set_cons_zero, List.set_cons_succ])
  refine stH 37 (fun K hK => ?_)
  go_simp
  refine hK.out _ _ (KSh.out _ (hbh6.alloc hbh6.size _)) (fun hHeld => ?_)
  clear hK K
  (try simp only [Act.put, List.setIfInBounds_toArray, List.set_cons_zero, List.set_cons_succ])
  refine stH 38 (fun K hK => ?_)
  refine step_appL w2 _ _ [_, _, _] 3 rfl (by rfl) _ _ (by rfl) _ _ (by rfl) (by rfl) (by rfl) (HOh.out.1.below hbh6) (HOh.out.2.trans (hbh6.mono HOh.out.2.size)) HLNh.out ?_
  intro v8h w8h hO8h hb8h
  change K (Act.put _ (some 204) _) _
  refine hK.out _ _ (KTh.out _ hb8h) (fun hHeld => ?_)
  clear hK K
  (try simp only [Act.put, List.setIfInBounds_toArray, List.set_cons_zero, List.set_cons_succ])
  refine tkH 39 ?_
  refine wpAnyH_done (by kernel_rfl) ?_ _
  have hOhn : Own w8h w2.heap.size v8h (RV (L + 16)) := by
    rw [show L + 16 = L + 13 + 3 from rfl, HRT.out 13 3]
    (try simp only [el_fv, el_one] at hO8h)
    exact hO8h
  clear hO8h
  refine HKK _ _ ?_
  exact jr_t29 j b p g n cA cA' rw AI L cI code size outc g' rw' hL1 hL64 w2 HX0.out RV HRV0.out _ _ _ _ _ _ _ _ _ _ _ _ _ _ _ _ _ _ _ _ _ _ _ _ _ _ _ _ _ _ _ _ _ _ _ _ _ _ _ _ _ _ _ _ _ _ _ _ _ _ _ _ _ _ _ _ _ _ _ _ _ _ _ _ _ _ _ _ _ _ _ _ _ _ _ _ _ _ _ _ _ _ _ _ _ _ _ _ _ _ _ _ _ _ _ _ _ _ _ _ _ _ _ _ _ _ _ _ _ _ _ _ _ _ _ _ _ _ _ _ _ _ _ _ _ _ _ _ _ _ _ _ _ _ _ _ _ _ _ _ _ _ _ _ _ _ _ _ _ _ _ _ _ _ _ _ _ _ _ _ _ _ _ _ _ _ _ _ _ _ _ _ _ _ _ _ _ _ _ _ _ _ _ _ _ _ _ _ _ _ _ _ _ _ _ _ _ _ _ _ _ _ _ _ _ _ _ _ _ _ _ _ _ _ _ _ _ _ _ _ _ _ _ _ _ _ _ _ _ _ _ _ _ _ _ _ _ _ _ _ _ _ _ _ _ _ _ _ _ _ _ _ _ _ _ _ _ _ _ _ _ _ _ _ _ _ _ _ _ _ _ _ _ _ _ _ _ _ _ _ _ _ _ _ _ _ _ _ _ _ _ _ _ _ _ _ _ _ _ _ _ hOhn hb8h
end Go.Proofs.YtpkhcncempoohaaGreatDoor
